/- The program's functions as plain functions, and that they are these. Written by a program (dec2.py). -/
import Derived.Test.YticbfakiihfgmaaGreatGf1
namespace Go.Proofs.YticbfakiihfgmaaGreat
open Go Go.Dm
set_option linter.unusedVariables false
set_option linter.unusedSimpArgs false
set_option maxRecDepth 100000
namespace G
/- slices.Concat[[]byte,byte] -/
noncomputable def slices_Concat_byte_byte_J2 (v1:List UInt8):Option (List UInt8):=
 some v1
noncomputable def slices_Concat_byte_byte_B1 (slices:List (List UInt8)) (v2:List UInt8×Int):Option ((List UInt8×Int)⊕(List UInt8)):=
 if (decide (v2.2<(slices.length:Int)))=true then
  asrt (0≤v2.2∧v2.2<(slices.length:Int)) <|
  asrt (((v2.1++(lget slices v2.2)).length:Int)*1≤140737488351232) <|
  some (Sum.inl ((v2.1++(lget slices v2.2)),w64 (v2.2+1)))
 else
  inrO (slices_Concat_byte_byte_J2 v2.1)
noncomputable def slices_Concat_byte_byte_L1 (slices:List (List UInt8)) (v0:List UInt8×Int):Option (List UInt8):=
 loopO (fun y=>slices_Concat_byte_byte_B1 slices y) v0
noncomputable def slices_Concat_byte_byte_J1 (slices:List (List UInt8)) (v:Int):Option (List UInt8):=
 ob (slices_Grow_byte_byte_v1 v) fun x=>
 slices_Concat_byte_byte_L1 slices (x,0)
noncomputable def slices_Concat_byte_byte_B2 (slices:List (List UInt8)) (v3:Int×Int):Option ((Int×Int)⊕(List UInt8)):=
 if (decide (v3.2<(slices.length:Int)))=true then
  asrt (0≤v3.2∧v3.2<(slices.length:Int)) <|
  ob (
   if (decide ((w64 (v3.1+((lget slices v3.2).length:Int)))<0))=true then
    none
   else
    some ()) fun (v4:Unit)=>
  some (Sum.inl (w64 (v3.1+((lget slices v3.2).length:Int)),w64 (v3.2+1)))
 else
  inrO (slices_Concat_byte_byte_J1 slices v3.1)
noncomputable def slices_Concat_byte_byte_L2 (slices:List (List UInt8)) (v0:Int×Int):Option (List UInt8):=
 loopO (fun y=>slices_Concat_byte_byte_B2 slices y) v0
noncomputable def slices_Concat_byte_byte (slices:List (List UInt8)):Option (List UInt8):=
 slices_Concat_byte_byte_L2 slices (0,0)
theorem slices_Concat_byte_byte_ok (slices:List (List UInt8)) (r:List UInt8) (hF:slices_Concat_byte_byte slices=some r):Pe Tryz.prog 111 (.w []) [.sl 1 (slices.map e_L_u8)] (.row 24 0) ⟨[],[],[(24,.o 5 1 0 (r.map e_u8))],[],[]⟩:=by
 refine PT 36 [.tmp 2] [22] Tryz.func111 ?_
 intro Q g hfin
 unfold slices_Concat_byte_byte at hF
 refine LR0 ?_
 refine LR0 ?_
 refine LR [.nat (slices.length:Int)] (hc (len_ok e_L_u8 slices) .nil) ?_
 refine NmeetP (fun v:Int=>(⟨[(0,.sl 1 (slices.map e_L_u8)),(3,.i v)],[],[],[],[]⟩:S)) (fun v=>slices_Concat_byte_byte_J1 slices v=some r) ?_ ?_
 ·refine Nblk ?_
  unfold slices_Concat_byte_byte_L2 at hF
  refine Nitq (fun v3:Int×Int=>(⟨[(0,.sl 1 (slices.map e_L_u8)),(3,.i v3.1),(9,.sl 1 (slices.map e_L_u8)),(10,.i (slices.length:Int)),(11,.i v3.2)],[],[],[],[]⟩:S)) [] hF ?_
  intro n1 v3 y1 hF ih1 dn1
  unfold slices_Concat_byte_byte_B2 at hF
  refine LR0 ?_
  refine Nif hF ?_ ?_ <;> intro hb hF
  ·refine Nblk ?_
   obtain ⟨h4,hF⟩:=aE hF
   refine LR [.av (e_L_u8 (lget slices v3.2))] (hc (idx_ok e_L_u8 h4) .nil) ?_
   refine LR [.nat ((lget slices v3.2).length:Int)] (hc (len_ok e_u8 (lget slices v3.2)) .nil) ?_
   refine LR0 ?_
   obtain ⟨v4,hv,hF⟩:=oE hF
   refine Nmeet (⟨[(0,.sl 1 (slices.map e_L_u8)),(3,.i (w64 (v3.1+((lget slices v3.2).length:Int)))),(9,.sl 1 (slices.map e_L_u8)),(10,.i (slices.length:Int)),(11,.i v3.2)],[],[],[],[]⟩:S) ?_ ?_
   ·have hF:=hv
    refine Nif hF ?_ ?_ <;> intro hb hF
    ·cases hF
    ·cases hF
     exact met' []
   ·refine LR0 ?_
    exact Nrnq [] hF ih1
  ·refine Nexit rfl ?_
   have hF:=inrO_done hF dn1
   exact metQ v3.1 [] hF
 ·intro v hF
  unfold slices_Concat_byte_byte_J1 at hF
  obtain ⟨x,h0,hF⟩:=oE hF
  have p1:=(Pe.ren (slices_Grow_byte_byte_v1_ok v x h0) ⟨[],[(22,24)],[],[]⟩)
  refine LR [.raw [0],cE [] [] [] [] p1] (hc p1 .nil) ?_
  refine LR [.nat (slices.length:Int)] (hc (len_ok e_L_u8 slices) .nil) ?_
  refine NmeetP (fun v1:List UInt8=>(⟨[(6,.row 24 0)],[],[(24,.o 5 1 0 (v1.map e_u8))],[],[]⟩:S)) (fun v1=>slices_Concat_byte_byte_J2 v1=some r) ?_ ?_
  ·refine Nblk ?_
   unfold slices_Concat_byte_byte_L1 at hF
   refine Nitq (fun v2:List UInt8×Int=>(⟨[(6,.row 24 0),(25,.sl 1 (slices.map e_L_u8)),(26,.i (slices.length:Int)),(27,.i v2.2)],[],[(24,.o 5 1 0 (v2.1.map e_u8))],[],[]⟩:S)) [] hF ?_
   intro n1 v2 y1 hF ih1 dn1
   unfold slices_Concat_byte_byte_B1 at hF
   refine LR0 ?_
   refine Nif hF ?_ ?_ <;> intro hb hF
   ·refine Nblk ?_
    obtain ⟨h2,hF⟩:=aE hF
    refine LR [.av (e_L_u8 (lget slices v2.2))] (hc (idx_ok e_L_u8 h2) .nil) ?_
    obtain ⟨h3,hF⟩:=aE hF
    refine LR [.xs ((v2.1++(lget slices v2.2)).map e_u8)] (hc (app_ok e_u8 v2.1 (lget slices v2.2)) (hc (appl_ok e_u8 h3) .nil)) ?_
    refine LR0 ?_
    exact Nrnq [(24,⟨0,true,true,false⟩)] hF ih1
   ·refine Nexit rfl ?_
    have hF:=inrO_done hF dn1
    exact metQ v2.1 [] hF
  ·intro v1 hF
   unfold slices_Concat_byte_byte_J2 at hF
   refine LR0 ?_
   cases hF
   exact Wz [] hfin

/- disk.Append -/
noncomputable def disk_Append (d:Disk) (b:List UInt8):Option (List UInt8×Int×Fault):=
 lt (disk_Check d) fun x=>
 if (!decide (x.Code=0))=true then
  some (([]:List UInt8),0,x)
 else
  if (decide (60000<(w64 ((d.Bytes.length:Int)+(b.length:Int)))))=true then
   lt (disk_fault 9 0) fun x1=>
   some (([]:List UInt8),0,x1)
  else
   ob (slices_Concat_byte_byte ([d.Bytes,b]:List (List UInt8))) fun x2=>
   some (x2,d.Kept,(⟨0,0⟩:Fault))
theorem disk_Append_ok (d:Disk) (b:List UInt8) (r:List UInt8×Int×Fault) (hF:disk_Append d b=some r):Pe Tryz.prog 66 (.w []) [.agg (c_Disk d),.sl 1 (b.map e_u8)] (.tup [.agg [.row 27 0,.i r.2.1],.agg (c_Fault r.2.2)]) ⟨[],[],[(27,.o 5 1 0 (r.1.map e_u8))],[],[]⟩:=by
 refine PT 32 [.cell 4 24,.cell 5 35] [24,35] Tryz.func66 ?_
 intro Q g hfin
 unfold disk_Append at hF
 refine LR0 ?_
 obtain ⟨x,h0,hF⟩:=lS hF
 refine LR [.callB (.agg (c_Fault x))] (hc (disk_Check_ok d x h0) .nil) ?_
 refine LR0 ?_
 refine Nif hF ?_ ?_ <;> intro hb hF
 ·refine VD [] [4,5] [4,5] [] [] [(4,.ptr 4 0),(5,.ptr 5 0)] [(4,[.nils,.i 0]),(5,(c_Fault x))] [] [] .nil ?_
  cases hF
  refine Wk_nilrowB 4 0 60000 5 1 rfl rfl rfl rfl rfl ?_
  refine Wk_ren' ⟨[],[(60000,27)],[],[]⟩ rfl ?_
  exact Wz [(27,⟨0,true,false,false⟩)] hfin
 ·refine LR [.nat (d.Bytes.length:Int),.nat (b.length:Int)] (hc (len_ok e_u8 d.Bytes) (hc (len_ok e_u8 b) .nil)) ?_
  refine Nif hF ?_ ?_ <;> intro hb hF
  ·obtain ⟨x1,h1,hF⟩:=lS hF
   refine VR [.callB (.agg (c_Fault x1))] [4,5] [4,5] [] [] [(4,.ptr 4 0),(5,.ptr 5 0)] [(4,[.nils,.i 0]),(5,(c_Fault x1))] [] [] (hc (disk_fault_ok 9 0 x1 h1) .nil) ?_
   cases hF
   refine Wk_nilrowB 4 0 60001 5 1 rfl rfl rfl rfl rfl ?_
   refine Wk_ren' ⟨[],[(60001,27)],[],[]⟩ rfl ?_
   exact Wz [(27,⟨0,true,false,false⟩)] hfin
  ·obtain ⟨x2,h2,hF⟩:=oE hF
   have p3:=(Pe.ren (slices_Concat_byte_byte_ok ([d.Bytes,b]:List (List UInt8)) x2 h2) ⟨[],[(24,27)],[],[]⟩)
   refine LD [.sealed,cE [] [] [] [] p3] (hc p3 .nil) ?_
   cases hF
   exact Wz [] hfin

/- (*tablet.tab).fill$1 -/
noncomputable def tablet_tab_fill_1_v1 (num:Note) (box:Int) (box1:List (List UInt8)) (box2 box3 box4:Int) (row:List UInt8) (row1:List Note) (row2:List Cell) (row3:List (List Cell)):Bool:=
 decide (box2<num.Seq)
theorem tablet_tab_fill_1_v1_ok (num:Note) (box:Int) (box1:List (List UInt8)) (box2 box3 box4:Int) (row:List UInt8) (row1:List Note) (row2:List Cell) (row3:List (List Cell)) (rk rc:Nat) (rn:Bool) (rk1 rc1:Nat) (rn1:Bool) (rk2 rc2:Nat) (rn2:Bool) (rk3 rc3:Nat) (rn3 r:Bool) (hF:tablet_tab_fill_1_v1 num box box1 box2 box3 box4 row row1 row2 row3=r):Pe Tryz.prog 115 ⟨[],[(100000,[.ptr 100001 0]),(100001,[.row 100000 0,.i box,.sl 1 (box1.map e_L_u8),.i box2,.i box3,.row 100001 0,.i box4,.row 100002 0,.row 100003 0])],[(100000,.q 5 1 0 rk rc rn (row.map e_u8)),(100001,.q 50 2 0 rk1 rc1 rn1 (row1.map e_Note)),(100002,.q 53 5 0 rk2 rc2 rn2 (row2.map e_Cell)),(100003,.q 28 1 0 rk3 rc3 rn3 (row3.map e_L_Cell))],[],[]⟩ [.agg (c_Note num),.ptr 100000 0] (.bool r) ⟨[],[(100000,[.ptr 100001 0]),(100001,[.row 100000 0,.i box,.sl 1 (box1.map e_L_u8),.i box2,.i box3,.row 100001 0,.i box4,.row 100002 0,.row 100003 0])],[(100000,.q 5 1 0 rk rc rn (row.map e_u8)),(100001,.q 50 2 0 rk1 rc1 rn1 (row1.map e_Note)),(100002,.q 53 5 0 rk2 rc2 rn2 (row2.map e_Cell)),(100003,.q 28 1 0 rk3 rc3 rn3 (row3.map e_L_Cell))],[],[]⟩:=by
 refine PT 12 [.tmp 3] [4] Tryz.func115 ?_
 intro Q g hfin
 unfold tablet_tab_fill_1_v1 at hF
 refine LR0 ?_
 refine LD0 ?_
 cases hF
 exact Wz [] hfin

/- slices.IndexFunc[[]api.Note,api.Note] -/
noncomputable def slices_IndexFunc_api_Note_api_Note_v1_J1 (v:Unit):Option Int:=
 some (-1)
noncomputable def slices_IndexFunc_api_Note_api_Note_v1_B1 (box:Int) (box1:List (List UInt8)) (box2 box3 box4:Int) (row:List Note) (row1:List UInt8) (row2:List Cell) (row3:List (List Cell)) (v1:Int):Option (Int⊕Int):=
 if (decide (v1<(row.length:Int)))=true then
  asrt (0≤v1∧v1<(row.length:Int)) <|
  asrt (0≤v1∧v1<(row.length:Int)) <|
  lt (tablet_tab_fill_1_v1 (⟨(lget row v1).Seq,(lget row v1).Cells⟩:Note) box box1 box2 box3 box4 row1 row row2 row3) fun x=>
  if x=true then
   some (Sum.inr v1)
  else
   some (Sum.inl (w64 (v1+1)))
 else
  inrO (slices_IndexFunc_api_Note_api_Note_v1_J1 ())
noncomputable def slices_IndexFunc_api_Note_api_Note_v1_L1 (box:Int) (box1:List (List UInt8)) (box2 box3 box4:Int) (row:List Note) (row1:List UInt8) (row2:List Cell) (row3:List (List Cell)) (v0:Int):Option Int:=
 loopO (fun y=>slices_IndexFunc_api_Note_api_Note_v1_B1 box box1 box2 box3 box4 row row1 row2 row3 y) v0
noncomputable def slices_IndexFunc_api_Note_api_Note_v1 (box:Int) (box1:List (List UInt8)) (box2 box3 box4:Int) (row:List Note) (row1:List UInt8) (row2:List Cell) (row3:List (List Cell)):Option Int:=
 slices_IndexFunc_api_Note_api_Note_v1_L1 box box1 box2 box3 box4 row row1 row2 row3 0
theorem slices_IndexFunc_api_Note_api_Note_v1_ok (box:Int) (box1:List (List UInt8)) (box2 box3 box4:Int) (row:List Note) (row1:List UInt8) (row2:List Cell) (row3:List (List Cell)) (rk rc:Nat) (rn:Bool) (rk1 rc1:Nat) (rn1:Bool) (rk2 rc2:Nat) (rn2:Bool) (rk3 rc3:Nat) (rn3:Bool) (r:Int) (hF:slices_IndexFunc_api_Note_api_Note_v1 box box1 box2 box3 box4 row row1 row2 row3=some r):Pe Tryz.prog 114 ⟨[],[(100000,[.ptr 100001 0]),(100001,[.row 100001 0,.i box,.sl 1 (box1.map e_L_u8),.i box2,.i box3,.row 100000 0,.i box4,.row 100002 0,.row 100003 0])],[(100000,.q 50 2 0 rk rc rn (row.map e_Note)),(100001,.q 5 1 0 rk1 rc1 rn1 (row1.map e_u8)),(100002,.q 53 5 0 rk2 rc2 rn2 (row2.map e_Cell)),(100003,.q 28 1 0 rk3 rc3 rn3 (row3.map e_L_Cell))],[],[]⟩ [.row 100000 0,.fn 115 [.ptr 100000 0]] (.i r) ⟨[],[(100000,[.ptr 100001 0]),(100001,[.row 100001 0,.i box,.sl 1 (box1.map e_L_u8),.i box2,.i box3,.row 100000 0,.i box4,.row 100002 0,.row 100003 0])],[(100000,.q 50 2 0 rk rc rn (row.map e_Note)),(100001,.q 5 1 0 rk1 rc1 rn1 (row1.map e_u8)),(100002,.q 53 5 0 rk2 rc2 rn2 (row2.map e_Cell)),(100003,.q 28 1 0 rk3 rc3 rn3 (row3.map e_L_Cell))],[],[]⟩:=by
 refine PT 19 [.tmp 4] [3] Tryz.func114 ?_
 intro Q g hfin
 unfold slices_IndexFunc_api_Note_api_Note_v1 at hF
 refine LR0 ?_
 refine LR [.nat (row.length:Int)] (hc (len_ok e_Note row) .nil) ?_
 refine NmeetP (fun v:Unit=>(⟨[],[(100000,[.ptr 100001 0]),(100001,[.row 100001 0,.i box,.sl 1 (box1.map e_L_u8),.i box2,.i box3,.row 100000 0,.i box4,.row 100002 0,.row 100003 0])],[(100000,.q 50 2 0 rk rc rn (row.map e_Note)),(100001,.q 5 1 0 rk1 rc1 rn1 (row1.map e_u8)),(100002,.q 53 5 0 rk2 rc2 rn2 (row2.map e_Cell)),(100003,.q 28 1 0 rk3 rc3 rn3 (row3.map e_L_Cell))],[],[]⟩:S)) (fun v=>slices_IndexFunc_api_Note_api_Note_v1_J1 v=some r) ?_ ?_
 ·refine Nblk ?_
  unfold slices_IndexFunc_api_Note_api_Note_v1_L1 at hF
  refine Nitq (fun v1:Int=>(⟨[(0,.row 100000 0),(1,.fn 115 [.ptr 100000 0]),(7,.i (row.length:Int)),(8,.i v1)],[(100000,[.ptr 100001 0]),(100001,[.row 100001 0,.i box,.sl 1 (box1.map e_L_u8),.i box2,.i box3,.row 100000 0,.i box4,.row 100002 0,.row 100003 0])],[(100000,.q 50 2 0 rk rc rn (row.map e_Note)),(100001,.q 5 1 0 rk1 rc1 rn1 (row1.map e_u8)),(100002,.q 53 5 0 rk2 rc2 rn2 (row2.map e_Cell)),(100003,.q 28 1 0 rk3 rc3 rn3 (row3.map e_L_Cell))],[],[]⟩:S)) [] hF ?_
  intro n1 v1 y1 hF ih1 dn1
  unfold slices_IndexFunc_api_Note_api_Note_v1_B1 at hF
  refine LR0 ?_
  refine Nif hF ?_ ?_ <;> intro hb hF
  ·refine Nblk ?_
   refine LR0 ?_
   obtain ⟨h0,h1,hF⟩:=asrt2 hF
   obtain ⟨x,h2,hF⟩:=lS hF
   refine LR [.av (e_Note (lget row v1)),.callR [100000,100001] [100001,100000,100002,100003] [] [] (.bool x)] (hc (ixr_ok e_Note h0) (hc (ldr_ok e_Note h1) (hc (Pe.ren (tablet_tab_fill_1_v1_ok (⟨(lget row v1).Seq,(lget row v1).Cells⟩:Note) box box1 box2 box3 box4 row1 row row2 row3 rk1 rc1 rn1 rk rc rn rk2 rc2 rn2 rk3 rc3 rn3 x h2) ⟨[],[(100000,100001)],[],[]⟩) .nil))) ?_
   refine Nif hF ?_ ?_ <;> intro hb hF
   ·refine LR0 ?_
    have hF:=ret_done hF dn1
    cases hF
    exact Wz [] hfin
   ·refine LR0 ?_
    exact Nrnq [] hF ih1
  ·refine Nexit rfl ?_
   have hF:=inrO_done hF dn1
   exact metQ () [] hF
 ·intro v hF
  unfold slices_IndexFunc_api_Note_api_Note_v1_J1 at hF
  refine LR0 ?_
  cases hF
  exact Wz [] hfin

/- (*tablet.tab).lists -/
noncomputable def tablet_tab_lists_v1 (box:Int) (box1:List (List UInt8)) (box2 box3 box4:Int) (row:List UInt8) (row1:List Note) (row2:List Cell) (row3:List (List Cell)):Option (List (List Cell)×List Cell):=
 asrt (((([row2]:List (List Cell))++row3).length:Int)*24≤140737488351232) <|
 some ((([row2]:List (List Cell))++row3),row2)
theorem tablet_tab_lists_v1_ok (box:Int) (box1:List (List UInt8)) (box2 box3 box4:Int) (row:List UInt8) (row1:List Note) (row2:List Cell) (row3:List (List Cell)) (rk rc:Nat) (rn:Bool) (rk1 rc1:Nat) (rn1:Bool) (rk2 rc2:Nat) (rn2:Bool) (rk3 rc3:Nat) (rn3:Bool) (r:List (List Cell)×List Cell) (hF:tablet_tab_lists_v1 box box1 box2 box3 box4 row row1 row2 row3=some r):Pe Tryz.prog 132 ⟨[],[(100000,[.row 100000 0,.i box,.sl 1 (box1.map e_L_u8),.i box2,.i box3,.row 100001 0,.i box4,.row 100002 0,.row 100003 0])],[(100000,.q 5 1 0 rk rc rn (row.map e_u8)),(100001,.q 50 2 0 rk1 rc1 rn1 (row1.map e_Note)),(100002,.q 53 5 0 rk2 rc2 rn2 (row2.map e_Cell)),(100003,.q 28 1 0 rk3 rc3 rn3 (row3.map e_L_Cell))],[],[]⟩ [.ptr 100000 0] (.row 7 1) ⟨[],[(100000,[.row 100000 0,.i box,.sl 1 (box1.map e_L_u8),.i box2,.i box3,.row 100001 0,.i box4,.row 100002 0,.row 100003 0])],[(100000,.q 5 1 0 rk rc rn (row.map e_u8)),(100001,.q 50 2 0 rk1 rc1 rn1 (row1.map e_Note)),(100002,⟨53,5,0,(r.2.map e_Cell).length,rc2,rn2,0,[],(r.2.map e_Cell)⟩),(100003,.q 28 1 0 rk3 rc3 rn3 (row3.map e_L_Cell)),(7,.z 28 1 1 (r.1.map e_L_Cell))],[],[]⟩:=by
 refine PT 13 [.tmp 2] [42] Tryz.func132 ?_
 intro Q g hfin
 unfold tablet_tab_lists_v1 at hF
 refine LR0 ?_
 obtain ⟨h0,hF⟩:=aE hF
 refine LD [.xs ((([row2]:List (List Cell))++row3).map e_L_Cell)] (hc (app_ok e_L_Cell ([row2]:List (List Cell)) row3) (hc (appl_ok e_L_Cell h0) .nil)) ?_
 cases hF
 exact Wz [] hfin

/- (*tablet.tab).all -/
noncomputable def tablet_tab_all_v1 (box:Int) (box1:List (List UInt8)) (box2 box3 box4:Int) (row:List UInt8) (row1:List Note) (row2:List Cell) (row3:List (List Cell)):Option (List Cell×List Cell):=
 ob (tablet_tab_lists_v1 box box1 box2 box3 box4 row row1 row2 row3) fun x=>
 ob (cell_Merge x.1) fun x1=>
 some (x1,x.2)
theorem tablet_tab_all_v1_ok (box:Int) (box1:List (List UInt8)) (box2 box3 box4:Int) (row:List UInt8) (row1:List Note) (row2:List Cell) (row3:List (List Cell)) (rk rc:Nat) (rn:Bool) (rk1 rc1:Nat) (rn1:Bool) (rk2 rc2:Nat) (rn2:Bool) (rk3 rc3:Nat) (rn3:Bool) (r:List Cell×List Cell) (hF:tablet_tab_all_v1 box box1 box2 box3 box4 row row1 row2 row3=some r):Pe Tryz.prog 92 ⟨[],[(100000,[.row 100000 0,.i box,.sl 1 (box1.map e_L_u8),.i box2,.i box3,.row 100001 0,.i box4,.row 100002 0,.row 100003 0])],[(100000,.q 5 1 0 rk rc rn (row.map e_u8)),(100001,.q 50 2 0 rk1 rc1 rn1 (row1.map e_Note)),(100002,.q 53 5 0 rk2 rc2 rn2 (row2.map e_Cell)),(100003,.q 28 1 0 rk3 rc3 rn3 (row3.map e_L_Cell))],[],[]⟩ [.ptr 100000 0] (.row 5 1) ⟨[],[(100000,[.row 100000 0,.i box,.sl 1 (box1.map e_L_u8),.i box2,.i box3,.row 100001 0,.i box4,.row 100002 0,.row 100003 0])],[(100000,.q 5 1 0 rk rc rn (row.map e_u8)),(100001,.q 50 2 0 rk1 rc1 rn1 (row1.map e_Note)),(100002,⟨53,5,0,(r.2.map e_Cell).length,rc2,rn2,0,[],(r.2.map e_Cell)⟩),(100003,.q 28 1 0 rk3 rc3 rn3 (row3.map e_L_Cell)),(5,.o 53 5 1 (r.1.map e_Cell))],[],[]⟩:=by
 refine PT 6 [.tmp 2] [28] Tryz.func92 ?_
 intro Q g hfin
 unfold tablet_tab_all_v1 at hF
 refine LR0 ?_
 obtain ⟨x,h0,hF⟩:=oE hF
 have p1:=(Pe.ren (tablet_tab_lists_v1_ok box box1 box2 box3 box4 row row1 row2 row3 rk rc rn rk1 rc1 rn1 rk2 rc2 rn2 rk3 rc3 rn3 x h0) ⟨[],[(7,4)],[],[]⟩)
 obtain ⟨x1,h2,hF⟩:=oE hF
 have p3:=(Pe.ren (cell_Merge_ok x.1 x1 h2) ⟨[],[],[],[]⟩)
 refine LR [cE [100000] [100000,100001,100002,100003] [] [] p1,cE [] [] [] [] p3] (hc p1 (hc p3 .nil)) ?_
 cases hF
 exact Wz [] hfin

/- (*tablet.tab).fill -/
noncomputable def tablet_tab_fill_v1 (box:Int) (box1:List (List UInt8)) (box2 box3 box4:Int) (row:List UInt8) (row1:List Note) (row2:List Cell) (row3:List (List Cell)):Option (Fault×Int×List (List UInt8)×Int×Int×List Note×Int×List Cell):=
 ob (slices_IndexFunc_api_Note_api_Note_v1 box box1 box2 box3 box4 row1 row row2 row3) fun x=>
 ob (
  if (decide (0≤x))=true then
   asrt (0≤x∧x≤(row1.length:Int)) <|
   ob (wal_Put ([]:List Cell) (ldrop row1 x)) fun x1=>
   some (x1,(⟨0,0⟩:Fault))
  else
   some (([]:List Cell),(⟨0,0⟩:Fault))) fun (v:List Cell×Fault)=>
 if (decide (500<(v.1.length:Int)))=true then
  lt (tablet_fault 9 (-2)) fun x2=>
  some (x2,box,box1,box2,box3,row1,box4,v.1)
 else
  ob (tablet_tab_all_v1 box box1 box2 box3 box4 row row1 v.1 row3) fun x3=>
  if (decide (1000<(x3.1.length:Int)))=true then
   lt (tablet_fault 9 (-1)) fun x4=>
   some (x4,box,box1,box2,box3,row1,box4,x3.2)
  else
   some ((⟨0,0⟩:Fault),box,box1,box2,box3,row1,box4,x3.2)
theorem tablet_tab_fill_v1_ok (box:Int) (box1:List (List UInt8)) (box2 box3 box4:Int) (row:List UInt8) (row1:List Note) (row2:List Cell) (row3:List (List Cell)) (rk rc:Nat) (rn:Bool) (rk1 rc1:Nat) (rn1:Bool) (rk2 rc2:Nat) (rn2:Bool) (rk3 rc3:Nat) (rn3:Bool) (r:Fault×Int×List (List UInt8)×Int×Int×List Note×Int×List Cell) (hF:tablet_tab_fill_v1 box box1 box2 box3 box4 row row1 row2 row3=some r):Pe Tryz.prog 68 ⟨[],[(100000,[.row 100000 0,.i box,.sl 1 (box1.map e_L_u8),.i box2,.i box3,.row 100001 0,.i box4,.row 100002 0,.row 100003 0])],[(100000,.q 5 1 0 rk rc rn (row.map e_u8)),(100001,.q 50 2 0 rk1 rc1 rn1 (row1.map e_Note)),(100002,.q 53 5 0 rk2 rc2 rn2 (row2.map e_Cell)),(100003,.q 28 1 0 rk3 rc3 rn3 (row3.map e_L_Cell))],[],[]⟩ [.ptr 100000 0] (.agg (c_Fault r.1)) ⟨[],[(100000,[.row 100000 0,.i r.2.1,.sl 1 (r.2.2.1.map e_L_u8),.i r.2.2.2.1,.i r.2.2.2.2.1,.row 100001 0,.i r.2.2.2.2.2.2.1,.row 22 0,.row 100003 0])],[(100000,.q 5 1 0 rk rc rn (row.map e_u8)),(100001,⟨50,2,0,(r.2.2.2.2.2.1.map e_Note).length,rc1,rn1,0,[],(r.2.2.2.2.2.1.map e_Note)⟩),(100002,.q 53 5 0 rk2 rc2 rn2 (row2.map e_Cell)),(100003,.q 28 1 0 rk3 rc3 rn3 (row3.map e_L_Cell)),(22,⟨53,5,0,(r.2.2.2.2.2.2.2.map e_Cell).length,0,false,0,[],(r.2.2.2.2.2.2.2.map e_Cell)⟩)],[],[]⟩:=by
 refine PT 38 [.cell 2 35] [35] Tryz.func68 ?_
 intro Q g hfin
 unfold tablet_tab_fill_v1 at hF
 refine LR0 ?_
 obtain ⟨x,h0,hF⟩:=oE hF
 refine LR [.callR [1,100000] [100001,100000,100002,100003] [] [] (.i x)] (hc (Pe.ren (slices_IndexFunc_api_Note_api_Note_v1_ok box box1 box2 box3 box4 row1 row row2 row3 rk1 rc1 rn1 rk rc rn rk2 rc2 rn2 rk3 rc3 rn3 x h0) ⟨[(100000,1),(100001,100000)],[(100000,100001)],[],[]⟩) .nil) ?_
 refine LR0 ?_
 refine VR [] [1,2,3,14] [1,2,100000] [100000,100001,100002,100003] [] [(1,.ptr 1 0),(2,.ptr 2 0),(3,.i x),(14,.bool (decide (0≤x)))] [(1,[.ptr 100000 0]),(2,[.i 0,.i 0]),(100000,[.row 100000 0,.i box,.sl 1 (box1.map e_L_u8),.i box2,.i box3,.row 100001 0,.i box4,.nils,.row 100003 0])] [(100000,.q 5 1 0 rk rc rn (row.map e_u8)),(100001,.q 50 2 0 rk1 rc1 rn1 (row1.map e_Note)),(100002,.q 53 5 0 rk2 rc2 rn2 (row2.map e_Cell)),(100003,.q 28 1 0 rk3 rc3 rn3 (row3.map e_L_Cell))] [] .nil ?_
 obtain ⟨v,hv,hF⟩:=oE hF
 refine Nmeet (⟨[(1,.ptr 1 0),(2,.ptr 2 0)],[(1,[.ptr 100000 0]),(2,(c_Fault v.2)),(100000,[.row 100000 0,.i box,.sl 1 (box1.map e_L_u8),.i box2,.i box3,.row 100001 0,.i box4,.row 22 0,.row 100003 0])],[(22,.o 53 5 0 (v.1.map e_Cell)),(100000,.q 5 1 0 rk rc rn (row.map e_u8)),(100001,⟨50,2,0,(row1.map e_Note).length,rc1,rn1,0,[],(row1.map e_Note)⟩),(100002,.q 53 5 0 rk2 rc2 rn2 (row2.map e_Cell)),(100003,.q 28 1 0 rk3 rc3 rn3 (row3.map e_L_Cell))],[],[]⟩:S) ?_ ?_
 ·have hF:=hv
  refine Nif hF ?_ ?_ <;> intro hb hF
  ·obtain ⟨h1,hF⟩:=aE hF
   obtain ⟨x1,h2,hF⟩:=oE hF
   have p3:=(Pe.ren (wal_Put_ok ([]:List Cell) (ldrop row1 x) x1 h2) ⟨[],[(5,22)],[],[]⟩)
   refine LD [.xs ((ldrop row1 x).map e_Note),cE [] [] [] [] p3] (hc (sl10_ok e_Note h1) (hc p3 .nil)) ?_
   cases hF
   exact met' [(22,⟨0,true,true,false⟩)]
  ·refine Wk_nilrowB 100000 7 60000 53 5 rfl rfl rfl rfl rfl ?_
   refine Wk_trim (fs:=[1,2]) (bs:=[1,2,100000]) (rs:=[60000,100000,100001,100002,100003]) (ms:=[]) (aa:=[]) (nv:=[]) rfl ?_
   refine Wk_ren' ⟨[],[(60000,22)],[],[]⟩ rfl ?_
   cases hF
   exact met' [(22,⟨0,true,false,false⟩),(100001,⟨0,true,true,true⟩)]
 ·refine LR [.nat (v.1.length:Int)] (hc (len_ok e_Cell v.1) .nil) ?_
  refine Nif hF ?_ ?_ <;> intro hb hF
  ·obtain ⟨x2,h4,hF⟩:=lS hF
   refine LR [.callB (.agg (c_Fault x2))] (hc (tablet_fault_ok 9 (-2) x2 h4) .nil) ?_
   cases hF
   exact Wz [(22,⟨0,true,true,true⟩)] hfin
  ·obtain ⟨x3,h5,hF⟩:=oE hF
   have p6:=(Pe.ren (tablet_tab_all_v1_ok box box1 box2 box3 box4 row row1 v.1 row3 rk rc rn ((row1.map e_Note).length) rc1 rn1 0 0 false rk3 rc3 rn3 x3 h5) ⟨[],[(100002,22),(5,33)],[],[]⟩)
   refine LR [cE [100000] [100000,100001,22,100003] [] [] p6,.nat (x3.1.length:Int)] (hc p6 (hc (len_ok e_Cell x3.1) .nil)) ?_
   refine Nif hF ?_ ?_ <;> intro hb hF
   ·obtain ⟨x4,h7,hF⟩:=lS hF
    refine LR [.callB (.agg (c_Fault x4))] (hc (tablet_fault_ok 9 (-1) x4 h7) .nil) ?_
    cases hF
    exact Wz [(100001,⟨0,true,true,true⟩)] hfin
   ·refine LR0 ?_
    cases hF
    exact Wz [(100001,⟨0,true,true,true⟩)] hfin

/- tablet.Put$1 -/
noncomputable def tablet_Put_1_J1 (box:List UInt8) (box1:Int) (box2:List (List UInt8)) (box3 box4:Int) (box5 box8:Int) (row:List Note) (row1:List Cell) (row2:List (List Cell)) (v:Tablet×Fault×Note):Option (Fault×List UInt8×Int×List (List UInt8)×Int×Int×List Note×Int×List Cell×Tablet×Int):=
 ob (wal_Frame_v1 v.2.2) fun x1=>
 ob (disk_Append v.1.Log x1) fun x2=>
 if (!decide (x2.2.2.Code=0))=true then
  some (x2.2.2,box,box1,box2,box3,box4,row,box5,row1,v.1,box8)
 else
  asrt (((row++[v.2.2]).length:Int)*32≤140737488351232) <|
  ob (tablet_tab_fill_v1 x2.2.1 box2 box3 box4 box5 x2.1 (row++[v.2.2]) row1 row2) fun x3=>
  some (x3.1,x2.1,x3.2.1,x3.2.2.1,x3.2.2.2.1,x3.2.2.2.2.1,x3.2.2.2.2.2.1,x3.2.2.2.2.2.2.1,x3.2.2.2.2.2.2.2,v.1,v.2.2.Seq)
noncomputable def tablet_Put_1_B1 (box:List UInt8) (box1:Int) (box2:List (List UInt8)) (box3 box4 box5:Int) (box6:List Cell) (box8:Int) (row:List Note) (row1:List Cell) (row2:List (List Cell)) (v1:Tablet×Fault×Note×Int):Option ((Tablet×Fault×Note×Int)⊕(Fault×List UInt8×Int×List (List UInt8)×Int×Int×List Note×Int×List Cell×Tablet×Int)):=
 if (decide (v1.2.2.2<(box6.length:Int)))=true then
  asrt (0≤v1.2.2.2∧v1.2.2.2<(box6.length:Int)) <|
  if (decide (((lget box6 v1.2.2.2).Time)<v1.1.Since))=true then
   lt (tablet_fault 12 v1.2.2.2) fun x4=>
   some (Sum.inr (x4,box,box1,box2,box3,box4,row,box5,row1,v1.1,box8))
  else
   some (Sum.inl (v1.1,v1.2.1,v1.2.2.1,w64 (v1.2.2.2+1)))
 else
  inrO (tablet_Put_1_J1 box box1 box2 box3 box4 box5 box8 row row1 row2 (v1.1,v1.2.1,v1.2.2.1))
noncomputable def tablet_Put_1_L1 (box:List UInt8) (box1:Int) (box2:List (List UInt8)) (box3 box4 box5:Int) (box6:List Cell) (box8:Int) (row:List Note) (row1:List Cell) (row2:List (List Cell)) (v0:Tablet×Fault×Note×Int):Option (Fault×List UInt8×Int×List (List UInt8)×Int×Int×List Note×Int×List Cell×Tablet×Int):=
 loopO (fun y=>tablet_Put_1_B1 box box1 box2 box3 box4 box5 box6 box8 row row1 row2 y) v0
noncomputable def tablet_Put_1 (box:List UInt8) (box1:Int) (box2:List (List UInt8)) (box3 box4 box5:Int) (box6:List Cell) (box7:Tablet) (box8:Int) (row:List Note) (row1:List Cell) (row2:List (List Cell)):Option (Fault×List UInt8×Int×List (List UInt8)×Int×Int×List Note×Int×List Cell×Tablet×Int):=
 ob (wal_Check (⟨w64 (box5+1),box6⟩:Note)) fun x=>
 if (!decide (x.Code=0))=true then
  some (x,box,box1,box2,box3,box4,row,box5,row1,box7,box8)
 else
  tablet_Put_1_L1 box box1 box2 box3 box4 box5 box6 box8 row row1 row2 (box7,(⟨0,0⟩:Fault),(⟨w64 (box5+1),box6⟩:Note),0)
theorem tablet_Put_1_ok (box:List UInt8) (box1:Int) (box2:List (List UInt8)) (box3 box4 box5:Int) (box6:List Cell) (box7:Tablet) (box8:Int) (row:List Note) (row1:List Cell) (row2:List (List Cell)) (rk rc:Nat) (rn:Bool) (rk1 rc1:Nat) (rn1:Bool) (rk2 rc2:Nat) (rn2:Bool) (r:Fault×List UInt8×Int×List (List UInt8)×Int×Int×List Note×Int×List Cell×Tablet×Int) (hF:tablet_Put_1 box box1 box2 box3 box4 box5 box6 box7 box8 row row1 row2=some r):Pe Tryz.prog 63 ⟨[],[(100000,[.sl 1 (box.map e_u8),.i box1,.sl 1 (box2.map e_L_u8),.i box3,.i box4,.row 100000 0,.i box5,.row 100001 0,.row 100002 0]),(100001,[.sl 5 (box6.map e_Cell)]),(100002,(c_Tablet box7)),(100003,[.i box8])],[(100000,.q 50 2 0 rk rc rn (row.map e_Note)),(100001,.q 53 5 0 rk1 rc1 rn1 (row1.map e_Cell)),(100002,.q 28 1 0 rk2 rc2 rn2 (row2.map e_L_Cell))],[],[]⟩ [.ptr 100000 0,.ptr 100001 0,.ptr 100002 0,.ptr 100003 0] (.agg (c_Fault r.1)) ⟨[],[(100000,[.sl 1 (r.2.1.map e_u8),.i r.2.2.1,.sl 1 (r.2.2.2.1.map e_L_u8),.i r.2.2.2.2.1,.i r.2.2.2.2.2.1,.row 100000 1,.i r.2.2.2.2.2.2.2.1,.sl 5 (r.2.2.2.2.2.2.2.2.1.map e_Cell),.row 100002 0]),(100001,[.sl 5 (box6.map e_Cell)]),(100002,(c_Tablet r.2.2.2.2.2.2.2.2.2.1)),(100003,[.i r.2.2.2.2.2.2.2.2.2.2])],[(100000,⟨50,2,1,(r.2.2.2.2.2.2.1.map e_Note).length,rc,rn,0,[],(r.2.2.2.2.2.2.1.map e_Note)⟩),(100001,⟨53,5,0,((row1).map e_Cell).length,rc1,rn1,0,[],(row1.map e_Cell)⟩),(100002,.q 28 1 0 rk2 rc2 rn2 (row2.map e_L_Cell))],[],[]⟩:=by
 refine PT 71 [.cell 5 35] [35] Tryz.func63 ?_
 intro Q g hfin
 unfold tablet_Put_1 at hF
 refine LR0 ?_
 refine LD0 ?_
 obtain ⟨x,h0,hF⟩:=oE hF
 refine LR [.callB (.agg (c_Fault x))] (hc (wal_Check_ok (⟨w64 (box5+1),box6⟩:Note) x h0) .nil) ?_
 refine LR0 ?_
 refine Nif hF ?_ ?_ <;> intro hb hF
 ·refine VR [] [5] [5,100000,100001,100002,100003] [100000,100001,100002] [] [(5,.ptr 5 0)] [(5,(c_Fault x)),(100000,[.sl 1 (box.map e_u8),.i box1,.sl 1 (box2.map e_L_u8),.i box3,.i box4,.row 100000 0,.i box5,.row 100001 0,.row 100002 0]),(100001,[.sl 5 (box6.map e_Cell)]),(100002,(c_Tablet box7)),(100003,[.i box8])] [(100000,.q 50 2 0 rk rc rn (row.map e_Note)),(100001,.q 53 5 0 rk1 rc1 rn1 (row1.map e_Cell)),(100002,.q 28 1 0 rk2 rc2 rn2 (row2.map e_L_Cell))] [] .nil ?_
  cases hF
  refine Wk_sealBX [100000,100002] 100000 rfl rfl ?_
  exact Wz [(100000,⟨1,true,true,true⟩),(100001,⟨0,true,true,true⟩)] hfin
 ·refine LR [.nat (box6.length:Int)] (hc (len_ok e_Cell box6) .nil) ?_
  refine NmeetP (fun v:Tablet×Fault×Note=>(⟨[(0,.ptr 100000 0),(2,.ptr 100002 0),(3,.ptr 100003 0),(5,.ptr 5 0),(6,.ptr 6 0)],[(5,(c_Fault v.2.1)),(6,(c_Note v.2.2)),(100000,[.sl 1 (box.map e_u8),.i box1,.sl 1 (box2.map e_L_u8),.i box3,.i box4,.row 100000 0,.i box5,.row 100001 0,.row 100002 0]),(100001,[.sl 5 (box6.map e_Cell)]),(100002,(c_Tablet v.1)),(100003,[.i box8])],[(100000,.q 50 2 0 rk rc rn (row.map e_Note)),(100001,.q 53 5 0 rk1 rc1 rn1 (row1.map e_Cell)),(100002,.q 28 1 0 rk2 rc2 rn2 (row2.map e_L_Cell))],[],[]⟩:S)) (fun v=>tablet_Put_1_J1 box box1 box2 box3 box4 box5 box8 row row1 row2 v=some r) ?_ ?_
  ·refine Nblk ?_
   unfold tablet_Put_1_L1 at hF
   refine Nitq (fun v1:Tablet×Fault×Note×Int=>(⟨[(0,.ptr 100000 0),(2,.ptr 100002 0),(3,.ptr 100003 0),(5,.ptr 5 0),(6,.ptr 6 0),(25,.sl 5 (box6.map e_Cell)),(26,.i (box6.length:Int)),(27,.i v1.2.2.2)],[(5,(c_Fault v1.2.1)),(6,(c_Note v1.2.2.1)),(100000,[.sl 1 (box.map e_u8),.i box1,.sl 1 (box2.map e_L_u8),.i box3,.i box4,.row 100000 0,.i box5,.row 100001 0,.row 100002 0]),(100001,[.sl 5 (box6.map e_Cell)]),(100002,(c_Tablet v1.1)),(100003,[.i box8])],[(100000,.q 50 2 0 rk rc rn (row.map e_Note)),(100001,.q 53 5 0 rk1 rc1 rn1 (row1.map e_Cell)),(100002,.q 28 1 0 rk2 rc2 rn2 (row2.map e_L_Cell))],[],[]⟩:S)) [] hF ?_
   intro n1 v1 y1 hF ih1 dn1
   unfold tablet_Put_1_B1 at hF
   refine LR0 ?_
   refine Nif hF ?_ ?_ <;> intro hb hF
   ·refine Nblk ?_
    obtain ⟨h8,hF⟩:=aE hF
    refine LR [.av (e_Cell (lget box6 v1.2.2.2))] (hc (idx_ok e_Cell h8) .nil) ?_
    refine LR0 ?_
    refine Nif hF ?_ ?_ <;> intro hb hF
    ·obtain ⟨x4,h9,hF⟩:=lS hF
     refine VR [.callB (.agg (c_Fault x4))] [5] [5,100000,100001,100002,100003] [100000,100001,100002] [] [(5,.ptr 5 0)] [(5,(c_Fault x4)),(100000,[.sl 1 (box.map e_u8),.i box1,.sl 1 (box2.map e_L_u8),.i box3,.i box4,.row 100000 0,.i box5,.row 100001 0,.row 100002 0]),(100001,[.sl 5 (box6.map e_Cell)]),(100002,(c_Tablet v1.1)),(100003,[.i box8])] [(100000,.q 50 2 0 rk rc rn (row.map e_Note)),(100001,.q 53 5 0 rk1 rc1 rn1 (row1.map e_Cell)),(100002,.q 28 1 0 rk2 rc2 rn2 (row2.map e_L_Cell))] [] (hc (tablet_fault_ok 12 v1.2.2.2 x4 h9) .nil) ?_
     have hF:=ret_done hF dn1
     cases hF
     refine Wk_sealBX [100000,100002] 100000 rfl rfl ?_
     exact Wz [(100000,⟨1,true,true,true⟩),(100001,⟨0,true,true,true⟩)] hfin
    ·refine LR0 ?_
     exact Nrnq [] hF ih1
   ·refine Nexit rfl ?_
    have hF:=inrO_done hF dn1
    exact metQ (v1.1,v1.2.1,v1.2.2.1) [] hF
  ·intro v hF
   unfold tablet_Put_1_J1 at hF
   obtain ⟨x1,h1,hF⟩:=oE hF
   have p2:=(Pe.ren (wal_Frame_v1_ok v.2.2 x1 h1) ⟨[],[(8,44)],[],[]⟩)
   obtain ⟨x2,h3,hF⟩:=oE hF
   have p4:=(Pe.ren (disk_Append_ok v.1.Log x1 x2 h3) ⟨[],[(27,45)],[],[]⟩)
   refine LD [.raw [0],cE [] [] [] [] p2,cE [] [] [] [] p4] (hc p2 (hc p4 .nil)) ?_
   refine LR0 ?_
   refine Nif hF ?_ ?_ <;> intro hb hF
   ·refine VR [] [5] [5,100000,100001,100002,100003] [100000,100001,100002] [] [(5,.ptr 5 0)] [(5,(c_Fault x2.2.2)),(100000,[.sl 1 (box.map e_u8),.i box1,.sl 1 (box2.map e_L_u8),.i box3,.i box4,.row 100000 0,.i box5,.row 100001 0,.row 100002 0]),(100001,[.sl 5 (box6.map e_Cell)]),(100002,(c_Tablet v.1)),(100003,[.i box8])] [(100000,.q 50 2 0 rk rc rn (row.map e_Note)),(100001,.q 53 5 0 rk1 rc1 rn1 (row1.map e_Cell)),(100002,.q 28 1 0 rk2 rc2 rn2 (row2.map e_L_Cell))] [] .nil ?_
    cases hF
    refine Wk_sealBX [100000,100002] 100000 rfl rfl ?_
    exact Wz [(100000,⟨1,true,true,true⟩),(100001,⟨0,true,true,true⟩)] hfin
   ·obtain ⟨h5,hF⟩:=aE hF
    refine LD [.sealed,.xs ((row++[v.2.2]).map e_Note)] (hc (app_ok e_Note row [v.2.2]) (hc (appl_ok e_Note h5) .nil)) ?_
    obtain ⟨x3,h6,hF⟩:=oE hF
    have p7:=(Pe.ren (tablet_tab_fill_v1_ok x2.2.1 box2 box3 box4 box5 x2.1 (row++[v.2.2]) row1 row2 0 0 false rk rc rn rk1 rc1 rn1 rk2 rc2 rn2 x3 h6) ⟨[],[(100000,45),(100001,100000),(100002,100001),(100003,100002),(22,70)],[],[(100001,1)]⟩)
    refine VR [cE [100000] [45,100000,100001,100002] [] [] p7] [5] [5,100000,100001,100002,100003] [45,70,100000,100001,100002] [] [(5,.ptr 5 0)] [(5,(c_Fault x3.1)),(100000,[.row 45 0,.i x3.2.1,.sl 1 (x3.2.2.1.map e_L_u8),.i x3.2.2.2.1,.i x3.2.2.2.2.1,.row 100000 1,.i x3.2.2.2.2.2.2.1,.row 70 0,.row 100002 0]),(100001,[.sl 5 (box6.map e_Cell)]),(100002,(c_Tablet v.1)),(100003,[.i v.2.2.Seq])] [(45,.o 5 1 0 (x2.1.map e_u8)),(70,⟨53,5,0,(x3.2.2.2.2.2.2.2.map e_Cell).length,0,false,0,[],(x3.2.2.2.2.2.2.2.map e_Cell)⟩),(100000,⟨50,2,1,(x3.2.2.2.2.2.1.map e_Note).length,rc,rn,0,[],(x3.2.2.2.2.2.1.map e_Note)⟩),(100001,.q 53 5 0 rk1 rc1 rn1 (row1.map e_Cell)),(100002,.q 28 1 0 rk2 rc2 rn2 (row2.map e_L_Cell))] [] (hc p7 .nil) ?_
    cases hF
    refine Wk_sealBX [100000,100002] 100000 rfl rfl ?_
    exact Wz [(100001,⟨0,true,true,true⟩)] hfin

/- disk.Copy -/
noncomputable def disk_Copy (d:Disk):Option (List UInt8×Int):=
 ob (slices_Clone_byte_byte d.Bytes) fun x=>
 some (x,d.Kept)
theorem disk_Copy_ok (d:Disk) (r:List UInt8×Int) (hF:disk_Copy d=some r):Pe Tryz.prog 139 (.w []) [.agg (c_Disk d)] (.agg [.row 5 0,.i r.2]) ⟨[],[],[(5,.o 5 1 0 (r.1.map e_u8))],[],[]⟩:=by
 refine PT 9 [.cell 2 24] [24] Tryz.func139 ?_
 intro Q g hfin
 unfold disk_Copy at hF
 refine LR0 ?_
 obtain ⟨x,h0,hF⟩:=oE hF
 have p1:=(Pe.ren (slices_Clone_byte_byte_ok d.Bytes x h0) ⟨[],[],[],[]⟩)
 refine LD [cE [] [] [] [] p1] (hc p1 .nil) ?_
 cases hF
 exact Wz [] hfin

/- tablet.own -/
noncomputable def tablet_own_J1 (x:List UInt8×Int) (v:List (List UInt8)×Int×Int×Tablet×List (List UInt8)):Option (List UInt8×Int×List (List UInt8)×Int×Int):=
 some (x.1,x.2,v.2.2.2.2,v.2.1,v.2.2.1)
noncomputable def tablet_own_B1 (x:List UInt8×Int) (v1:List (List UInt8)×Int×Int×Tablet×List (List UInt8)×List (List UInt8)×Int×Int):Option ((List (List UInt8)×Int×Int×Tablet×List (List UInt8)×List (List UInt8)×Int×Int)⊕(List UInt8×Int×List (List UInt8)×Int×Int)):=
 if (decide (v1.2.2.2.2.2.2.2<v1.2.2.2.2.2.2.1))=true then
  asrt (0≤v1.2.2.2.2.2.2.2∧v1.2.2.2.2.2.2.2<(v1.2.2.2.2.2.1.length:Int)) <|
  ob (slices_Clone_byte_byte (lget v1.2.2.2.2.2.1 v1.2.2.2.2.2.2.2)) fun x1=>
  asrt (((v1.2.2.2.2.1++([x1]:List (List UInt8))).length:Int)*24≤140737488351232) <|
  some (Sum.inl (v1.1,v1.2.1,v1.2.2.1,v1.2.2.2.1,(v1.2.2.2.2.1++([x1]:List (List UInt8))),v1.2.2.2.2.2.1,v1.2.2.2.2.2.2.1,w64 (v1.2.2.2.2.2.2.2+1)))
 else
  inrO (tablet_own_J1 x (v1.1,v1.2.1,v1.2.2.1,v1.2.2.2.1,v1.2.2.2.2.1))
noncomputable def tablet_own_L1 (x:List UInt8×Int) (v0:List (List UInt8)×Int×Int×Tablet×List (List UInt8)×List (List UInt8)×Int×Int):Option (List UInt8×Int×List (List UInt8)×Int×Int):=
 loopO (fun y=>tablet_own_B1 x y) v0
noncomputable def tablet_own (t0:Tablet):Option (List UInt8×Int×List (List UInt8)×Int×Int):=
 ob (disk_Copy t0.Log) fun x=>
 asrt (0≤(0:Int)∧0≤(t0.Files.length:Int)∧(t0.Files.length:Int)*24≤140737488351232) <|
 tablet_own_L1 x (t0.Files,t0.Done,t0.Since,(⟨(⟨([]:List UInt8),0⟩:Disk),([]:List (List UInt8)),0,0⟩:Tablet),(List.replicate (0:Int).toNat (([]:List UInt8):List UInt8)),t0.Files,(t0.Files.length:Int),0)
theorem tablet_own_ok (t0:Tablet) (r:List UInt8×Int×List (List UInt8)×Int×Int) (hF:tablet_own t0=some r):Pe Tryz.prog 106 (.w []) [.agg (c_Tablet t0)] (.agg [.row 8 0,.i r.2.1,.row 13 0,.i r.2.2.2.1,.i r.2.2.2.2]) ⟨[],[],[(8,.o 5 1 0 (r.1.map e_u8)),(13,.o 22 1 0 (r.2.2.1.map e_L_u8))],[],[]⟩:=by
 refine PT 30 [.cell 2 27] [27] Tryz.func106 ?_
 intro Q g hfin
 unfold tablet_own at hF
 refine LR0 ?_
 obtain ⟨x,h0,hF⟩:=oE hF
 have p1:=(Pe.ren (disk_Copy_ok t0.Log x h0) ⟨[],[(5,8)],[],[]⟩)
 refine LR [cE [] [] [] [] p1] (hc p1 .nil) ?_
 obtain ⟨h2,hF⟩:=aE hF
 refine LR [.nat (t0.Files.length:Int),.xs ((List.replicate (0:Int).toNat (([]:List UInt8):List UInt8)).map e_L_u8)] (hc (len_ok e_L_u8 t0.Files) (hc (mk_ok h2) (hc (rep_ok e_L_u8 0 (([]:List UInt8):List UInt8)) .nil))) ?_
 refine VR [.nat (t0.Files.length:Int)] [1,2,3,15,16,17] [1,2] [8,13] [] [(1,.ptr 1 0),(2,.ptr 2 0),(3,.row 13 0),(15,.sl 1 (t0.Files.map e_L_u8)),(16,.i (t0.Files.length:Int)),(17,.i 0)] [(1,[.row 8 0,.i x.2,.sl 1 (t0.Files.map e_L_u8),.i t0.Done,.i t0.Since]),(2,[.nils,.i 0,.nils,.i 0,.i 0])] [(8,.o 5 1 0 (x.1.map e_u8)),(13,.o 22 1 0 ((List.replicate (0:Int).toNat (([]:List UInt8):List UInt8)).map e_L_u8))] [] (hc (len_ok e_L_u8 t0.Files) .nil) ?_
 refine NmeetP (fun v:List (List UInt8)×Int×Int×Tablet×List (List UInt8)=>(⟨[(1,.ptr 1 0),(2,.ptr 2 0),(3,.row 13 0)],[(1,[.row 8 0,.i x.2,.sl 1 (v.1.map e_L_u8),.i v.2.1,.i v.2.2.1]),(2,(c_Tablet v.2.2.2.1))],[(8,.o 5 1 0 (x.1.map e_u8)),(13,.o 22 1 0 (v.2.2.2.2.map e_L_u8))],[],[]⟩:S)) (fun v=>tablet_own_J1 x v=some r) ?_ ?_
 ·refine Nblk ?_
  unfold tablet_own_L1 at hF
  refine Wk_coeB 2 [.sl 1 (([]:List UInt8).map e_u8),.i 0,.sl 1 (([]:List (List UInt8)).map e_L_u8),.i 0,.i 0] rfl (.cons (CoeS.nils 1) (.cons (CoeS.refl _) (.cons (CoeS.nils 1) (.cons (CoeS.refl _) (.cons (CoeS.refl _) .nil))))) ?_
  refine Nitq (fun v1:List (List UInt8)×Int×Int×Tablet×List (List UInt8)×List (List UInt8)×Int×Int=>(⟨[(1,.ptr 1 0),(2,.ptr 2 0),(3,.row 13 0),(15,.sl 1 (v1.2.2.2.2.2.1.map e_L_u8)),(16,.i v1.2.2.2.2.2.2.1),(17,.i v1.2.2.2.2.2.2.2)],[(1,[.row 8 0,.i x.2,.sl 1 (v1.1.map e_L_u8),.i v1.2.1,.i v1.2.2.1]),(2,(c_Tablet v1.2.2.2.1))],[(8,.o 5 1 0 (x.1.map e_u8)),(13,.o 22 1 0 (v1.2.2.2.2.1.map e_L_u8))],[],[]⟩:S)) [] hF ?_
  intro n1 v1 y1 hF ih1 dn1
  unfold tablet_own_B1 at hF
  refine LR0 ?_
  refine Nif hF ?_ ?_ <;> intro hb hF
  ·refine Nblk ?_
   obtain ⟨h3,hF⟩:=aE hF
   refine LR [.av (e_L_u8 (lget v1.2.2.2.2.2.1 v1.2.2.2.2.2.2.2))] (hc (idx_ok e_L_u8 h3) .nil) ?_
   obtain ⟨x1,h4,hF⟩:=oE hF
   have p5:=(Pe.ren (slices_Clone_byte_byte_ok (lget v1.2.2.2.2.2.1 v1.2.2.2.2.2.2.2) x1 h4) ⟨[],[(5,23)],[],[]⟩)
   obtain ⟨h6,hF⟩:=aE hF
   refine LR [cE [] [] [] [] p5,.sealed,.xs ((v1.2.2.2.2.1++([x1]:List (List UInt8))).map e_L_u8)] (hc p5 (hc (app_ok e_L_u8 v1.2.2.2.2.1 ([x1]:List (List UInt8))) (hc (appl_ok e_L_u8 h6) .nil))) ?_
   refine LR0 ?_
   exact Nrnq [(13,⟨0,true,true,false⟩)] hF ih1
  ·refine Nexit rfl ?_
   have hF:=inrO_done hF dn1
   exact metQ (v1.1,v1.2.1,v1.2.2.1,v1.2.2.2.1,v1.2.2.2.2.1) [] hF
 ·intro v hF
  unfold tablet_own_J1 at hF
  refine LR0 ?_
  refine LR0 ?_
  cases hF
  exact Wz [] hfin

/- tablet.with -/
noncomputable def tablet_with (t0:Tablet) (box:List Cell) (box1:Tablet) (box2:Int):Option (List UInt8×Int×List (List UInt8)×Int×Int×Fault×Tablet×Int):=
 ob (tablet_load t0) fun x=>
 sm x (fun (x:Fault)=>
  if (!decide (x.Code=0))=true then
   some (([]:List UInt8),0,([]:List (List UInt8)),0,0,x,box1,box2)
  else
   none) (fun (x:List UInt8×Int×List (List UInt8)×Int×Int×List Note×Int×List Cell×List (List Cell)×Fault)=>
  if (!decide (x.2.2.2.2.2.2.2.2.2.Code=0))=true then
   some (([]:List UInt8),0,([]:List (List UInt8)),0,0,x.2.2.2.2.2.2.2.2.2,box1,box2)
  else
   ob (tablet_Put_1 x.1 x.2.1 x.2.2.1 x.2.2.2.1 x.2.2.2.2.1 x.2.2.2.2.2.2.1 box box1 box2 x.2.2.2.2.2.1 x.2.2.2.2.2.2.2.1 x.2.2.2.2.2.2.2.2.1) fun x1=>
   if (!decide (x1.1.Code=0))=true then
    some (([]:List UInt8),0,([]:List (List UInt8)),0,0,x1.1,x1.2.2.2.2.2.2.2.2.2.1,x1.2.2.2.2.2.2.2.2.2.2)
   else
    ob (tablet_own (⟨(⟨x1.2.1,x1.2.2.1⟩:Disk),x1.2.2.2.1,x1.2.2.2.2.1,x1.2.2.2.2.2.1⟩:Tablet)) fun x2=>
    some (x2.1,x2.2.1,x2.2.2.1,x2.2.2.2.1,x2.2.2.2.2,x1.1,x1.2.2.2.2.2.2.2.2.2.1,x1.2.2.2.2.2.2.2.2.2.2))
theorem tablet_with_ok (t0:Tablet) (box:List Cell) (box1:Tablet) (box2:Int) (r:List UInt8×Int×List (List UInt8)×Int×Int×Fault×Tablet×Int) (hF:tablet_with t0 box box1 box2=some r):Pe Tryz.prog 62 ⟨[],[(100000,[.sl 5 (box.map e_Cell)]),(100001,(c_Tablet box1)),(100002,[.i box2])],[],[],[]⟩ [.agg (c_Tablet t0),.fn 63 [.ptr 100000 0,.ptr 100001 0,.ptr 100002 0]] (.tup [.agg [.row 30 0,.i r.2.1,.row 20030 0,.i r.2.2.2.1,.i r.2.2.2.2.1],.agg (c_Fault r.2.2.2.2.2.1)]) ⟨[],[(100000,[.sl 5 (box.map e_Cell)]),(100001,(c_Tablet r.2.2.2.2.2.2.1)),(100002,[.i r.2.2.2.2.2.2.2])],[(30,.o 5 1 0 (r.1.map e_u8)),(20030,.o 22 1 0 (r.2.2.1.map e_L_u8))],[],[]⟩:=by
 refine PT 32 [.cell 4 27,.cell 5 35] [27,35] Tryz.func62 ?_
 intro Q g hfin
 unfold tablet_with at hF
 refine LR0 ?_
 obtain ⟨x,h0,hF⟩:=oE hF
 rcases x with x | x
 ·have hF:=sm_l hF
  refine LR [.callB (.tup [.nilp,.agg (c_Fault x)])] (hc (tablet_load_okl t0 x h0) .nil) ?_
  refine LR0 ?_
  refine Nif hF ?_ ?_ <;> intro hb hF
  ·refine VD [] [4,5] [4,5,100000,100001,100002] [] [] [(4,.ptr 4 0),(5,.ptr 5 0)] [(4,[.nils,.i 0,.nils,.i 0,.i 0]),(5,(c_Fault x)),(100000,[.sl 5 (box.map e_Cell)]),(100001,(c_Tablet box1)),(100002,[.i box2])] [] [] .nil ?_
   cases hF
   refine Wk_nilrowB 4 0 60000 5 1 rfl rfl rfl rfl rfl ?_
   refine Wk_nilrowB 4 2 60001 22 1 rfl rfl rfl rfl rfl ?_
   refine Wk_ren' ⟨[],[(60000,30),(60001,20030)],[],[]⟩ rfl ?_
   exact Wz [(30,⟨0,true,false,false⟩),(20030,⟨0,true,false,false⟩)] hfin
  ·cases hF
 ·have hF:=sm_r hF
  have p1:=(Pe.ren (tablet_load_okr t0 x h0) ⟨[(49,10)],[(54,10),(143,20010),(149,40010)],[],[]⟩)
  refine LR [cE [] [] [] [] p1] (hc p1 .nil) ?_
  refine LR0 ?_
  refine Nif hF ?_ ?_ <;> intro hb hF
  ·refine VD [] [4,5] [4,5,100000,100001,100002] [] [] [(4,.ptr 4 0),(5,.ptr 5 0)] [(4,[.nils,.i 0,.nils,.i 0,.i 0]),(5,(c_Fault x.2.2.2.2.2.2.2.2.2)),(100000,[.sl 5 (box.map e_Cell)]),(100001,(c_Tablet box1)),(100002,[.i box2])] [] [] .nil ?_
   cases hF
   refine Wk_nilrowB 4 0 60002 5 1 rfl rfl rfl rfl rfl ?_
   refine Wk_nilrowB 4 2 60003 22 1 rfl rfl rfl rfl rfl ?_
   refine Wk_ren' ⟨[],[(60002,30),(60003,20030)],[],[]⟩ rfl ?_
   exact Wz [(30,⟨0,true,false,false⟩),(20030,⟨0,true,false,false⟩)] hfin
  ·obtain ⟨x1,h2,hF⟩:=oE hF
   have p3:=(Pe.ren (tablet_Put_1_ok x.1 x.2.1 x.2.2.1 x.2.2.2.1 x.2.2.2.2.1 x.2.2.2.2.2.2.1 box box1 box2 x.2.2.2.2.2.1 x.2.2.2.2.2.2.2.1 x.2.2.2.2.2.2.2.2.1 ((x.2.2.2.2.2.1.map e_Note).length) 0 true ((x.2.2.2.2.2.2.2.1.map e_Cell).length) 0 false 0 0 true x1 h2) ⟨[(100000,10),(100001,100000),(100002,100001),(100003,100002)],[(100000,10),(100001,40010),(100002,20010)],[],[]⟩)
   refine LR [cE [10,100000,100001,100002] [10,40010,20010] [] [] p3] (hc p3 .nil) ?_
   refine LR0 ?_
   refine Nif hF ?_ ?_ <;> intro hb hF
   ·refine VD [] [4,5] [4,5,100000,100001,100002] [] [] [(4,.ptr 4 0),(5,.ptr 5 0)] [(4,[.nils,.i 0,.nils,.i 0,.i 0]),(5,(c_Fault x1.1)),(100000,[.sl 5 (box.map e_Cell)]),(100001,(c_Tablet x1.2.2.2.2.2.2.2.2.2.1)),(100002,[.i x1.2.2.2.2.2.2.2.2.2.2])] [] [] .nil ?_
    cases hF
    refine Wk_nilrowB 4 0 60004 5 1 rfl rfl rfl rfl rfl ?_
    refine Wk_nilrowB 4 2 60005 22 1 rfl rfl rfl rfl rfl ?_
    refine Wk_ren' ⟨[],[(60004,30),(60005,20030)],[],[]⟩ rfl ?_
    exact Wz [(30,⟨0,true,false,false⟩),(20030,⟨0,true,false,false⟩)] hfin
   ·obtain ⟨x2,h4,hF⟩:=oE hF
    have p5:=(Pe.ren (tablet_own_ok (⟨(⟨x1.2.1,x1.2.2.1⟩:Disk),x1.2.2.2.1,x1.2.2.2.2.1,x1.2.2.2.2.2.1⟩:Tablet) x2 h4) ⟨[],[(8,30),(13,20030)],[],[]⟩)
    refine LD [cE [] [] [] [] p5] (hc p5 .nil) ?_
    cases hF
    exact Wz [] hfin

/- tablet.Put -/
/- tablet.Put -/
noncomputable def tablet_Put_v1 (t0:Tablet) (l:List Cell):Option (Tablet×Int×Fault):=
 ob (tablet_with t0 l t0 0) fun x=>
 if (!decide (x.2.2.2.2.2.1.Code=0))=true then
  some ((⟨(⟨x.1,x.2.1⟩:Disk),x.2.2.1,x.2.2.2.1,x.2.2.2.2.1⟩:Tablet),0,x.2.2.2.2.2.1)
 else
  some ((⟨(⟨x.1,x.2.1⟩:Disk),x.2.2.1,x.2.2.2.1,x.2.2.2.2.1⟩:Tablet),x.2.2.2.2.2.2.2,x.2.2.2.2.2.1)
theorem tablet_Put_v1_ok (t0:Tablet) (l:List Cell) (r:Tablet×Int×Fault) (hF:tablet_Put_v1 t0 l=some r):Pe Tryz.prog 13 S.none [.agg (c_Tablet t0),.sl 5 (l.map e_Cell)] (.tup [.agg (c_Tablet r.1),.i r.2.1,.agg (c_Fault r.2.2)]) S.none:=by
 refine PT 24 [.cell 4 27,.tmp 5,.cell 6 35] [27,3,35] Tryz.func13 ?_
 intro Q g hfin
 unfold tablet_Put_v1 at hF
 refine LR0 ?_
 refine LR0 ?_
 obtain ⟨x,h0,hF⟩:=oE hF
 have p1:=(Pe.ren (tablet_with_ok t0 l t0 0 x h0) ⟨[(100000,3),(100001,2),(100002,7)],[(30,13),(20030,20013)],[],[]⟩)
 refine LR [cE [3,2,7] [] [] [] p1] (hc p1 .nil) ?_
 refine LR0 ?_
 refine Nif hF ?_ ?_ <;> intro hb hF
 ·refine LD0 ?_
  cases hF
  exact Wz [] hfin
 ·refine LD0 ?_
  cases hF
  exact Wz [] hfin

/- tablet.sized -/
noncomputable def tablet_sized (size:Int):Fault:=
 if ((decide (size<50))||(decide (4000<size)))=true then
  lt (tablet_fault 3 (-1)) fun x=>
  x
 else
  (⟨0,0⟩:Fault)
theorem tablet_sized_ok (size:Int) (r:Fault) (hF:tablet_sized size=r):Pe Tryz.prog 74 S.none [.i size] (.agg (c_Fault r)) S.none:=by
 refine PT 11 [.cell 2 35] [35] Tryz.func74 ?_
 intro Q g hfin
 unfold tablet_sized at hF
 refine LR0 ?_
 refine LR0 ?_
 refine Nif hF ?_ ?_ <;> intro hb hF
 ·obtain ⟨x,h0,hF⟩:=lS hF
  refine LR [.callB (.agg (c_Fault x))] (hc (tablet_fault_ok 3 (-1) x h0) .nil) ?_
  cases hF
  exact Wz [] hfin
 ·refine LR0 ?_
  cases hF
  exact Wz [] hfin

/- tablet.Flush$1 -/
noncomputable def tablet_Flush_1 (box:Int) (box1:Tablet):Option Fault:=
 lt (tablet_sized box) fun x=>
 if (!decide (x.Code=0))=true then
  some x
 else
  none
theorem tablet_Flush_1_ok (box:Int) (box1:Tablet) (r:Fault) (hF:tablet_Flush_1 box box1=some r):Pe Tryz.prog 73 ⟨[],[(100000,[.i box]),(100001,(c_Tablet box1))],[],[],[]⟩ [.nilp,.ptr 100000 0,.ptr 100001 0] (.agg (c_Fault r)) ⟨[],[(100000,[.i box]),(100001,(c_Tablet box1))],[],[],[]⟩:=by
 refine PT 54 [.cell 4 35] [35] Tryz.func73 ?_
 intro Q g hfin
 unfold tablet_Flush_1 at hF
 refine LR0 ?_
 obtain ⟨x,h0,hF⟩:=lS hF
 refine LR [.callB (.agg (c_Fault x))] (hc (tablet_sized_ok box x h0) .nil) ?_
 refine LR0 ?_
 refine Nif hF ?_ ?_ <;> intro hb hF
 ·refine LR0 ?_
  cases hF
  exact Wz [] hfin
 ·cases hF

/- file.blocks -/
noncomputable def file_blocks_J1 (v:List (List UInt8)×List (List UInt8)):Option (List (List UInt8)×List (List UInt8)):=
 some (v.1,v.2)
noncomputable def file_blocks_B1 (l:List Cell) (size:Int) (v1:List (List UInt8)×List (List UInt8)×List UInt8×Int):Option ((List (List UInt8)×List (List UInt8)×List UInt8×Int)⊕(List (List UInt8)×List (List UInt8))):=
 if (decide (v1.2.2.2<(l.length:Int)))=true then
  asrt (0≤v1.2.2.2∧v1.2.2.2<(l.length:Int)) <|
  ob (
   if (decide (v1.2.2.1.length=0))=true then
    asrt (((v1.2.1++([(lget l v1.2.2.2).Row]:List (List UInt8))).length:Int)*16≤140737488351232) <|
    some ((v1.2.1++([(lget l v1.2.2.2).Row]:List (List UInt8))),(⟨(lget l v1.2.2.2).Row,(lget l v1.2.2.2).Col,(lget l v1.2.2.2).Time,(lget l v1.2.2.2).Gone,(lget l v1.2.2.2).Value⟩:Cell))
   else
    some (v1.2.1,(⟨(lget l v1.2.2.2).Row,(lget l v1.2.2.2).Col,(lget l v1.2.2.2).Time,(lget l v1.2.2.2).Gone,(lget l v1.2.2.2).Value⟩:Cell))) fun (v2:List (List UInt8)×Cell)=>
  ob (cell_Add_v1 v2.2 v1.2.2.1) fun x=>
  ob (
   if ((decide (size≤(x.length:Int)))||(decide (v1.2.2.2=(w64 ((l.length:Int) - 1)))))=true then
    asrt (((v1.1++([x]:List (List UInt8))).length:Int)*24≤140737488351232) <|
    some ((v1.1++([x]:List (List UInt8))),([]:List UInt8))
   else
    some (v1.1,x)) fun (v3:List (List UInt8)×List UInt8)=>
  some (Sum.inl (v3.1,v2.1,v3.2,w64 (v1.2.2.2+1)))
 else
  inrO (file_blocks_J1 (v1.1,v1.2.1))
noncomputable def file_blocks_L1 (l:List Cell) (size:Int) (v0:List (List UInt8)×List (List UInt8)×List UInt8×Int):Option (List (List UInt8)×List (List UInt8)):=
 loopO (fun y=>file_blocks_B1 l size y) v0
noncomputable def file_blocks (l:List Cell) (size:Int):Option (List (List UInt8)×List (List UInt8)):=
 file_blocks_L1 l size (([]:List (List UInt8)),([]:List (List UInt8)),([]:List UInt8),0)
theorem file_blocks_ok (l:List Cell) (size:Int) (r:List (List UInt8)×List (List UInt8)) (hF:file_blocks l size=some r):Pe Tryz.prog 121 (.w []) [.sl 5 (l.map e_Cell),.i size] (.tup [.row 40 0,.row 22 0]) ⟨[],[],[(22,.z 9 1 0 (r.2.map e_str)),(40,.z 22 1 0 (r.1.map e_L_u8))],[],[]⟩:=by
 refine PT 44 [.tmp 4,.tmp 5] [25,86] Tryz.func121 ?_
 intro Q g hfin
 unfold file_blocks at hF
 refine LR0 ?_
 refine LR0 ?_
 refine NR [.nat (l.length:Int)] [0,1,4,5,6,9,10,11] [] [] [(0,.sl 5 (l.map e_Cell)),(1,.i size),(4,.nils),(5,.nils),(6,.nils),(9,.sl 5 (l.map e_Cell)),(10,.i (l.length:Int)),(11,.i 0)] (hc (len_ok e_Cell l) .nil) ?_
 refine NmeetP (fun v:List (List UInt8)×List (List UInt8)=>(⟨[(4,.row 40 0),(5,.row 22 0)],[],[(22,.z 9 1 0 (v.2.map e_str)),(40,.z 22 1 0 (v.1.map e_L_u8))],[],[]⟩:S)) (fun v=>file_blocks_J1 v=some r) ?_ ?_
 ·refine Nblk ?_
  unfold file_blocks_L1 at hF
  refine Wk_nilrow 4 60000 22 1 rfl rfl rfl ?_
  refine Wk_nilrow 5 60001 9 1 rfl rfl rfl ?_
  refine Wk_nilrow 6 60002 5 1 rfl rfl rfl ?_
  refine Wk_trim (fs:=[0,1,4,5,6,9,10,11]) (bs:=[]) (rs:=[60000,60001,60002]) (ms:=[]) (aa:=[]) (nv:=[]) rfl ?_
  refine Wk_ren' ⟨[],[(60000,40),(60001,22),(60002,25)],[],[]⟩ rfl ?_
  refine Nitq (fun v1:List (List UInt8)×List (List UInt8)×List UInt8×Int=>(⟨[(0,.sl 5 (l.map e_Cell)),(1,.i size),(4,.row 40 0),(5,.row 22 0),(6,.row 25 0),(9,.sl 5 (l.map e_Cell)),(10,.i (l.length:Int)),(11,.i v1.2.2.2)],[],[(22,.z 9 1 0 (v1.2.1.map e_str)),(25,.z 5 1 0 (v1.2.2.1.map e_u8)),(40,.z 22 1 0 (v1.1.map e_L_u8))],[],[]⟩:S)) [] hF ?_
  intro n1 v1 y1 hF ih1 dn1
  unfold file_blocks_B1 at hF
  refine LR0 ?_
  refine Nif hF ?_ ?_ <;> intro hb hF
  ·refine Nblk ?_
   obtain ⟨h0,hF⟩:=aE hF
   refine LR [.av (e_Cell (lget l v1.2.2.2))] (hc (idx_ok e_Cell h0) .nil) ?_
   refine LR [.bo (decide (v1.2.2.1.length=0))] (hc (nil_ok e_u8 v1.2.2.1) .nil) ?_
   obtain ⟨v2,hv,hF⟩:=oE hF
   refine Nmeet (⟨[(0,.sl 5 (l.map e_Cell)),(1,.i size),(4,.row 40 0),(5,.row 22 0),(6,.row 25 0),(7,.i v1.2.2.2),(8,.ptr 8 0),(9,.sl 5 (l.map e_Cell)),(10,.i (l.length:Int)),(11,.i v1.2.2.2)],[(8,(c_Cell v2.2))],[(22,.z 9 1 0 (v2.1.map e_str)),(25,.z 5 1 0 (v1.2.2.1.map e_u8)),(40,.z 22 1 0 (v1.1.map e_L_u8))],[],[]⟩:S) ?_ ?_
   ·have hF:=hv
    refine Nif hF ?_ ?_ <;> intro hb hF
    ·obtain ⟨h1,hF⟩:=aE hF
     refine LR [.sealed,.xs ((v1.2.1++([(lget l v1.2.2.2).Row]:List (List UInt8))).map e_str)] (hc (app_ok e_str v1.2.1 ([(lget l v1.2.2.2).Row]:List (List UInt8))) (hc (appl_ok e_str h1) .nil)) ?_
     cases hF
     exact met' [(22,⟨0,true,true,false⟩)]
    ·cases hF
     exact met' []
   ·obtain ⟨x,h2,hF⟩:=oE hF
    have p3:=(Pe.ren (cell_Add_v1_ok v2.2 v1.2.2.1 0 0 true x h2) ⟨[],[(100000,25)],[],[]⟩)
    refine LR [cE [] [25] [] [] p3] (hc p3 .nil) ?_
    refine LR [.nat (x.length:Int),.nat (l.length:Int)] (hc (len_ok e_u8 x) (hc (fun (_:(!(decide (size≤(x.length:Int))))=true)=>(len_ok e_Cell l)) .nil)) ?_
    obtain ⟨v3,hv,hF⟩:=oE hF
    refine Nmeet (⟨[(0,.sl 5 (l.map e_Cell)),(1,.i size),(4,.row 40 0),(5,.row 22 0),(6,.row 25 0),(9,.sl 5 (l.map e_Cell)),(10,.i (l.length:Int)),(11,.i v1.2.2.2)],[],[(22,.z 9 1 0 (v2.1.map e_str)),(25,.z 5 1 0 (v3.2.map e_u8)),(40,.z 22 1 0 (v3.1.map e_L_u8))],[],[]⟩:S) ?_ ?_
    ·have hF:=hv
     refine Nif hF ?_ ?_ <;> intro hb hF
     ·obtain ⟨h4,hF⟩:=aE hF
      refine VR [.sealed,.xs ((v1.1++([x]:List (List UInt8))).map e_L_u8)] [0,1,4,5,6,9,10,11] [] [22,40] [] [(0,.sl 5 (l.map e_Cell)),(1,.i size),(4,.row 40 1),(5,.row 22 0),(6,.nils),(9,.sl 5 (l.map e_Cell)),(10,.i (l.length:Int)),(11,.i v1.2.2.2)] [] [(22,.z 9 1 0 (v2.1.map e_str)),(40,.z 22 1 1 ((v1.1++([x]:List (List UInt8))).map e_L_u8))] [] (hc (app_ok e_L_u8 v1.1 ([x]:List (List UInt8))) (hc (appl_ok e_L_u8 h4) .nil)) ?_
      refine Wk_nilrow 6 60003 5 1 rfl rfl rfl ?_
      refine Wk_trim (fs:=[0,1,4,5,6,9,10,11]) (bs:=[]) (rs:=[22,40,60003]) (ms:=[]) (aa:=[]) (nv:=[]) rfl ?_
      refine Wk_ren' ⟨[],[(60003,25)],[],[]⟩ rfl ?_
      cases hF
      exact met' [(40,⟨0,true,true,false⟩)]
     ·cases hF
      exact met' [(25,⟨0,true,true,false⟩)]
    ·refine LR0 ?_
     exact Nrnq [] hF ih1
  ·refine Nexit rfl ?_
   have hF:=inrO_done hF dn1
   exact metQ (v1.1,v1.2.1) [] hF
 ·intro v hF
  unfold file_blocks_J1 at hF
  refine LR0 ?_
  cases hF
  exact Wz [] hfin

/- wire.AddFrame -/
noncomputable def wire_AddFrame_v2 (body row:List UInt8):Option (List UInt8):=
 asrt (((row++([toU8 (Int.fdiv (body.length:Int) (2 ^ (min (8:Int).toNat 64))),toU8 (body.length:Int)]:List UInt8)).length:Int)*1≤140737488351232) <|
 lt ((row++([toU8 (Int.fdiv (body.length:Int) (2 ^ (min (8:Int).toNat 64))),toU8 (body.length:Int)]:List UInt8))) fun (v:List UInt8)=>
 asrt (((v++body).length:Int)*1≤140737488351232) <|
 asrt (0≤(row.length:Int)∧(row.length:Int)≤((v++body).length:Int)) <|
 ob (wire_Crc (ldrop (v++body) (row.length:Int))) fun x=>
 asrt ((((v++body)++([toU8 (Int.fdiv x (2 ^ (min (24:Int).toNat 32))),toU8 (Int.fdiv x (2 ^ (min (16:Int).toNat 32))),toU8 (Int.fdiv x (2 ^ (min (8:Int).toNat 32))),toU8 x]:List UInt8)).length:Int)*1≤140737488351232) <|
 lt (((v++body)++([toU8 (Int.fdiv x (2 ^ (min (24:Int).toNat 32))),toU8 (Int.fdiv x (2 ^ (min (16:Int).toNat 32))),toU8 (Int.fdiv x (2 ^ (min (8:Int).toNat 32))),toU8 x]:List UInt8))) fun (v1:List UInt8)=>
 some v1
theorem wire_AddFrame_v2_ok (body row:List UInt8) (rk rc:Nat) (rn:Bool) (r:List UInt8) (hF:wire_AddFrame_v2 body row=some r):Pe Tryz.prog 112 (.w [(100000,.q 5 1 0 rk rc rn (row.map e_u8))]) [.row 100000 0,.sl 1 (body.map e_u8)] (.row 100000 3) ⟨[],[],[(100000,⟨5,1,3,(r.map e_u8).length,rc,rn,0,[],(r.map e_u8)⟩)],[],[]⟩:=by
 refine PT 40 [.tmp 4] [22] Tryz.func112 ?_
 intro Q g hfin
 unfold wire_AddFrame_v2 at hF
 refine LR0 ?_
 refine LR [.nat (row.length:Int)] (hc (len_ok e_u8 row) .nil) ?_
 obtain ⟨h0,hF⟩:=aE hF
 obtain ⟨v,hv,hF⟩:=lS hF
 refine LR [.nat (body.length:Int),.nat (body.length:Int),.sealed,.xs (v.map e_u8)] (hc (len_ok e_u8 body) (hc (by decide:(0:Int)≤8) (hc (len_ok e_u8 body) (hc (appN e_u8 hv) (hc (applN e_u8 hv h0) .nil))))) ?_
 obtain ⟨h1,hF⟩:=aE hF
 refine LR [.xs ((v++body).map e_u8)] (hc (app_ok e_u8 v body) (hc (appl_ok e_u8 h1) .nil)) ?_
 obtain ⟨h2,hF⟩:=aE hF
 obtain ⟨x,h3,hF⟩:=oE hF
 refine LR [.xs ((ldrop (v++body) (row.length:Int)).map e_u8),.callB (.int .u32 x)] (hc (sl10_ok e_u8 h2) (hc (wire_Crc_ok (ldrop (v++body) (row.length:Int)) x h3) .nil)) ?_
 obtain ⟨h4,hF⟩:=aE hF
 obtain ⟨v1,hv,hF⟩:=lS hF
 refine LR [.sealed,.xs (v1.map e_u8)] (hc (by decide:(0:Int)≤24) (hc (by decide:(0:Int)≤16) (hc (by decide:(0:Int)≤8) (hc (appN e_u8 hv) (hc (applN e_u8 hv h4) .nil))))) ?_
 cases hF
 exact Wz [(100000,⟨3,true,true,true⟩)] hfin

/- file.Make -/
noncomputable def file_Make_J2 (v1:Fault×List UInt8):Option (List UInt8×Fault):=
 some (v1.2,(⟨0,0⟩:Fault))
noncomputable def file_Make_B1 (x3:List (List UInt8)×List (List UInt8)) (v:Fault×List UInt8) (x4:List UInt8) (v2:Fault×List UInt8×Int):Option ((Fault×List UInt8×Int)⊕(List UInt8×Fault)):=
 lt (decide (v2.2.2<((x3.1++([v.2,x4]:List (List UInt8))).length:Int))) fun (v3:Bool)=>
 if v3=true then
  asrt (0≤v2.2.2∧v2.2.2<((x3.1++([v.2,x4]:List (List UInt8))).length:Int)) <|
  asrt (0≤v2.2.2∧v2.2.2<((x3.1++([v.2,x4]:List (List UInt8))).length:Int)) <|
  if (decide (60000<(w64 ((w64 ((v2.2.1.length:Int)+((lget (x3.1++([v.2,x4]:List (List UInt8))) v2.2.2).length:Int)))+6))))=true then
   lt (file_fault 9 0) fun x5=>
   some (Sum.inr (([]:List UInt8),x5))
  else
   ob (wire_AddFrame_v2 (lget (x3.1++([v.2,x4]:List (List UInt8))) v2.2.2) v2.2.1) fun x6=>
   some (Sum.inl (v2.1,x6,w64 (v2.2.2+1)))
 else
  inrO (file_Make_J2 (v2.1,v2.2.1))
noncomputable def file_Make_L1 (x3:List (List UInt8)×List (List UInt8)) (v:Fault×List UInt8) (x4:List UInt8) (v0:Fault×List UInt8×Int):Option (List UInt8×Fault):=
 loopO (fun y=>file_Make_B1 x3 v x4 y) v0
noncomputable def file_Make_J1 (l:List Cell) (x3:List (List UInt8)×List (List UInt8)) (v:Fault×List UInt8):Option (List UInt8×Fault):=
 ob (file_filter l) fun x4=>
 asrt (((x3.1++([v.2,x4]:List (List UInt8))).length:Int)*24≤140737488351232) <|
 file_Make_L1 x3 v x4 (v.1,([]:List UInt8),0)
noncomputable def file_Make_B2 (l:List Cell) (x3:List (List UInt8)×List (List UInt8)) (v4:Fault×List UInt8×Int):Option ((Fault×List UInt8×Int)⊕(List UInt8×Fault)):=
 if (decide (v4.2.2<(x3.1.length:Int)))=true then
  asrt (0≤v4.2.2∧v4.2.2<(x3.1.length:Int)) <|
  asrt (0≤v4.2.2∧v4.2.2<(x3.1.length:Int)) <|
  asrt (0≤v4.2.2∧v4.2.2<(x3.2.length:Int)) <|
  asrt (0≤v4.2.2∧v4.2.2<(x3.2.length:Int)) <|
  ob (wire_AddText_v1 (lget x3.2 v4.2.2) v4.2.1) fun x7=>
  ob (wire_AddNum_v2 ((lget x3.1 v4.2.2).length:Int) x7) fun x8=>
  some (Sum.inl (v4.1,x8,w64 (v4.2.2+1)))
 else
  inrO (file_Make_J1 l x3 (v4.1,v4.2.1))
noncomputable def file_Make_L2 (l:List Cell) (x3:List (List UInt8)×List (List UInt8)) (v0:Fault×List UInt8×Int):Option (List UInt8×Fault):=
 loopO (fun y=>file_Make_B2 l x3 y) v0
noncomputable def file_Make (l:List Cell) (size:Int):Option (List UInt8×Fault):=
 ob (cell_Check l) fun x=>
 if (!decide (x.Code=0))=true then
  some (([]:List UInt8),x)
 else
  if (decide (500<(l.length:Int)))=true then
   lt (file_fault 2 (-1)) fun x1=>
   some (([]:List UInt8),x1)
  else
   if ((decide (size<50))||(decide (4000<size)))=true then
    lt (file_fault 3 (-1)) fun x2=>
    some (([]:List UInt8),x2)
   else
    ob (file_blocks l size) fun x3=>
    file_Make_L2 l x3 ((⟨0,0⟩:Fault),([]:List UInt8),0)
theorem file_Make_ok (l:List Cell) (size:Int) (r:List UInt8×Fault) (hF:file_Make l size=some r):Pe Tryz.prog 75 (.w []) [.sl 5 (l.map e_Cell),.i size] (.tup [.row 76 0,.agg (c_Fault r.2)]) ⟨[],[],[(76,⟨5,1,0,(r.1.map e_u8).length,0,true,0,[],(r.1.map e_u8)⟩)],[],[]⟩:=by
 refine PT 80 [.tmp 4,.cell 5 35] [22,35] Tryz.func75 ?_
 intro Q g hfin
 unfold file_Make at hF
 refine LR0 ?_
 obtain ⟨x,h0,hF⟩:=oE hF
 refine LR [.callB (.agg (c_Fault x))] (hc (cell_Check_ok l x h0) .nil) ?_
 refine LR0 ?_
 refine Nif hF ?_ ?_ <;> intro hb hF
 ·refine VD [] [4,5] [5] [] [] [(4,.nils),(5,.ptr 5 0)] [(5,(c_Fault x))] [] [] .nil ?_
  cases hF
  refine Wk_nilrow 4 60000 5 1 rfl rfl rfl ?_
  refine Wk_ren' ⟨[],[(60000,76)],[],[]⟩ rfl ?_
  exact Wz [(76,⟨0,true,true,true⟩)] hfin
 ·refine LR [.nat (l.length:Int)] (hc (len_ok e_Cell l) .nil) ?_
  refine Nif hF ?_ ?_ <;> intro hb hF
  ·obtain ⟨x1,h1,hF⟩:=lS hF
   refine VR [.callB (.agg (c_Fault x1))] [4,5] [5] [] [] [(4,.nils),(5,.ptr 5 0)] [(5,(c_Fault x1))] [] [] (hc (file_fault_ok 2 (-1) x1 h1) .nil) ?_
   cases hF
   refine Wk_nilrow 4 60001 5 1 rfl rfl rfl ?_
   refine Wk_ren' ⟨[],[(60001,76)],[],[]⟩ rfl ?_
   exact Wz [(76,⟨0,true,true,true⟩)] hfin
  ·refine LR0 ?_
   refine Nif hF ?_ ?_ <;> intro hb hF
   ·obtain ⟨x2,h2,hF⟩:=lS hF
    refine VR [.callB (.agg (c_Fault x2))] [4,5] [5] [] [] [(4,.nils),(5,.ptr 5 0)] [(5,(c_Fault x2))] [] [] (hc (file_fault_ok 3 (-1) x2 h2) .nil) ?_
    cases hF
    refine Wk_nilrow 4 60002 5 1 rfl rfl rfl ?_
    refine Wk_ren' ⟨[],[(60002,76)],[],[]⟩ rfl ?_
    exact Wz [(76,⟨0,true,true,true⟩)] hfin
   ·obtain ⟨x3,h3,hF⟩:=oE hF
    have p4:=(Pe.ren (file_blocks_ok l size x3 h3) ⟨[],[(22,35),(40,20035)],[],[]⟩)
    refine LR [cE [] [] [] [] p4] (hc p4 .nil) ?_
    refine LR0 ?_
    refine VR [.nat (x3.1.length:Int)] [0,5,7,8,9,38,39,40] [5] [35,20035] [] [(0,.sl 5 (l.map e_Cell)),(5,.ptr 5 0),(7,.row 20035 0),(8,.row 35 0),(9,.nils),(38,.row 20035 0),(39,.i (x3.1.length:Int)),(40,.i 0)] [(5,[.i 0,.i 0])] [(35,.z 9 1 0 (x3.2.map e_str)),(20035,.z 22 1 0 (x3.1.map e_L_u8))] [] (hc (len_ok e_L_u8 x3.1) .nil) ?_
    refine NmeetP (fun v:Fault×List UInt8=>(⟨[(0,.sl 5 (l.map e_Cell)),(5,.ptr 5 0),(7,.row 20035 0),(9,.row 50 0)],[(5,(c_Fault v.1))],[(50,.z 5 1 0 (v.2.map e_u8)),(20035,.z 22 1 0 (x3.1.map e_L_u8))],[],[]⟩:S)) (fun v=>file_Make_J1 l x3 v=some r) ?_ ?_
    ·refine Nblk ?_
     unfold file_Make_L2 at hF
     refine Wk_nilrow 9 60005 5 1 rfl rfl rfl ?_
     refine Wk_trim (fs:=[0,5,7,8,9,38,39,40]) (bs:=[5]) (rs:=[35,20035,60005]) (ms:=[]) (aa:=[]) (nv:=[]) rfl ?_
     refine Wk_ren' ⟨[],[(60005,50)],[],[]⟩ rfl ?_
     refine Nitq (fun v4:Fault×List UInt8×Int=>(⟨[(0,.sl 5 (l.map e_Cell)),(5,.ptr 5 0),(7,.row 20035 0),(8,.row 35 0),(9,.row 50 0),(38,.row 20035 0),(39,.i (x3.1.length:Int)),(40,.i v4.2.2)],[(5,(c_Fault v4.1))],[(35,.z 9 1 0 (x3.2.map e_str)),(50,.z 5 1 0 (v4.2.1.map e_u8)),(20035,.z 22 1 0 (x3.1.map e_L_u8))],[],[]⟩:S)) [] hF ?_
     intro n1 v4 y1 hF ih1 dn1
     unfold file_Make_B2 at hF
     refine LR0 ?_
     refine Nif hF ?_ ?_ <;> intro hb hF
     ·refine Nblk ?_
      obtain ⟨h13,h14,hF⟩:=asrt2 hF
      refine LR [.av (e_L_u8 (lget x3.1 v4.2.2))] (hc (ixr_ok e_L_u8 h13) (hc (ldr_ok e_L_u8 h14) .nil)) ?_
      obtain ⟨h15,h16,hF⟩:=asrt2 hF
      obtain ⟨x7,h17,hF⟩:=oE hF
      have p18:=(Pe.ren (wire_AddText_v1_ok (lget x3.2 v4.2.2) v4.2.1 0 0 true x7 h17) ⟨[],[(100000,50)],[],[]⟩)
      obtain ⟨x8,h19,hF⟩:=oE hF
      have p20:=(Pe.ren (wire_AddNum_v2_ok ((lget x3.1 v4.2.2).length:Int) x7 0 0 true x8 h19) ⟨[],[(100000,50)],[],[(100000,3)]⟩)
      refine LR [.av (e_str (lget x3.2 v4.2.2)),cE [] [50] [] [] p18,.nat ((lget x3.1 v4.2.2).length:Int),cE [] [50] [] [] p20] (hc (ixr_ok e_str h15) (hc (ldr_ok e_str h16) (hc p18 (hc (len_ok e_u8 (lget x3.1 v4.2.2)) (hc p20 .nil))))) ?_
      refine LR0 ?_
      exact Nrnq [(50,⟨0,true,true,false⟩)] hF ih1
     ·refine Nexit rfl ?_
      have hF:=inrO_done hF dn1
      exact metQ (v4.1,v4.2.1) [] hF
    ·intro v hF
     unfold file_Make_J1 at hF
     refine LR0 ?_
     obtain ⟨x4,h5,hF⟩:=oE hF
     have p6:=(Pe.ren (file_filter_ok l x4 h5) ⟨[],[(36,58)],[],[]⟩)
     obtain ⟨h7,hF⟩:=aE hF
     refine VR [cE [] [] [] [] p6,.sealed,.xs ((x3.1++([v.2,x4]:List (List UInt8))).map e_L_u8),.nat ((x3.1++([v.2,x4]:List (List UInt8))).length:Int)] [5,12,60,61,62] [5] [20035] [] [(5,.ptr 5 0),(12,.nils),(60,.row 20035 1),(61,.i ((x3.1++([v.2,x4]:List (List UInt8))).length:Int)),(62,.i 0)] [(5,(c_Fault v.1))] [(20035,.z 22 1 1 ((x3.1++([v.2,x4]:List (List UInt8))).map e_L_u8))] [] (hc p6 (hc (app_ok e_L_u8 x3.1 ([v.2,x4]:List (List UInt8))) (hc (appl_ok e_L_u8 h7) (hc (len_ok e_L_u8 (x3.1++([v.2,x4]:List (List UInt8)))) .nil)))) ?_
     refine NmeetP (fun v1:Fault×List UInt8=>(⟨[(5,.ptr 5 0),(12,.row 76 0)],[(5,(c_Fault v1.1))],[(76,⟨5,1,0,(v1.2.map e_u8).length,0,true,0,[],(v1.2.map e_u8)⟩)],[],[]⟩:S)) (fun v1=>file_Make_J2 v1=some r) ?_ ?_
     ·refine Nblk ?_
      unfold file_Make_L1 at hF
      refine Wk_nilrow 12 60003 5 1 rfl rfl rfl ?_
      refine Wk_trim (fs:=[5,12,60,61,62]) (bs:=[5]) (rs:=[20035,60003]) (ms:=[]) (aa:=[]) (nv:=[]) rfl ?_
      refine Wk_ren' ⟨[],[(60003,76)],[],[]⟩ rfl ?_
      refine Nitq (fun v2:Fault×List UInt8×Int=>(⟨[(5,.ptr 5 0),(12,.row 76 0),(60,.row 20035 1),(61,.i ((x3.1++([v.2,x4]:List (List UInt8))).length:Int)),(62,.i v2.2.2)],[(5,(c_Fault v2.1))],[(76,⟨5,1,0,(v2.2.1.map e_u8).length,0,true,0,[],(v2.2.1.map e_u8)⟩),(20035,.z 22 1 1 ((x3.1++([v.2,x4]:List (List UInt8))).map e_L_u8))],[],[]⟩:S)) [(76,⟨0,true,true,true⟩)] hF ?_
      intro n1 v2 y1 hF ih1 dn1
      unfold file_Make_B1 at hF
      refine NRL (decide (v2.2.2<((x3.1++([v.2,x4]:List (List UInt8))).length:Int))) (fun v3:Bool=>([(63,.bool v3)],[],[],[])) [] [5,12,60,61,62,63] [5] [76,20035] [] .nil (fun v3 hv=>?_)
      have hF:=lt_elim hF hv
      refine Nif hF ?_ ?_ <;> intro hb hF
      ·refine Nblk ?_
       obtain ⟨h8,h9,hF⟩:=asrt2 hF
       refine LR [.av (e_L_u8 (lget (x3.1++([v.2,x4]:List (List UInt8))) v2.2.2))] (hc (ixr_ok e_L_u8 h8) (hc (ldr_ok e_L_u8 h9) .nil)) ?_
       refine LR [.nat (v2.2.1.length:Int),.nat ((lget (x3.1++([v.2,x4]:List (List UInt8))) v2.2.2).length:Int)] (hc (len_ok e_u8 v2.2.1) (hc (len_ok e_u8 (lget (x3.1++([v.2,x4]:List (List UInt8))) v2.2.2)) .nil)) ?_
       refine Nif hF ?_ ?_ <;> intro hb hF
       ·obtain ⟨x5,h10,hF⟩:=lS hF
        refine VR [.callB (.agg (c_Fault x5))] [4,5] [5] [] [] [(4,.nils),(5,.ptr 5 0)] [(5,(c_Fault x5))] [] [] (hc (file_fault_ok 9 0 x5 h10) .nil) ?_
        have hF:=ret_done hF dn1
        cases hF
        refine Wk_nilrow 4 60004 5 1 rfl rfl rfl ?_
        refine Wk_ren' ⟨[],[(60004,76)],[],[]⟩ rfl ?_
        exact Wz [(76,⟨0,true,true,true⟩)] hfin
       ·obtain ⟨x6,h11,hF⟩:=oE hF
        have p12:=(Pe.ren (wire_AddFrame_v2_ok (lget (x3.1++([v.2,x4]:List (List UInt8))) v2.2.2) v2.2.1 ((v2.2.1.map e_u8).length) 0 true x6 h11) ⟨[],[(100000,76)],[],[]⟩)
        refine LR [cE [] [76] [] [] p12] (hc p12 .nil) ?_
        refine LR0 ?_
        exact Nrnq [(76,⟨0,true,true,true⟩)] hF ih1
      ·refine Nexit rfl ?_
       have hF:=inrO_done hF dn1
       exact metQ (v2.1,v2.2.1) [] hF
     ·intro v1 hF
      unfold file_Make_J2 at hF
      refine LR0 ?_
      cases hF
      exact Wz [] hfin

/- tablet.Flush$1 -/
noncomputable def tablet_Flush_1_v1 (box:List UInt8) (box1:Int) (box2:List (List UInt8)) (box3 box4:Int) (box5 box6:Int) (box7:Tablet) (row:List Note) (row1:List Cell) (row2:List (List Cell)):Option (Fault×List UInt8×Int×List (List UInt8)×Int×Int×Int×List Cell):=
 lt (tablet_sized box6) fun x=>
 if (!decide (x.Code=0))=true then
  some (x,box,box1,box2,box3,box4,box5,row1)
 else
  if (decide (box5=box7.Done))=true then
   lt (tablet_fault 6 0) fun x1=>
   some (x1,box,box1,box2,box3,box4,box5,row1)
  else
   if (decide ((box7.Files.length:Int)=10))=true then
    lt (tablet_fault 2 (-2)) fun x2=>
    some (x2,box,box1,box2,box3,box4,box5,row1)
   else
    ob (file_Make row1 box6) fun x3=>
    asrt (((([x3.1]:List (List UInt8))++box7.Files).length:Int)*24≤140737488351232) <|
    some (x3.2,box,box1,(([x3.1]:List (List UInt8))++box7.Files),box5,box4,box5,row1)
theorem tablet_Flush_1_v1_ok (box:List UInt8) (box1:Int) (box2:List (List UInt8)) (box3 box4:Int) (box5 box6:Int) (box7:Tablet) (row:List Note) (row1:List Cell) (row2:List (List Cell)) (rk rc:Nat) (rn:Bool) (rk1 rc1:Nat) (rn1:Bool) (rk2 rc2:Nat) (rn2:Bool) (r:Fault×List UInt8×Int×List (List UInt8)×Int×Int×Int×List Cell) (hF:tablet_Flush_1_v1 box box1 box2 box3 box4 box5 box6 box7 row row1 row2=some r):Pe Tryz.prog 73 ⟨[],[(100000,[.sl 1 (box.map e_u8),.i box1,.sl 1 (box2.map e_L_u8),.i box3,.i box4,.row 100000 0,.i box5,.row 100001 0,.row 100002 0]),(100001,[.i box6]),(100002,(c_Tablet box7))],[(100000,.q 50 2 0 rk rc rn (row.map e_Note)),(100001,.q 53 5 0 rk1 rc1 rn1 (row1.map e_Cell)),(100002,.q 28 1 0 rk2 rc2 rn2 (row2.map e_L_Cell))],[],[]⟩ [.ptr 100000 0,.ptr 100001 0,.ptr 100002 0] (.agg (c_Fault r.1)) ⟨[],[(100000,[.sl 1 (r.2.1.map e_u8),.i r.2.2.1,.sl 1 (r.2.2.2.1.map e_L_u8),.i r.2.2.2.2.1,.i r.2.2.2.2.2.1,.row 100000 0,.i r.2.2.2.2.2.2.1,.row 100001 0,.row 100002 0]),(100001,[.i box6]),(100002,(c_Tablet box7))],[(100000,.q 50 2 0 rk rc rn (row.map e_Note)),(100001,⟨53,5,0,(r.2.2.2.2.2.2.2.map e_Cell).length,rc1,rn1,0,[],(r.2.2.2.2.2.2.2.map e_Cell)⟩),(100002,.q 28 1 0 rk2 rc2 rn2 (row2.map e_L_Cell))],[],[]⟩:=by
 refine PT 54 [.cell 4 35] [35] Tryz.func73 ?_
 intro Q g hfin
 unfold tablet_Flush_1_v1 at hF
 refine LR0 ?_
 obtain ⟨x,h0,hF⟩:=lS hF
 refine LR [.callB (.agg (c_Fault x))] (hc (tablet_sized_ok box6 x h0) .nil) ?_
 refine LR0 ?_
 refine Nif hF ?_ ?_ <;> intro hb hF
 ·refine LR0 ?_
  cases hF
  exact Wz [(100001,⟨0,true,true,true⟩)] hfin
 ·refine LD0 ?_
  refine Nif hF ?_ ?_ <;> intro hb hF
  ·obtain ⟨x1,h1,hF⟩:=lS hF
   refine LR [.callB (.agg (c_Fault x1))] (hc (tablet_fault_ok 6 0 x1 h1) .nil) ?_
   cases hF
   exact Wz [(100001,⟨0,true,true,true⟩)] hfin
  ·refine LR [.nat (box7.Files.length:Int)] (hc (len_ok e_L_u8 box7.Files) .nil) ?_
   refine Nif hF ?_ ?_ <;> intro hb hF
   ·obtain ⟨x2,h2,hF⟩:=lS hF
    refine LR [.callB (.agg (c_Fault x2))] (hc (tablet_fault_ok 2 (-2) x2 h2) .nil) ?_
    cases hF
    exact Wz [(100001,⟨0,true,true,true⟩)] hfin
   ·obtain ⟨x3,h3,hF⟩:=oE hF
    have p4:=(Pe.ren (file_Make_ok row1 box6 x3 h3) ⟨[],[(76,33)],[],[]⟩)
    refine LD [cE [] [] [] [] p4] (hc p4 .nil) ?_
    obtain ⟨h5,hF⟩:=aE hF
    refine LD [.xs ((([x3.1]:List (List UInt8))++box7.Files).map e_L_u8)] (hc (app_ok e_L_u8 ([x3.1]:List (List UInt8)) box7.Files) (hc (appl_ok e_L_u8 h5) .nil)) ?_
    refine VR [] [4] [4,100000,100001,100002] [39,100000,100001,100002] [] [(4,.ptr 4 0)] [(4,(c_Fault x3.2)),(100000,[.sl 1 (box.map e_u8),.i box1,.row 39 1,.i box5,.i box4,.row 100000 0,.i box5,.row 100001 0,.row 100002 0]),(100001,[.i box6]),(100002,(c_Tablet box7))] [(39,.z 22 1 1 ((([x3.1]:List (List UInt8))++box7.Files).map e_L_u8)),(100000,.q 50 2 0 rk rc rn (row.map e_Note)),(100001,⟨53,5,0,(row1.map e_Cell).length,rc1,rn1,0,[],(row1.map e_Cell)⟩),(100002,.q 28 1 0 rk2 rc2 rn2 (row2.map e_L_Cell))] [] .nil ?_
    cases hF
    refine Wk_sealBX [100000,100001,100002] 100000 rfl rfl ?_
    exact Wz [] hfin

/- tablet.with -/
noncomputable def tablet_with_v1 (t0:Tablet) (box:Int) (box1:Tablet):Option (List UInt8×Int×List (List UInt8)×Int×Int×Fault):=
 ob (tablet_load t0) fun x=>
 sm x (fun (x:Fault)=>
  if (!decide (x.Code=0))=true then
   some (([]:List UInt8),0,([]:List (List UInt8)),0,0,x)
  else
   ob (tablet_Flush_1 box box1) fun x1=>
   if (!decide (x1.Code=0))=true then
    some (([]:List UInt8),0,([]:List (List UInt8)),0,0,x1)
   else
    none) (fun (x:List UInt8×Int×List (List UInt8)×Int×Int×List Note×Int×List Cell×List (List Cell)×Fault)=>
  if (!decide (x.2.2.2.2.2.2.2.2.2.Code=0))=true then
   some (([]:List UInt8),0,([]:List (List UInt8)),0,0,x.2.2.2.2.2.2.2.2.2)
  else
   ob (tablet_Flush_1_v1 x.1 x.2.1 x.2.2.1 x.2.2.2.1 x.2.2.2.2.1 x.2.2.2.2.2.2.1 box box1 x.2.2.2.2.2.1 x.2.2.2.2.2.2.2.1 x.2.2.2.2.2.2.2.2.1) fun x1=>
   if (!decide (x1.1.Code=0))=true then
    some (([]:List UInt8),0,([]:List (List UInt8)),0,0,x1.1)
   else
    ob (tablet_own (⟨(⟨x1.2.1,x1.2.2.1⟩:Disk),x1.2.2.2.1,x1.2.2.2.2.1,x1.2.2.2.2.2.1⟩:Tablet)) fun x2=>
    some (x2.1,x2.2.1,x2.2.2.1,x2.2.2.2.1,x2.2.2.2.2,x1.1))
theorem tablet_with_v1_ok (t0:Tablet) (box:Int) (box1:Tablet) (r:List UInt8×Int×List (List UInt8)×Int×Int×Fault) (hF:tablet_with_v1 t0 box box1=some r):Pe Tryz.prog 62 ⟨[],[(100000,[.i box]),(100001,(c_Tablet box1))],[],[],[]⟩ [.agg (c_Tablet t0),.fn 73 [.ptr 100000 0,.ptr 100001 0]] (.tup [.agg [.row 30 0,.i r.2.1,.row 20030 0,.i r.2.2.2.1,.i r.2.2.2.2.1],.agg (c_Fault r.2.2.2.2.2)]) ⟨[],[(100000,[.i box]),(100001,(c_Tablet box1))],[(30,.o 5 1 0 (r.1.map e_u8)),(20030,.o 22 1 0 (r.2.2.1.map e_L_u8))],[],[]⟩:=by
 refine PT 32 [.cell 4 27,.cell 5 35] [27,35] Tryz.func62 ?_
 intro Q g hfin
 unfold tablet_with_v1 at hF
 refine LR0 ?_
 obtain ⟨x,h0,hF⟩:=oE hF
 rcases x with x | x
 ·have hF:=sm_l hF
  refine LR [.callB (.tup [.nilp,.agg (c_Fault x)])] (hc (tablet_load_okl t0 x h0) .nil) ?_
  refine LR0 ?_
  refine Nif hF ?_ ?_ <;> intro hb hF
  ·refine VD [] [4,5] [4,5,100000,100001] [] [] [(4,.ptr 4 0),(5,.ptr 5 0)] [(4,[.nils,.i 0,.nils,.i 0,.i 0]),(5,(c_Fault x)),(100000,[.i box]),(100001,(c_Tablet box1))] [] [] .nil ?_
   cases hF
   refine Wk_nilrowB 4 0 60000 5 1 rfl rfl rfl rfl rfl ?_
   refine Wk_nilrowB 4 2 60001 22 1 rfl rfl rfl rfl rfl ?_
   refine Wk_ren' ⟨[],[(60000,30),(60001,20030)],[],[]⟩ rfl ?_
   exact Wz [(30,⟨0,true,false,false⟩),(20030,⟨0,true,false,false⟩)] hfin
  ·obtain ⟨x1,h1,hF⟩:=oE hF
   refine LR [.callR [100000,100001] [] [] [] (.agg (c_Fault x1))] (hc (Pe.ren (tablet_Flush_1_ok box box1 x1 h1) ⟨[],[],[],[]⟩) .nil) ?_
   refine LR0 ?_
   refine Nif hF ?_ ?_ <;> intro hb hF
   ·refine VD [] [4,5] [4,5,100000,100001] [] [] [(4,.ptr 4 0),(5,.ptr 5 0)] [(4,[.nils,.i 0,.nils,.i 0,.i 0]),(5,(c_Fault x1)),(100000,[.i box]),(100001,(c_Tablet box1))] [] [] .nil ?_
    cases hF
    refine Wk_nilrowB 4 0 60002 5 1 rfl rfl rfl rfl rfl ?_
    refine Wk_nilrowB 4 2 60003 22 1 rfl rfl rfl rfl rfl ?_
    refine Wk_ren' ⟨[],[(60002,30),(60003,20030)],[],[]⟩ rfl ?_
    exact Wz [(30,⟨0,true,false,false⟩),(20030,⟨0,true,false,false⟩)] hfin
   ·cases hF
 ·have hF:=sm_r hF
  have p1:=(Pe.ren (tablet_load_okr t0 x h0) ⟨[(49,10)],[(54,10),(143,20010),(149,40010)],[],[]⟩)
  refine LR [cE [] [] [] [] p1] (hc p1 .nil) ?_
  refine LR0 ?_
  refine Nif hF ?_ ?_ <;> intro hb hF
  ·refine VD [] [4,5] [4,5,100000,100001] [] [] [(4,.ptr 4 0),(5,.ptr 5 0)] [(4,[.nils,.i 0,.nils,.i 0,.i 0]),(5,(c_Fault x.2.2.2.2.2.2.2.2.2)),(100000,[.i box]),(100001,(c_Tablet box1))] [] [] .nil ?_
   cases hF
   refine Wk_nilrowB 4 0 60004 5 1 rfl rfl rfl rfl rfl ?_
   refine Wk_nilrowB 4 2 60005 22 1 rfl rfl rfl rfl rfl ?_
   refine Wk_ren' ⟨[],[(60004,30),(60005,20030)],[],[]⟩ rfl ?_
   exact Wz [(30,⟨0,true,false,false⟩),(20030,⟨0,true,false,false⟩)] hfin
  ·obtain ⟨x1,h2,hF⟩:=oE hF
   have p3:=(Pe.ren (tablet_Flush_1_v1_ok x.1 x.2.1 x.2.2.1 x.2.2.2.1 x.2.2.2.2.1 x.2.2.2.2.2.2.1 box box1 x.2.2.2.2.2.1 x.2.2.2.2.2.2.2.1 x.2.2.2.2.2.2.2.2.1 ((x.2.2.2.2.2.1.map e_Note).length) 0 true ((x.2.2.2.2.2.2.2.1.map e_Cell).length) 0 false 0 0 true x1 h2) ⟨[(100000,10),(100001,100000),(100002,100001)],[(100000,10),(100001,40010),(100002,20010)],[],[]⟩)
   refine LR [cE [10,100000,100001] [10,40010,20010] [] [] p3] (hc p3 .nil) ?_
   refine LR0 ?_
   refine Nif hF ?_ ?_ <;> intro hb hF
   ·refine VD [] [4,5] [4,5,100000,100001] [] [] [(4,.ptr 4 0),(5,.ptr 5 0)] [(4,[.nils,.i 0,.nils,.i 0,.i 0]),(5,(c_Fault x1.1)),(100000,[.i box]),(100001,(c_Tablet box1))] [] [] .nil ?_
    cases hF
    refine Wk_nilrowB 4 0 60006 5 1 rfl rfl rfl rfl rfl ?_
    refine Wk_nilrowB 4 2 60007 22 1 rfl rfl rfl rfl rfl ?_
    refine Wk_ren' ⟨[],[(60006,30),(60007,20030)],[],[]⟩ rfl ?_
    exact Wz [(30,⟨0,true,false,false⟩),(20030,⟨0,true,false,false⟩)] hfin
   ·obtain ⟨x2,h4,hF⟩:=oE hF
    have p5:=(Pe.ren (tablet_own_ok (⟨(⟨x1.2.1,x1.2.2.1⟩:Disk),x1.2.2.2.1,x1.2.2.2.2.1,x1.2.2.2.2.2.1⟩:Tablet) x2 h4) ⟨[],[(8,30),(13,20030)],[],[]⟩)
    refine LD [cE [] [] [] [] p5] (hc p5 .nil) ?_
    cases hF
    exact Wz [] hfin

/- tablet.Flush -/
/- tablet.Flush -/
noncomputable def tablet_Flush_v1 (t0:Tablet) (size:Int):Option (Tablet×Fault):=
 ob (tablet_with_v1 t0 size t0) fun x=>
 some ((⟨(⟨x.1,x.2.1⟩:Disk),x.2.2.1,x.2.2.2.1,x.2.2.2.2.1⟩:Tablet),x.2.2.2.2.2)
theorem tablet_Flush_v1_ok (t0:Tablet) (size:Int) (r:Tablet×Fault) (hF:tablet_Flush_v1 t0 size=some r):Pe Tryz.prog 16 S.none [.agg (c_Tablet t0),.i size] (.tup [.agg (c_Tablet r.1),.agg (c_Fault r.2)]) S.none:=by
 refine PT 11 [.cell 4 27,.cell 5 35] [27,35] Tryz.func16 ?_
 intro Q g hfin
 unfold tablet_Flush_v1 at hF
 refine LR0 ?_
 obtain ⟨x,h0,hF⟩:=oE hF
 have p1:=(Pe.ren (tablet_with_v1_ok t0 size t0 x h0) ⟨[(100000,3),(100001,2)],[(30,8),(20030,20008)],[],[]⟩)
 refine LR [cE [3,2] [] [] [] p1] (hc p1 .nil) ?_
 cases hF
 exact Wz [] hfin

/- wal.Frame -/
noncomputable def wal_Frame_v2 (num:Note) (row:List UInt8):Option (List UInt8):=
 ob (wal_bytes num) fun x=>
 ob (wire_AddFrame_v2 x row) fun x1=>
 some x1
theorem wal_Frame_v2_ok (num:Note) (row:List UInt8) (rk rc:Nat) (rn:Bool) (r:List UInt8) (hF:wal_Frame_v2 num row=some r):Pe Tryz.prog 67 (.w [(100000,.q 5 1 0 rk rc rn (row.map e_u8))]) [.row 100000 0,.agg (c_Note num)] (.row 100000 3) ⟨[],[],[(100000,⟨5,1,3,(r.map e_u8).length,rc,rn,0,[],(r.map e_u8)⟩)],[],[]⟩:=by
 refine PT 9 [.tmp 4] [22] Tryz.func67 ?_
 intro Q g hfin
 unfold wal_Frame_v2 at hF
 refine LR0 ?_
 obtain ⟨x,h0,hF⟩:=oE hF
 have p1:=(Pe.ren (wal_bytes_ok num x h0) ⟨[],[(8,7)],[],[]⟩)
 obtain ⟨x1,h2,hF⟩:=oE hF
 have p3:=(Pe.ren (wire_AddFrame_v2_ok x row rk rc rn x1 h2) ⟨[],[],[],[]⟩)
 refine LR [cE [] [] [] [] p1,cE [] [100000] [] [] p3] (hc p1 (hc p3 .nil)) ?_
 cases hF
 exact Wz [] hfin

/- tablet.Cut$1 -/
noncomputable def tablet_Cut_1_J1 (box2:List (List UInt8)) (box3 box4 box5:Int) (v:Fault×List UInt8×Tablet):Option (Fault×List UInt8×Int×List (List UInt8)×Int×Int×Int×Tablet):=
 some ((⟨0,0⟩:Fault),v.2.1,(v.2.1.length:Int),box2,box3,box4,box5,v.2.2)
noncomputable def tablet_Cut_1_B1 (box2:List (List UInt8)) (box3 box4 box5:Int) (row:List Note) (v1:Tablet×Fault×List UInt8×Int):Option ((Tablet×Fault×List UInt8×Int)⊕(Fault×List UInt8×Int×List (List UInt8)×Int×Int×Int×Tablet)):=
 if (decide (v1.2.2.2<(row.length:Int)))=true then
  asrt (0≤v1.2.2.2∧v1.2.2.2<(row.length:Int)) <|
  asrt (0≤v1.2.2.2∧v1.2.2.2<(row.length:Int)) <|
  ob (
   if (decide (v1.1.Done<((lget row v1.2.2.2).Seq)))=true then
    ob (wal_Frame_v2 (⟨(lget row v1.2.2.2).Seq,(lget row v1.2.2.2).Cells⟩:Note) v1.2.2.1) fun x=>
    some (v1.1,v1.2.1,x)
   else
    some (v1.1,v1.2.1,v1.2.2.1)) fun (v2:Tablet×Fault×List UInt8)=>
  some (Sum.inl (v2.1,v2.2.1,v2.2.2,w64 (v1.2.2.2+1)))
 else
  inrO (tablet_Cut_1_J1 box2 box3 box4 box5 (v1.2.1,v1.2.2.1,v1.1))
noncomputable def tablet_Cut_1_L1 (box2:List (List UInt8)) (box3 box4 box5:Int) (row:List Note) (v0:Tablet×Fault×List UInt8×Int):Option (Fault×List UInt8×Int×List (List UInt8)×Int×Int×Int×Tablet):=
 loopO (fun y=>tablet_Cut_1_B1 box2 box3 box4 box5 row y) v0
noncomputable def tablet_Cut_1 (box:List UInt8) (box1:Int) (box2:List (List UInt8)) (box3 box4 box5:Int) (box6:Tablet) (row:List Note) (row1:List Cell) (row2:List (List Cell)):Option (Fault×List UInt8×Int×List (List UInt8)×Int×Int×Int×Tablet):=
 tablet_Cut_1_L1 box2 box3 box4 box5 row (box6,(⟨0,0⟩:Fault),([]:List UInt8),0)
theorem tablet_Cut_1_ok (box:List UInt8) (box1:Int) (box2:List (List UInt8)) (box3 box4 box5:Int) (box6:Tablet) (row:List Note) (row1:List Cell) (row2:List (List Cell)) (rk rc:Nat) (rn:Bool) (rk1 rc1:Nat) (rn1:Bool) (rk2 rc2:Nat) (rn2:Bool) (r:Fault×List UInt8×Int×List (List UInt8)×Int×Int×Int×Tablet) (hF:tablet_Cut_1 box box1 box2 box3 box4 box5 box6 row row1 row2=some r):Pe Tryz.prog 76 ⟨[],[(100000,[.sl 1 (box.map e_u8),.i box1,.sl 1 (box2.map e_L_u8),.i box3,.i box4,.row 100000 0,.i box5,.row 100001 0,.row 100002 0]),(100001,(c_Tablet box6))],[(100000,.q 50 2 0 rk rc rn (row.map e_Note)),(100001,.q 53 5 0 rk1 rc1 rn1 (row1.map e_Cell)),(100002,.q 28 1 0 rk2 rc2 rn2 (row2.map e_L_Cell))],[],[]⟩ [.ptr 100000 0,.ptr 100001 0] (.agg (c_Fault r.1)) ⟨[],[(100000,[.row 23 0,.i r.2.2.1,.sl 1 (r.2.2.2.1.map e_L_u8),.i r.2.2.2.2.1,.i r.2.2.2.2.2.1,.row 100000 0,.i r.2.2.2.2.2.2.1,.row 100001 0,.row 100002 0]),(100001,(c_Tablet r.2.2.2.2.2.2.2))],[(100000,.q 50 2 0 rk rc rn (row.map e_Note)),(100001,.q 53 5 0 rk1 rc1 rn1 (row1.map e_Cell)),(100002,.q 28 1 0 rk2 rc2 rn2 (row2.map e_L_Cell)),(23,⟨5,1,0,(r.2.1.map e_u8).length,0,true,0,[],(r.2.1.map e_u8)⟩)],[],[]⟩:=by
 refine PT 34 [.cell 3 35] [35] Tryz.func76 ?_
 intro Q g hfin
 unfold tablet_Cut_1 at hF
 refine LR0 ?_
 refine LR0 ?_
 refine VR [.nat (row.length:Int)] [0,1,3,4,10,11,12] [3,100000,100001] [100000,100001,100002] [] [(0,.ptr 100000 0),(1,.ptr 100001 0),(3,.ptr 3 0),(4,.nils),(10,.row 100000 0),(11,.i (row.length:Int)),(12,.i 0)] [(3,[.i 0,.i 0]),(100000,[.sl 1 (box.map e_u8),.i box1,.sl 1 (box2.map e_L_u8),.i box3,.i box4,.row 100000 0,.i box5,.row 100001 0,.row 100002 0]),(100001,(c_Tablet box6))] [(100000,.q 50 2 0 rk rc rn (row.map e_Note)),(100001,.q 53 5 0 rk1 rc1 rn1 (row1.map e_Cell)),(100002,.q 28 1 0 rk2 rc2 rn2 (row2.map e_L_Cell))] [] (hc (len_ok e_Note row) .nil) ?_
 refine NmeetP (fun v:Fault×List UInt8×Tablet=>(⟨[(0,.ptr 100000 0),(3,.ptr 3 0),(4,.row 23 0)],[(3,(c_Fault v.1)),(100000,[.sl 1 (box.map e_u8),.i box1,.sl 1 (box2.map e_L_u8),.i box3,.i box4,.row 100000 0,.i box5,.row 100001 0,.row 100002 0]),(100001,(c_Tablet v.2.2))],[(23,⟨5,1,0,(v.2.1.map e_u8).length,0,true,0,[],(v.2.1.map e_u8)⟩),(100000,.q 50 2 0 rk rc rn (row.map e_Note)),(100001,.q 53 5 0 rk1 rc1 rn1 (row1.map e_Cell)),(100002,.q 28 1 0 rk2 rc2 rn2 (row2.map e_L_Cell))],[],[]⟩:S)) (fun v=>tablet_Cut_1_J1 box2 box3 box4 box5 v=some r) ?_ ?_
 ·refine Nblk ?_
  unfold tablet_Cut_1_L1 at hF
  refine Wk_nilrow 4 60000 5 1 rfl rfl rfl ?_
  refine Wk_trim (fs:=[0,1,3,4,10,11,12]) (bs:=[3,100000,100001]) (rs:=[60000,100000,100001,100002]) (ms:=[]) (aa:=[]) (nv:=[]) rfl ?_
  refine Wk_ren' ⟨[],[(60000,23)],[],[]⟩ rfl ?_
  refine Nitq (fun v1:Tablet×Fault×List UInt8×Int=>(⟨[(0,.ptr 100000 0),(1,.ptr 100001 0),(3,.ptr 3 0),(4,.row 23 0),(10,.row 100000 0),(11,.i (row.length:Int)),(12,.i v1.2.2.2)],[(3,(c_Fault v1.2.1)),(100000,[.sl 1 (box.map e_u8),.i box1,.sl 1 (box2.map e_L_u8),.i box3,.i box4,.row 100000 0,.i box5,.row 100001 0,.row 100002 0]),(100001,(c_Tablet v1.1))],[(23,⟨5,1,0,(v1.2.2.1.map e_u8).length,0,true,0,[],(v1.2.2.1.map e_u8)⟩),(100000,.q 50 2 0 rk rc rn (row.map e_Note)),(100001,.q 53 5 0 rk1 rc1 rn1 (row1.map e_Cell)),(100002,.q 28 1 0 rk2 rc2 rn2 (row2.map e_L_Cell))],[],[]⟩:S)) [(23,⟨0,true,true,true⟩)] hF ?_
  intro n1 v1 y1 hF ih1 dn1
  unfold tablet_Cut_1_B1 at hF
  refine LR0 ?_
  refine Nif hF ?_ ?_ <;> intro hb hF
  ·refine Nblk ?_
   obtain ⟨h0,h1,hF⟩:=asrt2 hF
   refine LR [.av (e_Note (lget row v1.2.2.2))] (hc (ixr_ok e_Note h0) (hc (ldr_ok e_Note h1) .nil)) ?_
   refine LR0 ?_
   obtain ⟨v2,hv,hF⟩:=oE hF
   refine Nmeet (⟨[(0,.ptr 100000 0),(1,.ptr 100001 0),(3,.ptr 3 0),(4,.row 23 0),(10,.row 100000 0),(11,.i (row.length:Int)),(12,.i v1.2.2.2)],[(3,(c_Fault v2.2.1)),(100000,[.sl 1 (box.map e_u8),.i box1,.sl 1 (box2.map e_L_u8),.i box3,.i box4,.row 100000 0,.i box5,.row 100001 0,.row 100002 0]),(100001,(c_Tablet v2.1))],[(23,⟨5,1,0,(v2.2.2.map e_u8).length,0,true,0,[],(v2.2.2.map e_u8)⟩),(100000,.q 50 2 0 rk rc rn (row.map e_Note)),(100001,.q 53 5 0 rk1 rc1 rn1 (row1.map e_Cell)),(100002,.q 28 1 0 rk2 rc2 rn2 (row2.map e_L_Cell))],[],[]⟩:S) ?_ ?_
   ·have hF:=hv
    refine Nif hF ?_ ?_ <;> intro hb hF
    ·obtain ⟨x,h2,hF⟩:=oE hF
     have p3:=(Pe.ren (wal_Frame_v2_ok (⟨(lget row v1.2.2.2).Seq,(lget row v1.2.2.2).Cells⟩:Note) v1.2.2.1 ((v1.2.2.1.map e_u8).length) 0 true x h2) ⟨[],[(100000,23)],[],[]⟩)
     refine LR [cE [] [23] [] [] p3] (hc p3 .nil) ?_
     cases hF
     exact met' [(23,⟨0,true,true,true⟩)]
    ·cases hF
     exact met' []
   ·refine LR0 ?_
    exact Nrnq [] hF ih1
  ·refine Nexit rfl ?_
   have hF:=inrO_done hF dn1
   exact metQ (v1.2.1,v1.2.2.1,v1.1) [] hF
 ·intro v hF
  unfold tablet_Cut_1_J1 at hF
  refine LR [.nat (v.2.1.length:Int)] (hc (len_ok e_u8 v.2.1) .nil) ?_
  refine LR0 ?_
  cases hF
  exact Wz [] hfin

/- tablet.with -/
noncomputable def tablet_with_v2 (t0 box:Tablet):Option (List UInt8×Int×List (List UInt8)×Int×Int×Fault×Tablet):=
 ob (tablet_load t0) fun x=>
 sm x (fun (x:Fault)=>
  if (!decide (x.Code=0))=true then
   some (([]:List UInt8),0,([]:List (List UInt8)),0,0,x,box)
  else
   none) (fun (x:List UInt8×Int×List (List UInt8)×Int×Int×List Note×Int×List Cell×List (List Cell)×Fault)=>
  if (!decide (x.2.2.2.2.2.2.2.2.2.Code=0))=true then
   some (([]:List UInt8),0,([]:List (List UInt8)),0,0,x.2.2.2.2.2.2.2.2.2,box)
  else
   ob (tablet_Cut_1 x.1 x.2.1 x.2.2.1 x.2.2.2.1 x.2.2.2.2.1 x.2.2.2.2.2.2.1 box x.2.2.2.2.2.1 x.2.2.2.2.2.2.2.1 x.2.2.2.2.2.2.2.2.1) fun x1=>
   if (!decide (x1.1.Code=0))=true then
    some (([]:List UInt8),0,([]:List (List UInt8)),0,0,x1.1,x1.2.2.2.2.2.2.2)
   else
    ob (tablet_own (⟨(⟨x1.2.1,x1.2.2.1⟩:Disk),x1.2.2.2.1,x1.2.2.2.2.1,x1.2.2.2.2.2.1⟩:Tablet)) fun x2=>
    some (x2.1,x2.2.1,x2.2.2.1,x2.2.2.2.1,x2.2.2.2.2,x1.1,x1.2.2.2.2.2.2.2))
theorem tablet_with_v2_ok (t0 box:Tablet) (r:List UInt8×Int×List (List UInt8)×Int×Int×Fault×Tablet) (hF:tablet_with_v2 t0 box=some r):Pe Tryz.prog 62 ⟨[],[(100000,(c_Tablet box))],[],[],[]⟩ [.agg (c_Tablet t0),.fn 76 [.ptr 100000 0]] (.tup [.agg [.row 30 0,.i r.2.1,.row 20030 0,.i r.2.2.2.1,.i r.2.2.2.2.1],.agg (c_Fault r.2.2.2.2.2.1)]) ⟨[],[(100000,(c_Tablet r.2.2.2.2.2.2))],[(30,.o 5 1 0 (r.1.map e_u8)),(20030,.o 22 1 0 (r.2.2.1.map e_L_u8))],[],[]⟩:=by
 refine PT 32 [.cell 4 27,.cell 5 35] [27,35] Tryz.func62 ?_
 intro Q g hfin
 unfold tablet_with_v2 at hF
 refine LR0 ?_
 obtain ⟨x,h0,hF⟩:=oE hF
 rcases x with x | x
 ·have hF:=sm_l hF
  refine LR [.callB (.tup [.nilp,.agg (c_Fault x)])] (hc (tablet_load_okl t0 x h0) .nil) ?_
  refine LR0 ?_
  refine Nif hF ?_ ?_ <;> intro hb hF
  ·refine VD [] [4,5] [4,5,100000] [] [] [(4,.ptr 4 0),(5,.ptr 5 0)] [(4,[.nils,.i 0,.nils,.i 0,.i 0]),(5,(c_Fault x)),(100000,(c_Tablet box))] [] [] .nil ?_
   cases hF
   refine Wk_nilrowB 4 0 60000 5 1 rfl rfl rfl rfl rfl ?_
   refine Wk_nilrowB 4 2 60001 22 1 rfl rfl rfl rfl rfl ?_
   refine Wk_ren' ⟨[],[(60000,30),(60001,20030)],[],[]⟩ rfl ?_
   exact Wz [(30,⟨0,true,false,false⟩),(20030,⟨0,true,false,false⟩)] hfin
  ·cases hF
 ·have hF:=sm_r hF
  have p1:=(Pe.ren (tablet_load_okr t0 x h0) ⟨[(49,10)],[(54,10),(143,20010),(149,40010)],[],[]⟩)
  refine LR [cE [] [] [] [] p1] (hc p1 .nil) ?_
  refine LR0 ?_
  refine Nif hF ?_ ?_ <;> intro hb hF
  ·refine VD [] [4,5] [4,5,100000] [] [] [(4,.ptr 4 0),(5,.ptr 5 0)] [(4,[.nils,.i 0,.nils,.i 0,.i 0]),(5,(c_Fault x.2.2.2.2.2.2.2.2.2)),(100000,(c_Tablet box))] [] [] .nil ?_
   cases hF
   refine Wk_nilrowB 4 0 60002 5 1 rfl rfl rfl rfl rfl ?_
   refine Wk_nilrowB 4 2 60003 22 1 rfl rfl rfl rfl rfl ?_
   refine Wk_ren' ⟨[],[(60002,30),(60003,20030)],[],[]⟩ rfl ?_
   exact Wz [(30,⟨0,true,false,false⟩),(20030,⟨0,true,false,false⟩)] hfin
  ·obtain ⟨x1,h2,hF⟩:=oE hF
   have p3:=(Pe.ren (tablet_Cut_1_ok x.1 x.2.1 x.2.2.1 x.2.2.2.1 x.2.2.2.2.1 x.2.2.2.2.2.2.1 box x.2.2.2.2.2.1 x.2.2.2.2.2.2.2.1 x.2.2.2.2.2.2.2.2.1 ((x.2.2.2.2.2.1.map e_Note).length) 0 true ((x.2.2.2.2.2.2.2.1.map e_Cell).length) 0 false 0 0 true x1 h2) ⟨[(100000,10),(100001,100000)],[(100000,10),(100001,40010),(100002,20010),(23,20)],[],[]⟩)
   refine LR [cE [10,100000] [10,40010,20010] [] [] p3] (hc p3 .nil) ?_
   refine LR0 ?_
   refine Nif hF ?_ ?_ <;> intro hb hF
   ·refine VD [] [4,5] [4,5,100000] [] [] [(4,.ptr 4 0),(5,.ptr 5 0)] [(4,[.nils,.i 0,.nils,.i 0,.i 0]),(5,(c_Fault x1.1)),(100000,(c_Tablet x1.2.2.2.2.2.2.2))] [] [] .nil ?_
    cases hF
    refine Wk_nilrowB 4 0 60004 5 1 rfl rfl rfl rfl rfl ?_
    refine Wk_nilrowB 4 2 60005 22 1 rfl rfl rfl rfl rfl ?_
    refine Wk_ren' ⟨[],[(60004,30),(60005,20030)],[],[]⟩ rfl ?_
    exact Wz [(30,⟨0,true,false,false⟩),(20030,⟨0,true,false,false⟩)] hfin
   ·obtain ⟨x2,h4,hF⟩:=oE hF
    have p5:=(Pe.ren (tablet_own_ok (⟨(⟨x1.2.1,x1.2.2.1⟩:Disk),x1.2.2.2.1,x1.2.2.2.2.1,x1.2.2.2.2.2.1⟩:Tablet) x2 h4) ⟨[],[(8,30),(13,20030)],[],[]⟩)
    refine LD [cE [] [] [] [] p5] (hc p5 .nil) ?_
    cases hF
    exact Wz [] hfin

/- tablet.Cut -/
/- tablet.Cut -/
noncomputable def tablet_Cut_v1 (t0:Tablet):Option (Tablet×Fault):=
 ob (tablet_with_v2 t0 t0) fun x=>
 some ((⟨(⟨x.1,x.2.1⟩:Disk),x.2.2.1,x.2.2.2.1,x.2.2.2.2.1⟩:Tablet),x.2.2.2.2.2.1)
theorem tablet_Cut_v1_ok (t0:Tablet) (r:Tablet×Fault) (hF:tablet_Cut_v1 t0=some r):Pe Tryz.prog 17 S.none [.agg (c_Tablet t0)] (.tup [.agg (c_Tablet r.1),.agg (c_Fault r.2)]) S.none:=by
 refine PT 9 [.cell 2 27,.cell 3 35] [27,35] Tryz.func17 ?_
 intro Q g hfin
 unfold tablet_Cut_v1 at hF
 refine LR0 ?_
 obtain ⟨x,h0,hF⟩:=oE hF
 have p1:=(Pe.ren (tablet_with_v2_ok t0 t0 x h0) ⟨[(100000,1)],[(30,6),(20030,20006)],[],[]⟩)
 refine LR [cE [1] [] [] [] p1] (hc p1 .nil) ?_
 cases hF
 exact Wz [] hfin

/- tabularyref.Number -/
noncomputable def R_Number_S (rec:Int→Option (List UInt8)) (num:Int):Option (List UInt8):=
 if (decide (num<128))=true then
  some ([toU8 num]:List UInt8)
 else
  ob (rec (w64 (Int.tdiv num 128))) fun x=>
  asrt (((([toU8 (w64 ((Int.tmod num 128)+128))]:List UInt8)++x).length:Int)*1≤140737488351232) <|
  some (([toU8 (w64 ((Int.tmod num 128)+128))]:List UInt8)++x)
noncomputable def R_Number (num:Int):Option (List UInt8):=recO (fun rec (x:Int)=>R_Number_S rec x) num
theorem R_Number_ok (num:Int) (r:List UInt8) (hF:R_Number num=some r):Pe Tryz.prog 84 (.w []) [.i num] (.row 7 0) ⟨[],[],[(7,.z 5 1 0 (r.map e_u8))],[],[]⟩:=by
 have key:∀ (k:Nat) (x:Int) (r:List UInt8),fuelO (fun rec (x:Int)=>R_Number_S rec x) k x=some r→Pe Tryz.prog 84 (.w []) [.i x] (.row 7 0) ⟨[],[],[(7,.z 5 1 0 (r.map e_u8))],[],[]⟩:=by
  intro k
  induction k with
  | zero=>intro x r hF; cases hF
  | succ k ih=>
   intro x r hF
   have hF:R_Number_S (fuelO (fun rec (x:Int)=>R_Number_S rec x) k) x=some r:=hF
   generalize fuelO (fun rec (x:Int)=>R_Number_S rec x) k=rec at ih hF
   revert hF
   generalize x=num
   intro hF
   refine PT 17 [.tmp 2] [22] Tryz.func84 ?_
   intro Q g hfin
   unfold R_Number_S at hF
   refine LR0 ?_
   refine LR0 ?_
   refine Nif hF ?_ ?_ <;> intro hb hF
   ·refine LR0 ?_
    cases hF
    exact Wz [] hfin
   ·obtain ⟨x,h0,hF⟩:=oE hF
    have p1:=(Pe.ren (ih (w64 (Int.tdiv num 128)) x h0) ⟨[],[(7,15)],[],[]⟩)
    obtain ⟨h2,hF⟩:=aE hF
    refine VR [cE [] [] [] [] p1,.xs ((([toU8 (w64 ((Int.tmod num 128)+128))]:List UInt8)++x).map e_u8)] [2] [] [12] [] [(2,.row 12 1)] [] [(12,.z 5 1 1 ((([toU8 (w64 ((Int.tmod num 128)+128))]:List UInt8)++x).map e_u8))] [] (hc (by decide:(128:Int)≠0) (hc (by decide:(128:Int)≠0) (hc p1 (hc (app_ok e_u8 ([toU8 (w64 ((Int.tmod num 128)+128))]:List UInt8) x) (hc (appl_ok e_u8 h2) .nil))))) ?_
    cases hF
    refine Wk_ren' ⟨[],[(12,7)],[],[]⟩ rfl ?_
    exact Wz [(7,⟨0,true,true,false⟩)] hfin
 obtain ⟨k,hF⟩:=recO_elim hF
 exact key k _ r hF

/- tabularyref.Written -/
noncomputable def R_Written (s0:List UInt8):Option (List UInt8):=
 ob (R_Number (s0.length:Int)) fun x=>
 asrt (((x++s0).length:Int)*1≤140737488351232) <|
 some (x++s0)
theorem R_Written_ok (s0 r:List UInt8) (hF:R_Written s0=some r):Pe Tryz.prog 89 (.w []) [.str s0] (.row 5 1) ⟨[],[],[(5,.z 5 1 1 (r.map e_u8))],[],[]⟩:=by
 refine PT 8 [.tmp 2] [22] Tryz.func89 ?_
 intro Q g hfin
 unfold R_Written at hF
 refine LR0 ?_
 obtain ⟨x,h0,hF⟩:=oE hF
 have p1:=(Pe.ren (R_Number_ok (s0.length:Int) x h0) ⟨[],[(7,5)],[],[]⟩)
 obtain ⟨h2,hF⟩:=aE hF
 refine LR [cE [] [] [] [] p1,.xs ((x++s0).map e_u8)] (hc p1 (hc (app_ok e_u8 x s0) (hc (appl_ok e_u8 h2) .nil))) ?_
 cases hF
 exact Wz [] hfin

/- tabularyref.CellBytes -/
noncomputable def R_CellBytes (c:Cell):Option (List UInt8):=
 ob (R_Written c.Row) fun x=>
 ob (R_Written c.Col) fun x1=>
 asrt (((x++x1).length:Int)*1≤140737488351232) <|
 ob (R_Number c.Time) fun x2=>
 asrt ((((x++x1)++x2).length:Int)*1≤140737488351232) <|
 ob (
  if c.Gone=true then
   asrt (((((x++x1)++x2)++([(1:UInt8)]:List UInt8)).length:Int)*1≤140737488351232) <|
   some (c,(((x++x1)++x2)++([(1:UInt8)]:List UInt8)))
  else
   asrt (((((x++x1)++x2)++([(0:UInt8)]:List UInt8)).length:Int)*1≤140737488351232) <|
   some (c,(((x++x1)++x2)++([(0:UInt8)]:List UInt8)))) fun (v:Cell×List UInt8)=>
 ob (R_Written v.1.Value) fun x3=>
 asrt (((v.2++x3).length:Int)*1≤140737488351232) <|
 some (v.2++x3)
theorem R_CellBytes_ok (c:Cell) (r:List UInt8) (hF:R_CellBytes c=some r):Pe Tryz.prog 85 (.w []) [.agg (c_Cell c)] (.row 6 5) ⟨[],[],[(6,.z 5 1 5 (r.map e_u8))],[],[]⟩:=by
 refine PT 29 [.tmp 2] [22] Tryz.func85 ?_
 intro Q g hfin
 unfold R_CellBytes at hF
 refine LR0 ?_
 obtain ⟨x,h0,hF⟩:=oE hF
 have p1:=(Pe.ren (R_Written_ok c.Row x h0) ⟨[],[(5,6)],[],[]⟩)
 obtain ⟨x1,h2,hF⟩:=oE hF
 have p3:=(Pe.ren (R_Written_ok c.Col x1 h2) ⟨[],[(5,9)],[],[]⟩)
 obtain ⟨h4,hF⟩:=aE hF
 refine LD [cE [] [] [] [] p1,cE [] [] [] [] p3,.xs ((x++x1).map e_u8)] (hc p1 (hc p3 (hc (app_ok e_u8 x x1) (hc (appl_ok e_u8 h4) .nil)))) ?_
 obtain ⟨x2,h5,hF⟩:=oE hF
 have p6:=(Pe.ren (R_Number_ok c.Time x2 h5) ⟨[],[(7,14)],[],[]⟩)
 obtain ⟨h7,hF⟩:=aE hF
 refine LR [cE [] [] [] [] p6,.xs (((x++x1)++x2).map e_u8)] (hc p6 (hc (app_ok e_u8 (x++x1) x2) (hc (appl_ok e_u8 h7) .nil))) ?_
 refine LR0 ?_
 obtain ⟨v,hv,hF⟩:=oE hF
 refine Nmeet (⟨[(1,.ptr 1 0),(3,.row 6 4)],[(1,(c_Cell v.1))],[(6,.z 5 1 4 (v.2.map e_u8))],[],[]⟩:S) ?_ ?_
 ·have hF:=hv
  refine Nif hF ?_ ?_ <;> intro hb hF
  ·obtain ⟨h8,hF⟩:=aE hF
   refine LR [.sealed,.xs ((((x++x1)++x2)++([(1:UInt8)]:List UInt8)).map e_u8)] (hc (app_ok e_u8 ((x++x1)++x2) ([(1:UInt8)]:List UInt8)) (hc (appl_ok e_u8 h8) .nil)) ?_
   cases hF
   exact met' []
  ·obtain ⟨h9,hF⟩:=aE hF
   refine LR [.sealed,.xs ((((x++x1)++x2)++([(0:UInt8)]:List UInt8)).map e_u8)] (hc (app_ok e_u8 ((x++x1)++x2) ([(0:UInt8)]:List UInt8)) (hc (appl_ok e_u8 h9) .nil)) ?_
   cases hF
   exact met' []
 ·obtain ⟨x3,h10,hF⟩:=oE hF
  have p11:=(Pe.ren (R_Written_ok v.1.Value x3 h10) ⟨[],[(5,27)],[],[]⟩)
  obtain ⟨h12,hF⟩:=aE hF
  refine LR [cE [] [] [] [] p11,.xs ((v.2++x3).map e_u8)] (hc p11 (hc (app_ok e_u8 v.2 x3) (hc (appl_ok e_u8 h12) .nil))) ?_
  cases hF
  exact Wz [] hfin

/- tabularyref.Rest -/
noncomputable def R_Rest_J1 (v:Int):Option Int:=
 some (IntKind.u32.wrap (4294967295 - v))
noncomputable def R_Rest_J2 (v1:Int×Int) (v2:Int):Option ((Int×Int)⊕Int):=
 some (Sum.inl (v2,w64 (v1.2+1)))
noncomputable def R_Rest_B2 (b:List UInt8) (v1 v3:Int×Int):Option ((Int×Int)⊕((Int×Int)⊕Int)):=
 if (decide (v3.2<8))=true then
  asrt (0≤v1.2∧v1.2<(b.length:Int)) <|
  asrt (0≤v3.2) <|
  lt (Int.tmod (IntKind.u32.wrap ((toU8 (Int.fdiv ((lget b v1.2).toNat:Int) (2 ^ (min v3.2.toNat 8)))).toNat:Int)) 2) fun (v4:Int)=>
  ob (
   if (decide ((Int.tmod (IntKind.u32.wrap (v3.1+v4)) 2)=1))=true then
    some (bitsOp .xor .u32 (IntKind.u32.wrap (Int.tdiv v3.1 2)) 3988292384)
   else
    some (IntKind.u32.wrap (Int.tdiv v3.1 2))) fun (v5:Int)=>
  some (Sum.inl (v5,w64 (v3.2+1)))
 else
  inrO (R_Rest_J2 v1 v3.1)
noncomputable def R_Rest_L2 (b:List UInt8) (v1 v0:Int×Int):Option ((Int×Int)⊕Int):=
 loopO (fun y=>R_Rest_B2 b v1 y) v0
noncomputable def R_Rest_B1 (b:List UInt8) (v1:Int×Int):Option ((Int×Int)⊕Int):=
 if (decide (v1.2<(b.length:Int)))=true then
  R_Rest_L2 b v1 (v1.1,0)
 else
  inrO (R_Rest_J1 v1.1)
noncomputable def R_Rest_L1 (b:List UInt8) (v0:Int×Int):Option Int:=
 loopO (fun y=>R_Rest_B1 b y) v0
noncomputable def R_Rest (b:List UInt8):Option Int:=
 R_Rest_L1 b (4294967295,0)
theorem R_Rest_ok (b:List UInt8) (r:Int) (hF:R_Rest b=some r):Pe Tryz.prog 83 S.none [.sl 1 (b.map e_u8)] (.int .u32 r) S.none:=by
 refine PT 38 [.tmp 2] [124] Tryz.func83 ?_
 intro Q g hfin
 unfold R_Rest at hF
 refine LR0 ?_
 refine LR0 ?_
 refine LR0 ?_
 refine NmeetP (fun v:Int=>(⟨[(3,.int .u32 v)],[],[],[],[]⟩:S)) (fun v=>R_Rest_J1 v=some r) ?_ ?_
 ·refine Nblk ?_
  unfold R_Rest_L1 at hF
  refine Nitq (fun v1:Int×Int=>(⟨[(0,.sl 1 (b.map e_u8)),(3,.int .u32 v1.1),(4,.i v1.2)],[],[],[],[]⟩:S)) [] hF ?_
  intro n1 v1 y1 hF ih1 dn1
  unfold R_Rest_B1 at hF
  refine LR [.nat (b.length:Int)] (hc (len_ok e_u8 b) .nil) ?_
  refine Nif hF ?_ ?_ <;> intro hb hF
  ·refine Nblk ?_
   refine LR0 ?_
   refine NmeetP (fun v2:Int=>(⟨[(0,.sl 1 (b.map e_u8)),(3,.int .u32 v2),(4,.i v1.2)],[],[],[],[]⟩:S)) (fun v2=>R_Rest_J2 v1 v2=some y1) ?_ ?_
   ·refine Nblk ?_
    unfold R_Rest_L2 at hF
    refine Nitq (fun v3:Int×Int=>(⟨[(0,.sl 1 (b.map e_u8)),(3,.int .u32 v3.1),(4,.i v1.2),(5,.i v3.2)],[],[],[],[]⟩:S)) [] hF ?_
    intro n2 v3 y2 hF ih2 dn2
    unfold R_Rest_B2 at hF
    refine LR0 ?_
    refine Nif hF ?_ ?_ <;> intro hb hF
    ·refine Nblk ?_
     obtain ⟨h0,h1,hF⟩:=asrt2 hF
     refine NRL (Int.tmod (IntKind.u32.wrap ((toU8 (Int.fdiv ((lget b v1.2).toNat:Int) (2 ^ (min v3.2.toNat 8)))).toNat:Int)) 2) (fun v4:Int=>([(6,.int .u32 v4)],[],[],[])) [.av (e_u8 (lget b v1.2))] [0,3,4,5,6] [] [] [] (hc (idx_ok e_u8 h0) (hc h1 (hc (shr8_ok (lget b v1.2) (min v3.2.toNat 8)) (hc (by decide:(2:Int)≠0) .nil)))) (fun v4 hv=>?_)
     have hF:=lt_elim hF hv
     refine LR [] (hc (by decide:(2:Int)≠0) .nil) ?_
     refine LR [] (hc (by decide:(2:Int)≠0) .nil) ?_
     refine LR0 ?_
     obtain ⟨v5,hv,hF⟩:=oE hF
     refine Nmeet (⟨[(0,.sl 1 (b.map e_u8)),(3,.int .u32 v5),(4,.i v1.2),(5,.i v3.2)],[],[],[],[]⟩:S) ?_ ?_
     ·have hF:=hv
      refine Nif hF ?_ ?_ <;> intro hb hF
      ·refine LR0 ?_
       cases hF
       exact met' []
      ·cases hF
       exact met' []
     ·refine LR0 ?_
      exact Nrnq [] hF ih2
    ·refine Nexit rfl ?_
     have hF:=inrO_done hF dn2
     exact metQ v3.1 [] hF
   ·intro v2 hF
    unfold R_Rest_J2 at hF
    refine LR0 ?_
    exact Nrnq [] hF ih1
  ·refine Nexit rfl ?_
   have hF:=inrO_done hF dn1
   exact metQ v1.1 [] hF
 ·intro v hF
  unfold R_Rest_J1 at hF
  refine LR0 ?_
  cases hF
  exact Wz [] hfin

/- tabularyref.Framed -/
noncomputable def R_Framed (body:List UInt8):Option (List UInt8):=
 asrt (((([toU8 (w64 (Int.tdiv (body.length:Int) 256)),toU8 (Int.tmod (body.length:Int) 256)]:List UInt8)++body).length:Int)*1≤140737488351232) <|
 lt ((([toU8 (w64 (Int.tdiv (body.length:Int) 256)),toU8 (Int.tmod (body.length:Int) 256)]:List UInt8)++body)) fun (v:List UInt8)=>
 ob (R_Rest v) fun x=>
 asrt (((v++([toU8 (IntKind.u32.wrap (Int.tdiv x 16777216)),toU8 (Int.tmod (IntKind.u32.wrap (Int.tdiv x 65536)) 256),toU8 (Int.tmod (IntKind.u32.wrap (Int.tdiv x 256)) 256),toU8 (Int.tmod x 256)]:List UInt8)).length:Int)*1≤140737488351232) <|
 lt ((v++([toU8 (IntKind.u32.wrap (Int.tdiv x 16777216)),toU8 (Int.tmod (IntKind.u32.wrap (Int.tdiv x 65536)) 256),toU8 (Int.tmod (IntKind.u32.wrap (Int.tdiv x 256)) 256),toU8 (Int.tmod x 256)]:List UInt8))) fun (v1:List UInt8)=>
 some v1
theorem R_Framed_ok (body r:List UInt8) (hF:R_Framed body=some r):Pe Tryz.prog 23 (.w []) [.sl 1 (body.map e_u8)] (.row 13 2) ⟨[],[],[(13,.z 5 1 2 (r.map e_u8))],[],[]⟩:=by
 refine PT 35 [.tmp 2] [22] Tryz.func23 ?_
 intro Q g hfin
 unfold R_Framed at hF
 refine LR0 ?_
 obtain ⟨h0,hF⟩:=aE hF
 obtain ⟨v,hv,hF⟩:=lS hF
 refine LR [.nat (body.length:Int),.nat (body.length:Int),.xs (v.map e_u8)] (hc (len_ok e_u8 body) (hc (by decide:(256:Int)≠0) (hc (len_ok e_u8 body) (hc (by decide:(256:Int)≠0) (hc (appN e_u8 hv) (hc (applN e_u8 hv h0) .nil)))))) ?_
 obtain ⟨x,h1,hF⟩:=oE hF
 refine LR [.callB (.int .u32 x)] (hc (R_Rest_ok v x h1) .nil) ?_
 obtain ⟨h2,hF⟩:=aE hF
 obtain ⟨v1,hv,hF⟩:=lS hF
 refine LR [.sealed,.xs (v1.map e_u8)] (hc (by decide:(16777216:Int)≠0) (hc (by decide:(65536:Int)≠0) (hc (by decide:(256:Int)≠0) (hc (by decide:(256:Int)≠0) (hc (by decide:(256:Int)≠0) (hc (by decide:(256:Int)≠0) (hc (appN e_u8 hv) (hc (applN e_u8 hv h2) .nil)))))))) ?_
 cases hF
 exact Wz [] hfin

/- tabularyref.RowsOf -/
noncomputable def R_RowsOf_J1 (v:List (List UInt8)):Option (List (List UInt8)):=
 some v
noncomputable def R_RowsOf_B1 (l:List Cell) (v1:List (List UInt8)×Int):Option ((List (List UInt8)×Int)⊕(List (List UInt8))):=
 if (decide (v1.2<(l.length:Int)))=true then
  asrt ((!(decide ((v1.1.length:Int)=0)))=true→0≤w64 ((v1.1.length:Int) - 1)∧w64 ((v1.1.length:Int) - 1)<(v1.1.length:Int)) <|
  asrt ((!(decide ((v1.1.length:Int)=0)))=true→0≤w64 ((v1.1.length:Int) - 1)∧w64 ((v1.1.length:Int) - 1)<(v1.1.length:Int)) <|
  asrt ((!(decide ((v1.1.length:Int)=0)))=true→0≤v1.2∧v1.2<(l.length:Int)) <|
  ob (
   if ((decide ((v1.1.length:Int)=0))||(!decide ((lget v1.1 (w64 ((v1.1.length:Int) - 1)))=((lget l v1.2).Row))))=true then
    asrt (0≤v1.2∧v1.2<(l.length:Int)) <|
    asrt (((v1.1++([(lget l v1.2).Row]:List (List UInt8))).length:Int)*16≤140737488351232) <|
    some (v1.1++([(lget l v1.2).Row]:List (List UInt8)))
   else
    some v1.1) fun (v2:List (List UInt8))=>
  some (Sum.inl (v2,w64 (v1.2+1)))
 else
  inrO (R_RowsOf_J1 v1.1)
noncomputable def R_RowsOf_L1 (l:List Cell) (v0:List (List UInt8)×Int):Option (List (List UInt8)):=
 loopO (fun y=>R_RowsOf_B1 l y) v0
noncomputable def R_RowsOf (l:List Cell):Option (List (List UInt8)):=
 R_RowsOf_L1 l (([]:List (List UInt8)),0)
theorem R_RowsOf_ok (l:List Cell) (r:List (List UInt8)) (hF:R_RowsOf l=some r):Pe Tryz.prog 50 (.w []) [.sl 5 (l.map e_Cell)] (.row 36 0) ⟨[],[],[(36,.z 9 1 0 (r.map e_str))],[],[]⟩:=by
 refine PT 38 [.tmp 2] [86] Tryz.func50 ?_
 intro Q g hfin
 unfold R_RowsOf at hF
 refine LR0 ?_
 refine LR0 ?_
 refine NR [] [0,3,4] [] [] [(0,.sl 5 (l.map e_Cell)),(3,.nils),(4,.i 0)] .nil ?_
 refine NmeetP (fun v:List (List UInt8)=>(⟨[(3,.row 36 0)],[],[(36,.z 9 1 0 (v.map e_str))],[],[]⟩:S)) (fun v=>R_RowsOf_J1 v=some r) ?_ ?_
 ·refine Nblk ?_
  unfold R_RowsOf_L1 at hF
  refine Wk_nilrow 3 60000 9 1 rfl rfl rfl ?_
  refine Wk_trim (fs:=[0,3,4]) (bs:=[]) (rs:=[60000]) (ms:=[]) (aa:=[]) (nv:=[]) rfl ?_
  refine Wk_ren' ⟨[],[(60000,36)],[],[]⟩ rfl ?_
  refine Nitq (fun v1:List (List UInt8)×Int=>(⟨[(0,.sl 5 (l.map e_Cell)),(3,.row 36 0),(4,.i v1.2)],[],[(36,.z 9 1 0 (v1.1.map e_str))],[],[]⟩:S)) [] hF ?_
  intro n1 v1 y1 hF ih1 dn1
  unfold R_RowsOf_B1 at hF
  refine LR [.nat (l.length:Int)] (hc (len_ok e_Cell l) .nil) ?_
  refine Nif hF ?_ ?_ <;> intro hb hF
  ·refine Nblk ?_
   refine LR [.nat (v1.1.length:Int)] (hc (len_ok e_str v1.1) .nil) ?_
   obtain ⟨h0,h1,hF⟩:=asrt2 hF
   obtain ⟨h2,hF⟩:=aE hF
   refine LD [.av (e_str (lget v1.1 (w64 ((v1.1.length:Int) - 1)))),.av (e_Cell (lget l v1.2))] (hc (fun (ga0:(!(decide ((v1.1.length:Int)=0)))=true)=>(ixr_ok e_str (h0 ga0))) (hc (fun (ga0:(!(decide ((v1.1.length:Int)=0)))=true)=>(ldr_ok e_str (h1 ga0))) (hc (fun (ga0:(!(decide ((v1.1.length:Int)=0)))=true)=>(idx_ok e_Cell (h2 ga0))) .nil))) ?_
   obtain ⟨v2,hv,hF⟩:=oE hF
   refine Nmeet (⟨[(0,.sl 5 (l.map e_Cell)),(3,.row 36 0),(4,.i v1.2)],[],[(36,.z 9 1 0 (v2.map e_str))],[],[]⟩:S) ?_ ?_
   ·have hF:=hv
    refine Nif hF ?_ ?_ <;> intro hb hF
    ·obtain ⟨h3,hF⟩:=aE hF
     obtain ⟨h4,hF⟩:=aE hF
     refine LR [.av (e_Cell (lget l v1.2)),.sealed,.xs ((v1.1++([(lget l v1.2).Row]:List (List UInt8))).map e_str)] (hc (idx_ok e_Cell h3) (hc (app_ok e_str v1.1 ([(lget l v1.2).Row]:List (List UInt8))) (hc (appl_ok e_str h4) .nil))) ?_
     cases hF
     exact met' [(36,⟨0,true,true,false⟩)]
    ·cases hF
     exact met' []
   ·refine LR0 ?_
    exact Nrnq [] hF ih1
  ·refine Nexit rfl ?_
   have hF:=inrO_done hF dn1
   exact metQ v1.1 [] hF
 ·intro v hF
  unfold R_RowsOf_J1 at hF
  refine LR0 ?_
  cases hF
  exact Wz [] hfin

/- tabularyref.Bits -/
noncomputable def R_Bits (row:List UInt8) (num:Int):Option (List Int):=
 asrt ((row.length:Int)≤140737488351232) <|
 ob (R_Rest row) fun x=>
 asrt ((IntKind.u64.wrap num)≠0) <|
 asrt ((IntKind.u64.wrap num)≠0) <|
 asrt ((IntKind.u64.wrap num)≠0) <|
 lt (([w64 (Int.tmod (Int.tmod (IntKind.u64.wrap x) 65536) (IntKind.u64.wrap num)),w64 (Int.tmod (IntKind.u64.wrap ((Int.tmod (IntKind.u64.wrap x) 65536)+(IntKind.u64.wrap (Int.tdiv (IntKind.u64.wrap x) 65536)))) (IntKind.u64.wrap num)),w64 (Int.tmod (IntKind.u64.wrap ((Int.tmod (IntKind.u64.wrap x) 65536)+(IntKind.u64.wrap (2*(IntKind.u64.wrap (Int.tdiv (IntKind.u64.wrap x) 65536)))))) (IntKind.u64.wrap num))]:List Int)) fun (v:List Int)=>
 some v
theorem R_Bits_ok (row:List UInt8) (num:Int) (r:List Int) (hF:R_Bits row num=some r):Pe Tryz.prog 129 S.none [.str row,.i num] (.sl 1 (r.map e_i64)) S.none:=by
 refine PT 37 [.tmp 4] [117] Tryz.func129 ?_
 intro Q g hfin
 unfold R_Bits at hF
 refine LR0 ?_
 obtain ⟨h0,hF⟩:=aE hF
 obtain ⟨x,h1,hF⟩:=oE hF
 refine LR [.callB (.int .u32 x)] (hc (bof_ok h0) (hc (R_Rest_ok row x h1) .nil)) ?_
 refine LR [] (hc (by decide:(65536:Int)≠0) (hc (by decide:(65536:Int)≠0) .nil)) ?_
 refine LR0 ?_
 obtain ⟨h2,h3,hF⟩:=asrt2 hF
 obtain ⟨h4,hF⟩:=aE hF
 refine NDL (([w64 (Int.tmod (Int.tmod (IntKind.u64.wrap x) 65536) (IntKind.u64.wrap num)),w64 (Int.tmod (IntKind.u64.wrap ((Int.tmod (IntKind.u64.wrap x) 65536)+(IntKind.u64.wrap (Int.tdiv (IntKind.u64.wrap x) 65536)))) (IntKind.u64.wrap num)),w64 (Int.tmod (IntKind.u64.wrap ((Int.tmod (IntKind.u64.wrap x) 65536)+(IntKind.u64.wrap (2*(IntKind.u64.wrap (Int.tdiv (IntKind.u64.wrap x) 65536)))))) (IntKind.u64.wrap num))]:List Int)) (fun v:List Int=>([(4,.sl 1 (v.map e_i64))],[],[],[])) [.sealed] [4] [] [] [] (hc h2 (hc h3 (hc h4 .nil))) (fun v hv=>?_)
 have hF:=lt_elim hF hv
 cases hF
 exact Wz [] hfin

/- tabularyref.FilterOf -/
noncomputable def R_FilterOf_J2 (v2:List UInt8):Option (List UInt8):=
 some v2
noncomputable def R_FilterOf_B1 (v1:List Bool) (v3:List UInt8×Int):Option ((List UInt8×Int)⊕(List UInt8)):=
 if (decide (v3.2<(v1.length:Int)))=true then
  asrt (0≤v3.2∧v3.2<(v1.length:Int)) <|
  asrt (0≤v3.2∧v3.2<(v1.length:Int)) <|
  ob (
   if (lget v1 v3.2)=true then
    asrt (0≤w64 (Int.tdiv v3.2 8)∧w64 (Int.tdiv v3.2 8)<(v3.1.length:Int)) <|
    asrt (0≤w64 (Int.tdiv v3.2 8)∧w64 (Int.tdiv v3.2 8)<(v3.1.length:Int)) <|
    asrt (0≤(Int.tmod v3.2 8)) <|
    asrt (0≤w64 (Int.tdiv v3.2 8)∧w64 (Int.tdiv v3.2 8)<(v3.1.length:Int)) <|
    asrt (0≤w64 (Int.tdiv v3.2 8)∧w64 (Int.tdiv v3.2 8)<(v3.1.length:Int)) <|
    lt ((lset v3.1 (w64 (Int.tdiv v3.2 8)) (toU8 (((lget v3.1 (w64 (Int.tdiv v3.2 8))).toNat:Int)+((toU8 (((1:UInt8).toNat:Int)*2 ^ (min (Int.tmod v3.2 8).toNat 8))).toNat:Int))))) fun (v5:List UInt8)=>
    some v5
   else
    some v3.1) fun (v4:List UInt8)=>
  some (Sum.inl (v4,w64 (v3.2+1)))
 else
  inrO (R_FilterOf_J2 v3.1)
noncomputable def R_FilterOf_L1 (v1:List Bool) (v0:List UInt8×Int):Option (List UInt8):=
 loopO (fun y=>R_FilterOf_B1 v1 y) v0
noncomputable def R_FilterOf_J1 (v:Int) (v1:List Bool):Option (List UInt8):=
 asrt (0≤(v:Int)∧v≤v∧v*1≤140737488351232) <|
 R_FilterOf_L1 v1 ((List.replicate v.toNat ((0:UInt8):UInt8)),0)
noncomputable def R_FilterOf_J3 (v6:List Bool×Int) (v7:List Bool):Option ((List Bool×Int)⊕(List UInt8)):=
 some (Sum.inl (v7,w64 (v6.2+1)))
noncomputable def R_FilterOf_B3 (v6:List Bool×Int) (x1:List Int) (v8:List Bool×Int):Option ((List Bool×Int)⊕((List Bool×Int)⊕(List UInt8))):=
 if (decide (v8.2<(x1.length:Int)))=true then
  asrt (0≤v8.2∧v8.2<(x1.length:Int)) <|
  asrt (0≤(lget x1 v8.2)∧(lget x1 v8.2)<(v8.1.length:Int)) <|
  asrt (0≤(lget x1 v8.2)∧(lget x1 v8.2)<(v8.1.length:Int)) <|
  some (Sum.inl ((lset v8.1 (lget x1 v8.2) true),w64 (v8.2+1)))
 else
  inrO (R_FilterOf_J3 v6 v8.1)
noncomputable def R_FilterOf_L3 (v6:List Bool×Int) (x1:List Int) (v0:List Bool×Int):Option ((List Bool×Int)⊕(List UInt8)):=
 loopO (fun y=>R_FilterOf_B3 v6 x1 y) v0
noncomputable def R_FilterOf_B2 (x:List (List UInt8)) (v:Int) (v6:List Bool×Int):Option ((List Bool×Int)⊕(List UInt8)):=
 if (decide (v6.2<(x.length:Int)))=true then
  asrt (0≤v6.2∧v6.2<(x.length:Int)) <|
  asrt (0≤v6.2∧v6.2<(x.length:Int)) <|
  ob (R_Bits (lget x v6.2) (w64 (8*v))) fun x1=>
  R_FilterOf_L3 v6 x1 (v6.1,0)
 else
  inrO (R_FilterOf_J1 v v6.1)
noncomputable def R_FilterOf_L2 (x:List (List UInt8)) (v:Int) (v0:List Bool×Int):Option (List UInt8):=
 loopO (fun y=>R_FilterOf_B2 x v y) v0
noncomputable def R_FilterOf (l:List Cell):Option (List UInt8):=
 ob (R_RowsOf l) fun x=>
 ob (
  if (decide ((x.length:Int)=0))=true then
   some 1
  else
   some (x.length:Int)) fun (v:Int)=>
 asrt (0≤(w64 (8*v):Int)∧w64 (8*v)≤w64 (8*v)∧(w64 (8*v))*1≤140737488351232) <|
 R_FilterOf_L2 x v ((List.replicate (w64 (8*v)).toNat (false:Bool)),0)
theorem R_FilterOf_ok (l:List Cell) (r:List UInt8) (hF:R_FilterOf l=some r):Pe Tryz.prog 90 (.w []) [.sl 5 (l.map e_Cell)] (.row 46 0) ⟨[],[],[(46,.o 5 1 0 (r.map e_u8))],[],[]⟩:=by
 refine PT 71 [.tmp 2] [22] Tryz.func90 ?_
 intro Q g hfin
 unfold R_FilterOf at hF
 refine LR0 ?_
 obtain ⟨x,h0,hF⟩:=oE hF
 have p1:=(Pe.ren (R_RowsOf_ok l x h0) ⟨[],[(36,12)],[],[]⟩)
 refine LR [cE [] [] [] [] p1] (hc p1 .nil) ?_
 refine LR [.nat (x.length:Int)] (hc (len_ok e_str x) .nil) ?_
 refine LR0 ?_
 obtain ⟨v,hv,hF⟩:=oE hF
 refine Nmeet (⟨[(3,.row 12 0),(4,.i v)],[],[(12,.z 9 1 0 (x.map e_str))],[],[]⟩:S) ?_ ?_
 ·have hF:=hv
  refine Nif hF ?_ ?_ <;> intro hb hF
  ·refine LR0 ?_
   cases hF
   exact met' []
  ·cases hF
   exact met' []
 ·obtain ⟨h2,hF⟩:=aE hF
  refine LR [.xs ((List.replicate (w64 (8*v)).toNat (false:Bool)).map e_bool)] (hc (mk_ok h2) (hc (rep_ok e_bool (w64 (8*v)) (false:Bool)) .nil)) ?_
  refine LR0 ?_
  refine NmeetP (fun v1:List Bool=>(⟨[(4,.i v),(5,.row 19 0)],[],[(19,.o 4 1 0 (v1.map e_bool))],[],[]⟩:S)) (fun v1=>R_FilterOf_J1 v v1=some r) ?_ ?_
  ·refine Nblk ?_
   unfold R_FilterOf_L2 at hF
   refine Nitq (fun v6:List Bool×Int=>(⟨[(3,.row 12 0),(4,.i v),(5,.row 19 0),(6,.i v6.2)],[],[(12,.z 9 1 0 (x.map e_str)),(19,.o 4 1 0 (v6.1.map e_bool))],[],[]⟩:S)) [] hF ?_
   intro n1 v6 y1 hF ih1 dn1
   unfold R_FilterOf_B2 at hF
   refine LR [.nat (x.length:Int)] (hc (len_ok e_str x) .nil) ?_
   refine Nif hF ?_ ?_ <;> intro hb hF
   ·refine Nblk ?_
    obtain ⟨h11,h12,hF⟩:=asrt2 hF
    obtain ⟨x1,h13,hF⟩:=oE hF
    refine LR [.av (e_str (lget x v6.2)),.call (.sl 1 (x1.map e_i64))] (hc (ixr_ok e_str h11) (hc (ldr_ok e_str h12) (hc (R_Bits_ok (lget x v6.2) (w64 (8*v)) x1 h13) .nil))) ?_
    refine LR0 ?_
    refine NmeetP (fun v7:List Bool=>(⟨[(3,.row 12 0),(4,.i v),(5,.row 19 0),(6,.i v6.2)],[],[(12,.z 9 1 0 (x.map e_str)),(19,.o 4 1 0 (v7.map e_bool))],[],[]⟩:S)) (fun v7=>R_FilterOf_J3 v6 v7=some y1) ?_ ?_
    ·refine Nblk ?_
     unfold R_FilterOf_L3 at hF
     refine Nitq (fun v8:List Bool×Int=>(⟨[(3,.row 12 0),(4,.i v),(5,.row 19 0),(6,.i v6.2),(7,.sl 1 (x1.map e_i64)),(8,.i v8.2)],[],[(12,.z 9 1 0 (x.map e_str)),(19,.o 4 1 0 (v8.1.map e_bool))],[],[]⟩:S)) [] hF ?_
     intro n2 v8 y2 hF ih2 dn2
     unfold R_FilterOf_B3 at hF
     refine LR [.nat (x1.length:Int)] (hc (len_ok e_i64 x1) .nil) ?_
     refine Nif hF ?_ ?_ <;> intro hb hF
     ·refine Nblk ?_
      obtain ⟨h14,h15,hF⟩:=asrt2 hF
      obtain ⟨h16,hF⟩:=aE hF
      refine LR [.av (e_i64 (lget x1 v8.2)),.av (e_bool (lget v8.1 (lget x1 v8.2))),.xs ((lset v8.1 (lget x1 v8.2) true).map e_bool)] (hc (idx_ok e_i64 h14) (hc (ixr_ok e_bool h15) (hc (ldr_ok e_bool h16) (hc (set_ok e_bool v8.1 (lget x1 v8.2) true) (hc (Nat.zero_le ((lget x1 v8.2).toNat)) .nil))))) ?_
      refine LR0 ?_
      exact Nrnq [] hF ih2
     ·refine Nexit rfl ?_
      have hF:=inrO_done hF dn2
      exact metQ v8.1 [] hF
    ·intro v7 hF
     unfold R_FilterOf_J3 at hF
     refine LR0 ?_
     exact Nrnq [] hF ih1
   ·refine Nexit rfl ?_
    have hF:=inrO_done hF dn1
    exact metQ v6.1 [] hF
  ·intro v1 hF
   unfold R_FilterOf_J1 at hF
   obtain ⟨h3,hF⟩:=aE hF
   refine LR [.xs ((List.replicate v.toNat ((0:UInt8):UInt8)).map e_u8)] (hc (mk_ok h3) (hc (rep_ok e_u8 v ((0:UInt8):UInt8)) .nil)) ?_
   refine LR0 ?_
   refine NmeetP (fun v2:List UInt8=>(⟨[(9,.row 46 0)],[],[(46,.o 5 1 0 (v2.map e_u8))],[],[]⟩:S)) (fun v2=>R_FilterOf_J2 v2=some r) ?_ ?_
   ·refine Nblk ?_
    unfold R_FilterOf_L1 at hF
    refine Nitq (fun v3:List UInt8×Int=>(⟨[(5,.row 19 0),(9,.row 46 0),(10,.i v3.2)],[],[(19,.o 4 1 0 (v1.map e_bool)),(46,.o 5 1 0 (v3.1.map e_u8))],[],[]⟩:S)) [] hF ?_
    intro n1 v3 y1 hF ih1 dn1
    unfold R_FilterOf_B1 at hF
    refine LR [.nat (v1.length:Int)] (hc (len_ok e_bool v1) .nil) ?_
    refine Nif hF ?_ ?_ <;> intro hb hF
    ·refine Nblk ?_
     obtain ⟨h4,h5,hF⟩:=asrt2 hF
     refine LR [.av (e_bool (lget v1 v3.2))] (hc (ixr_ok e_bool h4) (hc (ldr_ok e_bool h5) .nil)) ?_
     obtain ⟨v4,hv,hF⟩:=oE hF
     refine Nmeet (⟨[(5,.row 19 0),(9,.row 46 0),(10,.i v3.2)],[],[(19,.o 4 1 0 (v1.map e_bool)),(46,.o 5 1 0 (v4.map e_u8))],[],[]⟩:S) ?_ ?_
     ·have hF:=hv
      refine Nif hF ?_ ?_ <;> intro hb hF
      ·obtain ⟨h6,hF⟩:=aE hF
       obtain ⟨h7,h8,h9,h10,hF⟩:=asrt4 hF
       obtain ⟨v5,hv,hF⟩:=lS hF
       refine LD [.av (e_u8 (lget v3.1 (w64 (Int.tdiv v3.2 8)))),.av (e_u8 (lget v3.1 (w64 (Int.tdiv v3.2 8)))),.xs (v5.map e_u8)] (hc (by decide:(8:Int)≠0) (hc (by decide:(8:Int)≠0) (hc (ixr_ok e_u8 h6) (hc (ldr_ok e_u8 h7) (hc (by decide:(8:Int)≠0) (hc h8 (hc (ixr_ok e_u8 h9) (hc (ldr_ok e_u8 h10) (hc (setN e_u8 hv) (hc (Nat.zero_le ((w64 (Int.tdiv v3.2 8)).toNat)) .nil)))))))))) ?_
       cases hF
       exact met' []
      ·cases hF
       exact met' []
     ·refine LR0 ?_
      exact Nrnq [] hF ih1
    ·refine Nexit rfl ?_
     have hF:=inrO_done hF dn1
     exact metQ v3.1 [] hF
   ·intro v2 hF
    unfold R_FilterOf_J2 at hF
    refine LR0 ?_
    cases hF
    exact Wz [] hfin

end G
end Go.Proofs.YticbfakiihfgmaaGreat
