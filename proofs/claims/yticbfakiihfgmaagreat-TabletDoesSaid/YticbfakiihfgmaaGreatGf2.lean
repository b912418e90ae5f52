/- The program's functions as plain functions, and that they are these. Written by a program (dec2.py). -/
import Derived.Test.YticbfakiihfgmaaGreatGf1
namespace Go.Proofs.YticbfakiihfgmaaGreat
open Go Go.Dm
set_option linter.unusedVariables false
set_option linter.unusedSimpArgs false
set_option maxRecDepth 100000
namespace G
noncomputable section
/- tablet.Put$1 -/
def tablet_Put_1_J1 (box:List UInt8) (box1:Int) (box2:List (List UInt8)) (box3 box4:Int) (box5 box8:Int) (row:List Note) (row1:List Cell) (row2:List (List Cell)) (v:Tablet×Fault×Note):Option (Fault×List UInt8×Int×List (List UInt8)×Int×Int×List Note×Int×List Cell×Tablet×Int):=
 ob (wal_Frame_v1 v.2.2) fun x1=>
 ob (disk_Append v.1.Log x1) fun x2=>
 if (!decide (x2.2.2.Code=0))=true then
  some (x2.2.2,box,box1,box2,box3,box4,row,box5,row1,v.1,box8)
 else
  zaq (((row++[v.2.2]).length:Int)*32≤140737488351232) <|
  ob (tablet_tab_fill_v1 x2.2.1 box2 box3 box4 box5 x2.1 (row++[v.2.2]) row1 row2) fun x3=>
  some (x3.1,x2.1,x3.2.1,x3.2.2.1,x3.2.2.2.1,x3.2.2.2.2.1,x3.2.2.2.2.2.1,x3.2.2.2.2.2.2.1,x3.2.2.2.2.2.2.2,v.1,v.2.2.Seq)
def tablet_Put_1_B1 (box:List UInt8) (box1:Int) (box2:List (List UInt8)) (box3 box4 box5:Int) (box6:List Cell) (box8:Int) (row:List Note) (row1:List Cell) (row2:List (List Cell)) (v1:Tablet×Fault×Note×Int):Option ((Tablet×Fault×Note×Int)⊕(Fault×List UInt8×Int×List (List UInt8)×Int×Int×List Note×Int×List Cell×Tablet×Int)):=
 if (decide (v1.2.2.2<(box6.length:Int)))=true then
  zaq (0≤v1.2.2.2∧v1.2.2.2<(box6.length:Int)) <|
  if (decide (((zaf box6 v1.2.2.2).Time)<v1.1.Since))=true then
   lt (zc2 12 v1.2.2.2) fun x4=>
   some (Sum.inr (x4,box,box1,box2,box3,box4,row,box5,row1,v1.1,box8))
  else
   some (Sum.inl (v1.1,v1.2.1,v1.2.2.1,w64 (v1.2.2.2+1)))
 else
  zem (tablet_Put_1_J1 box box1 box2 box3 box4 box5 box8 row row1 row2 (v1.1,v1.2.1,v1.2.2.1))
def tablet_Put_1_L1 (box:List UInt8) (box1:Int) (box2:List (List UInt8)) (box3 box4 box5:Int) (box6:List Cell) (box8:Int) (row:List Note) (row1:List Cell) (row2:List (List Cell)) (v0:Tablet×Fault×Note×Int):Option (Fault×List UInt8×Int×List (List UInt8)×Int×Int×List Note×Int×List Cell×Tablet×Int):=
 zbc (fun y=>tablet_Put_1_B1 box box1 box2 box3 box4 box5 box6 box8 row row1 row2 y) v0
def tablet_Put_1 (box:List UInt8) (box1:Int) (box2:List (List UInt8)) (box3 box4 box5:Int) (box6:List Cell) (box7:Tablet) (box8:Int) (row:List Note) (row1:List Cell) (row2:List (List Cell)):Option (Fault×List UInt8×Int×List (List UInt8)×Int×Int×List Note×Int×List Cell×Tablet×Int):=
 ob (wal_Check (⟨w64 (box5+1),box6⟩:Note)) fun x=>
 if (!decide (x.Code=0))=true then
  some (x,box,box1,box2,box3,box4,row,box5,row1,box7,box8)
 else
  tablet_Put_1_L1 box box1 box2 box3 box4 box5 box6 box8 row row1 row2 (box7,(⟨0,0⟩:Fault),(⟨w64 (box5+1),box6⟩:Note),0)
theorem tablet_Put_1_ok (rk rc:Nat) (rn:Bool) (rk1 rc1:Nat) (rn1:Bool) (rk2 rc2:Nat) (rn2:Bool) {box box1 box2 box3 box4 box5 box6 box7 box8 row row1 row2 r} (hF:tablet_Put_1 box box1 box2 box3 box4 box5 box6 box7 box8 row row1 row2=some r):Pe Tryz.prog 63 ⟨[],[(100000,[.sl 1 (box.map zan),.i box1,.sl 1 (box2.map zag),.i box3,.i box4,.row 100000 0,.i box5,.row 100001 0,.row 100002 0]),(100001,[.sl 5 (box6.map zac)]),(100002,(zae box7)),(100003,[.i box8])],[(100000,.q 50 2 0 rk rc rn (row.map zak)),(100001,.q 53 5 0 rk1 rc1 rn1 (row1.map zac)),(100002,.q 28 1 0 rk2 rc2 rn2 (row2.map zas))],[],[]⟩ [.ptr 100000 0,.ptr 100001 0,.ptr 100002 0,.ptr 100003 0] (.agg (zad r.1)) ⟨[],[(100000,[.sl 1 (r.2.1.map zan),.i r.2.2.1,.sl 1 (r.2.2.2.1.map zag),.i r.2.2.2.2.1,.i r.2.2.2.2.2.1,.row 100000 1,.i r.2.2.2.2.2.2.2.1,.sl 5 (r.2.2.2.2.2.2.2.2.1.map zac),.row 100002 0]),(100001,[.sl 5 (box6.map zac)]),(100002,(zae r.2.2.2.2.2.2.2.2.2.1)),(100003,[.i r.2.2.2.2.2.2.2.2.2.2])],[(100000,⟨50,2,1,(r.2.2.2.2.2.2.1.map zak).length,rc,rn,0,[],(r.2.2.2.2.2.2.1.map zak)⟩),(100001,⟨53,5,0,((row1).map zac).length,rc1,rn1,0,[],(row1.map zac)⟩),(100002,.q 28 1 0 rk2 rc2 rn2 (row2.map zas))],[],[]⟩:=by
 refine PT 71 [.cell 5 35] [35] Tryz.func63 ?_
 intro Q g hfin
 unfold tablet_Put_1 at hF
 refine LR0 ?_
 refine LD0 ?_
 obtain ⟨x,h0,hF⟩:=oE hF
 refine RJ (.b (wal_Check_ok h0) .z) ?_
 refine LR0 ?_
 refine Nif hF ?_ ?_ <;> intro hb hF
 ·refine VR [] [5] [5,100000,100001,100002,100003] [100000,100001,100002] [] [(5,.ptr 5 0)] [(5,(zad x)),(100000,[.sl 1 (box.map zan),.i box1,.sl 1 (box2.map zag),.i box3,.i box4,.row 100000 0,.i box5,.row 100001 0,.row 100002 0]),(100001,[.sl 5 (box6.map zac)]),(100002,(zae box7)),(100003,[.i box8])] [(100000,.q 50 2 0 rk rc rn (row.map zak)),(100001,.q 53 5 0 rk1 rc1 rn1 (row1.map zac)),(100002,.q 28 1 0 rk2 rc2 rn2 (row2.map zas))] [] .nil ?_
  cases hF
  refine Wk_sealBX [100000,100002] 100000 rfl rfl ?_
  exact Wz [(100000,⟨1,true,true,true⟩),(100001,⟨0,true,true,true⟩)] hfin
 ·refine RJ (.l zac box6 .z) ?_
  refine NmS (fun v=>tablet_Put_1_J1 box box1 box2 box3 box4 box5 box8 row row1 row2 v=some r) (fun Z v=>Z.up [0,2,3,5,6] [5,6,100000,100001,100002,100003] [100000,100001,100002] [] [] [(5,(zad v.2.1)),(6,(c_Note v.2.2)),(100002,(zae v.1))] [] []) ?_ ?_
  ·refine zcb ?_
   unfold tablet_Put_1_L1 at hF
   refine Nits hF [] (fun Z v1=>Z.up [0,2,3,5,6,25,26,27] [5,6,100000,100001,100002,100003] [100000,100001,100002] [] [(27,.i v1.2.2.2)] [(5,(zad v1.2.1)),(6,(c_Note v1.2.2.1)),(100002,(zae v1.1))] [] []) ?_
   intro n1 v1 y1 hF ih1 dn1
   unfold tablet_Put_1_B1 at hF
   refine LR0 ?_
   refine Nif hF ?_ ?_ <;> intro hb hF
   ·refine zcb ?_
    obtain ⟨h8,hF⟩:=aE hF
    refine RJ (.i zac h8 .z) ?_
    refine LR0 ?_
    refine Nif hF ?_ ?_ <;> intro hb hF
    ·obtain ⟨x4,h9,hF⟩:=lS hF
     refine VR [.callB (.agg (zad x4))] [5] [5,100000,100001,100002,100003] [100000,100001,100002] [] [(5,.ptr 5 0)] [(5,(zad x4)),(100000,[.sl 1 (box.map zan),.i box1,.sl 1 (box2.map zag),.i box3,.i box4,.row 100000 0,.i box5,.row 100001 0,.row 100002 0]),(100001,[.sl 5 (box6.map zac)]),(100002,(zae v1.1)),(100003,[.i box8])] [(100000,.q 50 2 0 rk rc rn (row.map zak)),(100001,.q 53 5 0 rk1 rc1 rn1 (row1.map zac)),(100002,.q 28 1 0 rk2 rc2 rn2 (row2.map zas))] [] (hc (za9 h9) .nil) ?_
     have hF:=zc0 hF dn1
     cases hF
     refine Wk_sealBX [100000,100002] 100000 rfl rfl ?_
     exact Wz [(100000,⟨1,true,true,true⟩),(100001,⟨0,true,true,true⟩)] hfin
    ·refine LR0 ?_
     exact Nrnq [] hF ih1
   ·refine zbv rfl ?_
    have hF:=zaj hF dn1
    exact ze6 (v1.1,v1.2.1,v1.2.2.1) [] hF
  ·intro v hF
   unfold tablet_Put_1_J1 at hF
   obtain ⟨x1,h1,hF⟩:=oE hF
   have p2:=(Pe.ren (wal_Frame_v1_ok h1) ⟨[],[(8,44)],[],[]⟩)
   obtain ⟨x2,h3,hF⟩:=oE hF
   have p4:=(Pe.ren (disk_Append_ok h3) ⟨[],[(27,45)],[],[]⟩)
   refine DJ (.a (.raw [0]) (.a (cE [] [] [] [] p2) (.g p2 (.e [] [] p4 .z)))) ?_
   refine LR0 ?_
   refine Nif hF ?_ ?_ <;> intro hb hF
   ·refine VR [] [5] [5,100000,100001,100002,100003] [100000,100001,100002] [] [(5,.ptr 5 0)] [(5,(zad x2.2.2)),(100000,[.sl 1 (box.map zan),.i box1,.sl 1 (box2.map zag),.i box3,.i box4,.row 100000 0,.i box5,.row 100001 0,.row 100002 0]),(100001,[.sl 5 (box6.map zac)]),(100002,(zae v.1)),(100003,[.i box8])] [(100000,.q 50 2 0 rk rc rn (row.map zak)),(100001,.q 53 5 0 rk1 rc1 rn1 (row1.map zac)),(100002,.q 28 1 0 rk2 rc2 rn2 (row2.map zas))] [] .nil ?_
    cases hF
    refine Wk_sealBX [100000,100002] 100000 rfl rfl ?_
    exact Wz [(100000,⟨1,true,true,true⟩),(100001,⟨0,true,true,true⟩)] hfin
   ·obtain ⟨h5,hF⟩:=aE hF
    refine DJ (.a (.sealed) (.p zak h5 .z)) ?_
    obtain ⟨x3,h6,hF⟩:=oE hF
    have p7:=(Pe.ren (tablet_tab_fill_v1_ok 0 0 false rk rc rn rk1 rc1 rn1 rk2 rc2 rn2 h6) ⟨[],[(100000,45),(100001,100000),(100002,100001),(100003,100002),(22,70)],[],[(100001,1)]⟩)
    refine VR [cE [100000] [45,100000,100001,100002] [] [] p7] [5] [5,100000,100001,100002,100003] [45,70,100000,100001,100002] [] [(5,.ptr 5 0)] [(5,(zad x3.1)),(100000,[.row 45 0,.i x3.2.1,.sl 1 (x3.2.2.1.map zag),.i x3.2.2.2.1,.i x3.2.2.2.2.1,.row 100000 1,.i x3.2.2.2.2.2.2.1,.row 70 0,.row 100002 0]),(100001,[.sl 5 (box6.map zac)]),(100002,(zae v.1)),(100003,[.i v.2.2.Seq])] [(45,.o 5 1 0 (x2.1.map zan)),(70,⟨53,5,0,(x3.2.2.2.2.2.2.2.map zac).length,0,false,0,[],(x3.2.2.2.2.2.2.2.map zac)⟩),(100000,⟨50,2,1,(x3.2.2.2.2.2.1.map zak).length,rc,rn,0,[],(x3.2.2.2.2.2.1.map zak)⟩),(100001,.q 53 5 0 rk1 rc1 rn1 (row1.map zac)),(100002,.q 28 1 0 rk2 rc2 rn2 (row2.map zas))] [] (hc p7 .nil) ?_
    cases hF
    refine Wk_sealBX [100000,100002] 100000 rfl rfl ?_
    exact Wz [(100001,⟨0,true,true,true⟩)] hfin

/- disk.Copy -/
def disk_Copy (d:Disk):Option (List UInt8×Int):=
 ob (zbu d.Bytes) fun x=>
 some (x,d.Kept)
theorem disk_Copy_ok {d r} (hF:disk_Copy d=some r):Pe Tryz.prog 139 (.w []) [.agg (c_Disk d)] (.agg [.row 5 0,.i r.2]) ⟨[],[],[(5,.o 5 1 0 (r.1.map zan))],[],[]⟩:=by
 refine PT 9 [.cell 2 24] [24] Tryz.func139 ?_
 intro Q g hfin
 unfold disk_Copy at hF
 refine LR0 ?_
 obtain ⟨x,h0,hF⟩:=oE hF
 have p1:=(Pe.ren (zdq h0) ⟨[],[],[],[]⟩)
 refine DJ (.e [] [] p1 .z) ?_
 cases hF
 exact Wz [] hfin

/- tablet.own -/
def tablet_own_J1 (x:List UInt8×Int) (v:List (List UInt8)×Int×Int×Tablet×List (List UInt8)):Option (List UInt8×Int×List (List UInt8)×Int×Int):=
 some (x.1,x.2,v.2.2.2.2,v.2.1,v.2.2.1)
def tablet_own_B1 (x:List UInt8×Int) (v1:List (List UInt8)×Int×Int×Tablet×List (List UInt8)×List (List UInt8)×Int×Int):Option ((List (List UInt8)×Int×Int×Tablet×List (List UInt8)×List (List UInt8)×Int×Int)⊕(List UInt8×Int×List (List UInt8)×Int×Int)):=
 if (decide (v1.2.2.2.2.2.2.2<v1.2.2.2.2.2.2.1))=true then
  zaq (0≤v1.2.2.2.2.2.2.2∧v1.2.2.2.2.2.2.2<(v1.2.2.2.2.2.1.length:Int)) <|
  ob (zbu (zaf v1.2.2.2.2.2.1 v1.2.2.2.2.2.2.2)) fun x1=>
  zaq (((v1.2.2.2.2.1++([x1]:List (List UInt8))).length:Int)*24≤140737488351232) <|
  some (Sum.inl (v1.1,v1.2.1,v1.2.2.1,v1.2.2.2.1,(v1.2.2.2.2.1++([x1]:List (List UInt8))),v1.2.2.2.2.2.1,v1.2.2.2.2.2.2.1,w64 (v1.2.2.2.2.2.2.2+1)))
 else
  zem (tablet_own_J1 x (v1.1,v1.2.1,v1.2.2.1,v1.2.2.2.1,v1.2.2.2.2.1))
def tablet_own_L1 (x:List UInt8×Int) (v0:List (List UInt8)×Int×Int×Tablet×List (List UInt8)×List (List UInt8)×Int×Int):Option (List UInt8×Int×List (List UInt8)×Int×Int):=
 zbc (fun y=>tablet_own_B1 x y) v0
def tablet_own (t0:Tablet):Option (List UInt8×Int×List (List UInt8)×Int×Int):=
 ob (disk_Copy t0.Log) fun x=>
 zaq (0≤(0:Int)∧0≤(t0.Files.length:Int)∧(t0.Files.length:Int)*24≤140737488351232) <|
 tablet_own_L1 x (t0.Files,t0.Done,t0.Since,(⟨(⟨([]:List UInt8),0⟩:Disk),([]:List (List UInt8)),0,0⟩:Tablet),(List.replicate (0:Int).toNat (([]:List UInt8):List UInt8)),t0.Files,(t0.Files.length:Int),0)
theorem tablet_own_ok {t0 r} (hF:tablet_own t0=some r):Pe Tryz.prog 106 (.w []) [.agg (zae t0)] (.agg [.row 8 0,.i r.2.1,.row 13 0,.i r.2.2.2.1,.i r.2.2.2.2]) ⟨[],[],[(8,.o 5 1 0 (r.1.map zan)),(13,.o 22 1 0 (r.2.2.1.map zag))],[],[]⟩:=by
 refine PT 30 [.cell 2 27] [27] Tryz.func106 ?_
 intro Q g hfin
 unfold tablet_own at hF
 refine LR0 ?_
 obtain ⟨x,h0,hF⟩:=oE hF
 have p1:=(Pe.ren (disk_Copy_ok h0) ⟨[],[(5,8)],[],[]⟩)
 refine RJ (.e [] [] p1 .z) ?_
 obtain ⟨h2,hF⟩:=aE hF
 refine RJ (.l zag t0.Files (.a (.xs ((List.replicate (0:Int).toNat (([]:List UInt8):List UInt8)).map zag)) (.g (mk_ok h2) (.g (rep_ok zag 0 (([]:List UInt8):List UInt8)) .z)))) ?_
 refine VR [.nat (t0.Files.length:Int)] [1,2,3,15,16,17] [1,2] [8,13] [] [(1,.ptr 1 0),(2,.ptr 2 0),(3,.row 13 0),(15,.sl 1 (t0.Files.map zag)),(16,.i (t0.Files.length:Int)),(17,.i 0)] [(1,[.row 8 0,.i x.2,.sl 1 (t0.Files.map zag),.i t0.Done,.i t0.Since]),(2,[.nils,.i 0,.nils,.i 0,.i 0])] [(8,.o 5 1 0 (x.1.map zan)),(13,.o 22 1 0 ((List.replicate (0:Int).toNat (([]:List UInt8):List UInt8)).map zag))] [] (hc (zdv zag t0.Files) .nil) ?_
 refine NmS (fun v=>tablet_own_J1 x v=some r) (fun Z v=>Z.up [1,2,3] [1,2] [8,13] [] [] [(1,[.row 8 0,.i x.2,.sl 1 (v.1.map zag),.i v.2.1,.i v.2.2.1]),(2,(zae v.2.2.2.1))] [(13,.o 22 1 0 (v.2.2.2.2.map zag))] []) ?_ ?_
 ·refine zcb ?_
  unfold tablet_own_L1 at hF
  refine Wk_coeB 2 [.sl 1 (([]:List UInt8).map zan),.i 0,.sl 1 (([]:List (List UInt8)).map zag),.i 0,.i 0] rfl (.cons (CoeS.nils 1) (.cons (CoeS.refl _) (.cons (CoeS.nils 1) (.cons (CoeS.refl _) (.cons (CoeS.refl _) .nil))))) ?_
  refine Nitr hF [] (fun v1=>⟨[(1,.ptr 1 0),(2,.ptr 2 0),(3,.row 13 0),(15,.sl 1 (v1.2.2.2.2.2.1.map zag)),(16,.i v1.2.2.2.2.2.2.1),(17,.i v1.2.2.2.2.2.2.2)],[(1,[.row 8 0,.i x.2,.sl 1 (v1.1.map zag),.i v1.2.1,.i v1.2.2.1]),(2,(zae v1.2.2.2.1))],[(8,.o 5 1 0 (x.1.map zan)),(13,.o 22 1 0 (v1.2.2.2.2.1.map zag))],[],[]⟩) ?_
  intro n1 v1 y1 hF ih1 dn1
  unfold tablet_own_B1 at hF
  refine LR0 ?_
  refine Nif hF ?_ ?_ <;> intro hb hF
  ·refine zcb ?_
   obtain ⟨h3,hF⟩:=aE hF
   refine RJ (.i zag h3 .z) ?_
   obtain ⟨x1,h4,hF⟩:=oE hF
   have p5:=(Pe.ren (zdq h4) ⟨[],[(5,23)],[],[]⟩)
   obtain ⟨h6,hF⟩:=aE hF
   refine RJ (.e [] [] p5 (.a (.sealed) (.p zag h6 .z))) ?_
   refine LR0 ?_
   exact Nrnq [(13,⟨0,true,true,false⟩)] hF ih1
  ·refine zbv rfl ?_
   have hF:=zaj hF dn1
   exact ze6 (v1.1,v1.2.1,v1.2.2.1,v1.2.2.2.1,v1.2.2.2.2.1) [] hF
 ·intro v hF
  unfold tablet_own_J1 at hF
  refine LR0 ?_
  refine LR0 ?_
  cases hF
  exact Wz [] hfin

/- tablet.with -/
def tablet_with (t0:Tablet) (box:List Cell) (box1:Tablet) (box2:Int):Option (List UInt8×Int×List (List UInt8)×Int×Int×Fault×Tablet×Int):=
 ob (tablet_load t0) fun x=>
 sm x (fun (x:Fault)=>
  if (!decide (x.Code=0))=true then
   some (([]:List UInt8),0,([]:List (List UInt8)),0,0,x,box1,box2)
  else
   none) (fun (x:List UInt8×Int×List (List UInt8)×Int×Int×List Note×Int×List Cell×List (List Cell)×Fault)=>
  if (!decide (x.2.2.2.2.2.2.2.2.2.Code=0))=true then
   some (([]:List UInt8),0,([]:List (List UInt8)),0,0,x.2.2.2.2.2.2.2.2.2,box1,box2)
  else
   ob (tablet_Put_1 x.1 x.2.1 x.2.2.1 x.2.2.2.1 x.2.2.2.2.1 x.2.2.2.2.2.2.1 box box1 box2 x.2.2.2.2.2.1 x.2.2.2.2.2.2.2.1 x.2.2.2.2.2.2.2.2.1) fun x1=>
   if (!decide (x1.1.Code=0))=true then
    some (([]:List UInt8),0,([]:List (List UInt8)),0,0,x1.1,x1.2.2.2.2.2.2.2.2.2.1,x1.2.2.2.2.2.2.2.2.2.2)
   else
    ob (tablet_own (⟨(⟨x1.2.1,x1.2.2.1⟩:Disk),x1.2.2.2.1,x1.2.2.2.2.1,x1.2.2.2.2.2.1⟩:Tablet)) fun x2=>
    some (x2.1,x2.2.1,x2.2.2.1,x2.2.2.2.1,x2.2.2.2.2,x1.1,x1.2.2.2.2.2.2.2.2.2.1,x1.2.2.2.2.2.2.2.2.2.2))
theorem tablet_with_ok {t0 box box1 box2 r} (hF:tablet_with t0 box box1 box2=some r):Pe Tryz.prog 62 ⟨[],[(100000,[.sl 5 (box.map zac)]),(100001,(zae box1)),(100002,[.i box2])],[],[],[]⟩ [.agg (zae t0),.fn 63 [.ptr 100000 0,.ptr 100001 0,.ptr 100002 0]] (.tup [.agg [.row 30 0,.i r.2.1,.row 20030 0,.i r.2.2.2.1,.i r.2.2.2.2.1],.agg (zad r.2.2.2.2.2.1)]) ⟨[],[(100000,[.sl 5 (box.map zac)]),(100001,(zae r.2.2.2.2.2.2.1)),(100002,[.i r.2.2.2.2.2.2.2])],[(30,.o 5 1 0 (r.1.map zan)),(20030,.o 22 1 0 (r.2.2.1.map zag))],[],[]⟩:=by
 refine PT 32 [.cell 4 27,.cell 5 35] [27,35] Tryz.func62 ?_
 intro Q g hfin
 unfold tablet_with at hF
 refine LR0 ?_
 obtain ⟨x,h0,hF⟩:=oE hF
 rcases x with x | x
 ·have hF:=sm_l hF
  refine RJ (.b (tablet_load_okl h0) .z) ?_
  refine LR0 ?_
  refine Nif hF ?_ ?_ <;> intro hb hF
  ·refine VD [] [4,5] [4,5,100000,100001,100002] [] [] [(4,.ptr 4 0),(5,.ptr 5 0)] [(4,[.nils,.i 0,.nils,.i 0,.i 0]),(5,(zad x)),(100000,[.sl 5 (box.map zac)]),(100001,(zae box1)),(100002,[.i box2])] [] [] .nil ?_
   cases hF
   refine zar 4 0 60000 5 1 rfl rfl rfl rfl rfl ?_
   refine zar 4 2 60001 22 1 rfl rfl rfl rfl rfl ?_
   refine zat ⟨[],[(60000,30),(60001,20030)],[],[]⟩ rfl ?_
   exact Wz [(30,⟨0,true,false,false⟩),(20030,⟨0,true,false,false⟩)] hfin
  ·cases hF
 ·have hF:=sm_r hF
  have p1:=(Pe.ren (tablet_load_okr h0) ⟨[(49,10)],[(54,10),(143,20010),(149,40010)],[],[]⟩)
  refine RJ (.e [] [] p1 .z) ?_
  refine LR0 ?_
  refine Nif hF ?_ ?_ <;> intro hb hF
  ·refine VD [] [4,5] [4,5,100000,100001,100002] [] [] [(4,.ptr 4 0),(5,.ptr 5 0)] [(4,[.nils,.i 0,.nils,.i 0,.i 0]),(5,(zad x.2.2.2.2.2.2.2.2.2)),(100000,[.sl 5 (box.map zac)]),(100001,(zae box1)),(100002,[.i box2])] [] [] .nil ?_
   cases hF
   refine zar 4 0 60002 5 1 rfl rfl rfl rfl rfl ?_
   refine zar 4 2 60003 22 1 rfl rfl rfl rfl rfl ?_
   refine zat ⟨[],[(60002,30),(60003,20030)],[],[]⟩ rfl ?_
   exact Wz [(30,⟨0,true,false,false⟩),(20030,⟨0,true,false,false⟩)] hfin
  ·obtain ⟨x1,h2,hF⟩:=oE hF
   have p3:=(Pe.ren (tablet_Put_1_ok ((x.2.2.2.2.2.1.map zak).length) 0 true ((x.2.2.2.2.2.2.2.1.map zac).length) 0 false 0 0 true h2) ⟨[(100000,10),(100001,100000),(100002,100001),(100003,100002)],[(100000,10),(100001,40010),(100002,20010)],[],[]⟩)
   refine RJ (.e [10,100000,100001,100002] [10,40010,20010] p3 .z) ?_
   refine LR0 ?_
   refine Nif hF ?_ ?_ <;> intro hb hF
   ·refine VD [] [4,5] [4,5,100000,100001,100002] [] [] [(4,.ptr 4 0),(5,.ptr 5 0)] [(4,[.nils,.i 0,.nils,.i 0,.i 0]),(5,(zad x1.1)),(100000,[.sl 5 (box.map zac)]),(100001,(zae x1.2.2.2.2.2.2.2.2.2.1)),(100002,[.i x1.2.2.2.2.2.2.2.2.2.2])] [] [] .nil ?_
    cases hF
    refine zar 4 0 60004 5 1 rfl rfl rfl rfl rfl ?_
    refine zar 4 2 60005 22 1 rfl rfl rfl rfl rfl ?_
    refine zat ⟨[],[(60004,30),(60005,20030)],[],[]⟩ rfl ?_
    exact Wz [(30,⟨0,true,false,false⟩),(20030,⟨0,true,false,false⟩)] hfin
   ·obtain ⟨x2,h4,hF⟩:=oE hF
    have p5:=(Pe.ren (tablet_own_ok h4) ⟨[],[(8,30),(13,20030)],[],[]⟩)
    refine DJ (.e [] [] p5 .z) ?_
    cases hF
    exact Wz [] hfin

/- tablet.Put -/
/- tablet.Put -/
def tablet_Put_v1 (t0:Tablet) (l:List Cell):Option (Tablet×Int×Fault):=
 ob (tablet_with t0 l t0 0) fun x=>
 if (!decide (x.2.2.2.2.2.1.Code=0))=true then
  some ((⟨(⟨x.1,x.2.1⟩:Disk),x.2.2.1,x.2.2.2.1,x.2.2.2.2.1⟩:Tablet),0,x.2.2.2.2.2.1)
 else
  some ((⟨(⟨x.1,x.2.1⟩:Disk),x.2.2.1,x.2.2.2.1,x.2.2.2.2.1⟩:Tablet),x.2.2.2.2.2.2.2,x.2.2.2.2.2.1)
theorem tablet_Put_v1_ok {t0 l r} (hF:tablet_Put_v1 t0 l=some r):Pe Tryz.prog 13 S.none [.agg (zae t0),.sl 5 (l.map zac)] (.tup [.agg (zae r.1),.i r.2.1,.agg (zad r.2.2)]) S.none:=by
 refine PT 24 [.cell 4 27,.tmp 5,.cell 6 35] [27,3,35] Tryz.func13 ?_
 intro Q g hfin
 unfold tablet_Put_v1 at hF
 refine LR0 ?_
 refine LR0 ?_
 obtain ⟨x,h0,hF⟩:=oE hF
 have p1:=(Pe.ren (tablet_with_ok h0) ⟨[(100000,3),(100001,2),(100002,7)],[(30,13),(20030,20013)],[],[]⟩)
 refine RJ (.e [3,2,7] [] p1 .z) ?_
 refine LR0 ?_
 refine Nif hF ?_ ?_ <;> intro hb hF
 ·refine LD0 ?_
  cases hF
  exact Wz [] hfin
 ·refine LD0 ?_
  cases hF
  exact Wz [] hfin

/- tablet.sized -/
def tablet_sized (size:Int):Fault:=
 if ((decide (size<50))||(decide (4000<size)))=true then
  lt (zc2 3 (-1)) fun x=>
  x
 else
  (⟨0,0⟩:Fault)
theorem tablet_sized_ok {size r} (hF:tablet_sized size=r):Pe Tryz.prog 74 S.none [.i size] (.agg (zad r)) S.none:=by
 refine PT 11 [.cell 2 35] [35] Tryz.func74 ?_
 intro Q g hfin
 unfold tablet_sized at hF
 refine LR0 ?_
 refine LR0 ?_
 refine Nif hF ?_ ?_ <;> intro hb hF
 ·obtain ⟨x,h0,hF⟩:=lS hF
  refine RJ (.b (za9 h0) .z) ?_
  cases hF
  exact Wz [] hfin
 ·refine LR0 ?_
  cases hF
  exact Wz [] hfin

/- tablet.Flush$1 -/
def tablet_Flush_1 (box:Int) (box1:Tablet):Option Fault:=
 lt (tablet_sized box) fun x=>
 if (!decide (x.Code=0))=true then
  some x
 else
  none
theorem tablet_Flush_1_ok {box box1 r} (hF:tablet_Flush_1 box box1=some r):Pe Tryz.prog 73 ⟨[],[(100000,[.i box]),(100001,(zae box1))],[],[],[]⟩ [.nilp,.ptr 100000 0,.ptr 100001 0] (.agg (zad r)) ⟨[],[(100000,[.i box]),(100001,(zae box1))],[],[],[]⟩:=by
 refine PT 54 [.cell 4 35] [35] Tryz.func73 ?_
 intro Q g hfin
 unfold tablet_Flush_1 at hF
 refine LR0 ?_
 obtain ⟨x,h0,hF⟩:=lS hF
 refine RJ (.b (tablet_sized_ok h0) .z) ?_
 refine LR0 ?_
 refine Nif hF ?_ ?_ <;> intro hb hF
 ·refine LR0 ?_
  cases hF
  exact Wz [] hfin
 ·cases hF

/- file.blocks -/
def file_blocks_J1 (v:List (List UInt8)×List (List UInt8)):Option (List (List UInt8)×List (List UInt8)):=
 some (v.1,v.2)
def file_blocks_B1 (l:List Cell) (size:Int) (v1:List (List UInt8)×List (List UInt8)×List UInt8×Int):Option ((List (List UInt8)×List (List UInt8)×List UInt8×Int)⊕(List (List UInt8)×List (List UInt8))):=
 if (decide (v1.2.2.2<(l.length:Int)))=true then
  zaq (0≤v1.2.2.2∧v1.2.2.2<(l.length:Int)) <|
  ob (
   if (decide (v1.2.2.1.length=0))=true then
    zaq (((v1.2.1++([(zaf l v1.2.2.2).Row]:List (List UInt8))).length:Int)*16≤140737488351232) <|
    some ((v1.2.1++([(zaf l v1.2.2.2).Row]:List (List UInt8))),(⟨(zaf l v1.2.2.2).Row,(zaf l v1.2.2.2).Col,(zaf l v1.2.2.2).Time,(zaf l v1.2.2.2).Gone,(zaf l v1.2.2.2).Value⟩:Cell))
   else
    some (v1.2.1,(⟨(zaf l v1.2.2.2).Row,(zaf l v1.2.2.2).Col,(zaf l v1.2.2.2).Time,(zaf l v1.2.2.2).Gone,(zaf l v1.2.2.2).Value⟩:Cell))) fun v2=>
  ob (cell_Add_v1 v2.2 v1.2.2.1) fun x=>
  ob (
   if ((decide (size≤(x.length:Int)))||(decide (v1.2.2.2=(w64 ((l.length:Int) - 1)))))=true then
    zaq (((v1.1++([x]:List (List UInt8))).length:Int)*24≤140737488351232) <|
    some ((v1.1++([x]:List (List UInt8))),([]:List UInt8))
   else
    some (v1.1,x)) fun v3=>
  some (Sum.inl (v3.1,v2.1,v3.2,w64 (v1.2.2.2+1)))
 else
  zem (file_blocks_J1 (v1.1,v1.2.1))
def file_blocks_L1 (l:List Cell) (size:Int) (v0:List (List UInt8)×List (List UInt8)×List UInt8×Int):Option (List (List UInt8)×List (List UInt8)):=
 zbc (fun y=>file_blocks_B1 l size y) v0
def file_blocks (l:List Cell) (size:Int):Option (List (List UInt8)×List (List UInt8)):=
 file_blocks_L1 l size (([]:List (List UInt8)),([]:List (List UInt8)),([]:List UInt8),0)
theorem file_blocks_ok {l size r} (hF:file_blocks l size=some r):Pe Tryz.prog 121 (.w []) [.sl 5 (l.map zac),.i size] (.tup [.row 40 0,.row 22 0]) ⟨[],[],[(22,.z 9 1 0 (r.2.map zej)),(40,.z 22 1 0 (r.1.map zag))],[],[]⟩:=by
 refine PT 44 [.tmp 4,.tmp 5] [25,86] Tryz.func121 ?_
 intro Q g hfin
 unfold file_blocks at hF
 refine LR0 ?_
 refine LR0 ?_
 refine NR [.nat (l.length:Int)] [0,1,4,5,6,9,10,11] [] [] [(0,.sl 5 (l.map zac)),(1,.i size),(4,.nils),(5,.nils),(6,.nils),(9,.sl 5 (l.map zac)),(10,.i (l.length:Int)),(11,.i 0)] (hc (zdv zac l) .nil) ?_
 refine NmQ (fun v=>file_blocks_J1 v=some r) (fun v=>⟨[(4,.row 40 0),(5,.row 22 0)],[],[(22,.z 9 1 0 (v.2.map zej)),(40,.z 22 1 0 (v.1.map zag))],[],[]⟩) ?_ ?_
 ·refine zcb ?_
  unfold file_blocks_L1 at hF
  refine zap 4 60000 22 1 rfl rfl rfl ?_
  refine zap 5 60001 9 1 rfl rfl rfl ?_
  refine zap 6 60002 5 1 rfl rfl rfl ?_
  refine zci (fs:=[0,1,4,5,6,9,10,11]) (bs:=[]) (rs:=[60000,60001,60002]) (ms:=[]) (aa:=[]) (nv:=[]) rfl ?_
  refine zat ⟨[],[(60000,40),(60001,22),(60002,25)],[],[]⟩ rfl ?_
  refine Nitr hF [] (fun v1=>⟨[(0,.sl 5 (l.map zac)),(1,.i size),(4,.row 40 0),(5,.row 22 0),(6,.row 25 0),(9,.sl 5 (l.map zac)),(10,.i (l.length:Int)),(11,.i v1.2.2.2)],[],[(22,.z 9 1 0 (v1.2.1.map zej)),(25,.z 5 1 0 (v1.2.2.1.map zan)),(40,.z 22 1 0 (v1.1.map zag))],[],[]⟩) ?_
  intro n1 v1 y1 hF ih1 dn1
  unfold file_blocks_B1 at hF
  refine LR0 ?_
  refine Nif hF ?_ ?_ <;> intro hb hF
  ·refine zcb ?_
   obtain ⟨h0,hF⟩:=aE hF
   refine RJ (.i zac h0 .z) ?_
   refine RJ (.a (.bo (decide (v1.2.2.1.length=0))) (.g (nil_ok zan v1.2.2.1) .z)) ?_
   obtain ⟨v2,hv,hF⟩:=oE hF
   refine NmT (fun Z=>Z.up [0,1,4,5,6,7,8,9,10,11] [8] [22,25,40] [] [] [(8,(c_Cell v2.2))] [(22,.z 9 1 0 (v2.1.map zej))] []) ?_ ?_
   ·have hF:=hv
    refine Nif hF ?_ ?_ <;> intro hb hF
    ·obtain ⟨h1,hF⟩:=aE hF
     refine RJ (.a (.sealed) (.p zej h1 .z)) ?_
     cases hF
     exact met' [(22,⟨0,true,true,false⟩)]
    ·cases hF
     exact met' []
   ·obtain ⟨x,h2,hF⟩:=oE hF
    have p3:=(Pe.ren (cell_Add_v1_ok 0 0 true h2) ⟨[],[(100000,25)],[],[]⟩)
    refine RJ (.e [] [25] p3 .z) ?_
    refine RJ (.l zan x (.a (.nat (l.length:Int)) (.g (fun (_:(!(decide (size≤(x.length:Int))))=true)=>(zdv zac l)) .z))) ?_
    obtain ⟨v3,hv,hF⟩:=oE hF
    refine NmT (fun Z=>Z.up [0,1,4,5,6,9,10,11] [] [22,25,40] [] [(6,.row 25 0)] [] [(25,.z 5 1 0 (v3.2.map zan)),(40,.z 22 1 0 (v3.1.map zag))] []) ?_ ?_
    ·have hF:=hv
     refine Nif hF ?_ ?_ <;> intro hb hF
     ·obtain ⟨h4,hF⟩:=aE hF
      refine VR [.sealed,.xs ((v1.1++([x]:List (List UInt8))).map zag)] [0,1,4,5,6,9,10,11] [] [22,40] [] [(0,.sl 5 (l.map zac)),(1,.i size),(4,.row 40 1),(5,.row 22 0),(6,.nils),(9,.sl 5 (l.map zac)),(10,.i (l.length:Int)),(11,.i v1.2.2.2)] [] [(22,.z 9 1 0 (v2.1.map zej)),(40,.z 22 1 1 ((v1.1++([x]:List (List UInt8))).map zag))] [] (hc (app_ok zag v1.1 ([x]:List (List UInt8))) (hc (appl_ok zag h4) .nil)) ?_
      refine zap 6 60003 5 1 rfl rfl rfl ?_
      refine zci (fs:=[0,1,4,5,6,9,10,11]) (bs:=[]) (rs:=[22,40,60003]) (ms:=[]) (aa:=[]) (nv:=[]) rfl ?_
      refine zat ⟨[],[(60003,25)],[],[]⟩ rfl ?_
      cases hF
      exact met' [(40,⟨0,true,true,false⟩)]
     ·cases hF
      exact met' [(25,⟨0,true,true,false⟩)]
    ·refine LR0 ?_
     exact Nrnq [] hF ih1
  ·refine zbv rfl ?_
   have hF:=zaj hF dn1
   exact ze6 (v1.1,v1.2.1) [] hF
 ·intro v hF
  unfold file_blocks_J1 at hF
  refine LR0 ?_
  cases hF
  exact Wz [] hfin

/- wire.AddFrame -/
def wire_AddFrame_v2 (body row:List UInt8):Option (List UInt8):=
 zaq (((row++([zd1 (Int.fdiv (body.length:Int) (2 ^ (min (8:Int).toNat 64))),zd1 (body.length:Int)]:List UInt8)).length:Int)*1≤140737488351232) <|
 lt ((row++([zd1 (Int.fdiv (body.length:Int) (2 ^ (min (8:Int).toNat 64))),zd1 (body.length:Int)]:List UInt8))) fun v=>
 zaq (((v++body).length:Int)*1≤140737488351232) <|
 zaq (0≤(row.length:Int)∧(row.length:Int)≤((v++body).length:Int)) <|
 ob (wire_Crc (zdu (v++body) (row.length:Int))) fun x=>
 zaq ((((v++body)++([zd1 (Int.fdiv x (2 ^ (min (24:Int).toNat 32))),zd1 (Int.fdiv x (2 ^ (min (16:Int).toNat 32))),zd1 (Int.fdiv x (2 ^ (min (8:Int).toNat 32))),zd1 x]:List UInt8)).length:Int)*1≤140737488351232) <|
 lt (((v++body)++([zd1 (Int.fdiv x (2 ^ (min (24:Int).toNat 32))),zd1 (Int.fdiv x (2 ^ (min (16:Int).toNat 32))),zd1 (Int.fdiv x (2 ^ (min (8:Int).toNat 32))),zd1 x]:List UInt8))) fun v1=>
 some v1
theorem wire_AddFrame_v2_ok (rk rc:Nat) (rn:Bool) {body row r} (hF:wire_AddFrame_v2 body row=some r):Pe Tryz.prog 112 (.w [(100000,.q 5 1 0 rk rc rn (row.map zan))]) [.row 100000 0,.sl 1 (body.map zan)] (.row 100000 3) ⟨[],[],[(100000,⟨5,1,3,(r.map zan).length,rc,rn,0,[],(r.map zan)⟩)],[],[]⟩:=by
 refine PT 40 [.tmp 4] [22] Tryz.func112 ?_
 intro Q g hfin
 unfold wire_AddFrame_v2 at hF
 refine LR0 ?_
 refine RJ (.l zan row .z) ?_
 obtain ⟨h0,hF⟩:=aE hF
 obtain ⟨v,hv,hF⟩:=lS hF
 refine RJ (.l zan body (.g (by decide:(0:Int)≤8) (.l zan body (.a (.sealed) (.pN zan hv h0 .z))))) ?_
 obtain ⟨h1,hF⟩:=aE hF
 refine RJ (.p zan h1 .z) ?_
 obtain ⟨h2,hF⟩:=aE hF
 obtain ⟨x,h3,hF⟩:=oE hF
 refine RJ (.s10 zan h2 (.b (wire_Crc_ok h3) .z)) ?_
 obtain ⟨h4,hF⟩:=aE hF
 obtain ⟨v1,hv,hF⟩:=lS hF
 refine RJ (.g (by decide:(0:Int)≤24) (.g (by decide:(0:Int)≤16) (.g (by decide:(0:Int)≤8) (.a (.sealed) (.pN zan hv h4 .z))))) ?_
 cases hF
 exact Wz [(100000,⟨3,true,true,true⟩)] hfin

/- file.Make -/
def file_Make_J2 (v1:Fault×List UInt8):Option (List UInt8×Fault):=
 some (v1.2,(⟨0,0⟩:Fault))
def file_Make_B1 (x3:List (List UInt8)×List (List UInt8)) (v:Fault×List UInt8) (x4:List UInt8) (v2:Fault×List UInt8×Int):Option ((Fault×List UInt8×Int)⊕(List UInt8×Fault)):=
 lt (decide (v2.2.2<((x3.1++([v.2,x4]:List (List UInt8))).length:Int))) fun v3=>
 if v3=true then
  zaq (0≤v2.2.2∧v2.2.2<((x3.1++([v.2,x4]:List (List UInt8))).length:Int)) <|
  zaq (0≤v2.2.2∧v2.2.2<((x3.1++([v.2,x4]:List (List UInt8))).length:Int)) <|
  if (decide (60000<(w64 ((w64 ((v2.2.1.length:Int)+((zaf (x3.1++([v.2,x4]:List (List UInt8))) v2.2.2).length:Int)))+6))))=true then
   lt (file_fault 9 0) fun x5=>
   some (Sum.inr (([]:List UInt8),x5))
  else
   ob (wire_AddFrame_v2 (zaf (x3.1++([v.2,x4]:List (List UInt8))) v2.2.2) v2.2.1) fun x6=>
   some (Sum.inl (v2.1,x6,w64 (v2.2.2+1)))
 else
  zem (file_Make_J2 (v2.1,v2.2.1))
def file_Make_L1 (x3:List (List UInt8)×List (List UInt8)) (v:Fault×List UInt8) (x4:List UInt8) (v0:Fault×List UInt8×Int):Option (List UInt8×Fault):=
 zbc (fun y=>file_Make_B1 x3 v x4 y) v0
def file_Make_J1 (l:List Cell) (x3:List (List UInt8)×List (List UInt8)) (v:Fault×List UInt8):Option (List UInt8×Fault):=
 ob (file_filter l) fun x4=>
 zaq (((x3.1++([v.2,x4]:List (List UInt8))).length:Int)*24≤140737488351232) <|
 file_Make_L1 x3 v x4 (v.1,([]:List UInt8),0)
def file_Make_B2 (l:List Cell) (x3:List (List UInt8)×List (List UInt8)) (v4:Fault×List UInt8×Int):Option ((Fault×List UInt8×Int)⊕(List UInt8×Fault)):=
 if (decide (v4.2.2<(x3.1.length:Int)))=true then
  zaq (0≤v4.2.2∧v4.2.2<(x3.1.length:Int)) <|
  zaq (0≤v4.2.2∧v4.2.2<(x3.1.length:Int)) <|
  zaq (0≤v4.2.2∧v4.2.2<(x3.2.length:Int)) <|
  zaq (0≤v4.2.2∧v4.2.2<(x3.2.length:Int)) <|
  ob (zei (zaf x3.2 v4.2.2) v4.2.1) fun x7=>
  ob (ze2 ((zaf x3.1 v4.2.2).length:Int) x7) fun x8=>
  some (Sum.inl (v4.1,x8,w64 (v4.2.2+1)))
 else
  zem (file_Make_J1 l x3 (v4.1,v4.2.1))
def file_Make_L2 (l:List Cell) (x3:List (List UInt8)×List (List UInt8)) (v0:Fault×List UInt8×Int):Option (List UInt8×Fault):=
 zbc (fun y=>file_Make_B2 l x3 y) v0
def file_Make (l:List Cell) (size:Int):Option (List UInt8×Fault):=
 ob (cell_Check l) fun x=>
 if (!decide (x.Code=0))=true then
  some (([]:List UInt8),x)
 else
  if (decide (500<(l.length:Int)))=true then
   lt (file_fault 2 (-1)) fun x1=>
   some (([]:List UInt8),x1)
  else
   if ((decide (size<50))||(decide (4000<size)))=true then
    lt (file_fault 3 (-1)) fun x2=>
    some (([]:List UInt8),x2)
   else
    ob (file_blocks l size) fun x3=>
    file_Make_L2 l x3 ((⟨0,0⟩:Fault),([]:List UInt8),0)
theorem file_Make_ok {l size r} (hF:file_Make l size=some r):Pe Tryz.prog 75 (.w []) [.sl 5 (l.map zac),.i size] (.tup [.row 76 0,.agg (zad r.2)]) ⟨[],[],[(76,⟨5,1,0,(r.1.map zan).length,0,true,0,[],(r.1.map zan)⟩)],[],[]⟩:=by
 refine PT 80 [.tmp 4,.cell 5 35] [22,35] Tryz.func75 ?_
 intro Q g hfin
 unfold file_Make at hF
 refine LR0 ?_
 obtain ⟨x,h0,hF⟩:=oE hF
 refine RJ (.b (cell_Check_ok h0) .z) ?_
 refine LR0 ?_
 refine Nif hF ?_ ?_ <;> intro hb hF
 ·refine VD [] [4,5] [5] [] [] [(4,.nils),(5,.ptr 5 0)] [(5,(zad x))] [] [] .nil ?_
  cases hF
  refine zap 4 60000 5 1 rfl rfl rfl ?_
  refine zat ⟨[],[(60000,76)],[],[]⟩ rfl ?_
  exact Wz [(76,⟨0,true,true,true⟩)] hfin
 ·refine RJ (.l zac l .z) ?_
  refine Nif hF ?_ ?_ <;> intro hb hF
  ·obtain ⟨x1,h1,hF⟩:=lS hF
   refine VR [.callB (.agg (zad x1))] [4,5] [5] [] [] [(4,.nils),(5,.ptr 5 0)] [(5,(zad x1))] [] [] (hc (zey h1) .nil) ?_
   cases hF
   refine zap 4 60001 5 1 rfl rfl rfl ?_
   refine zat ⟨[],[(60001,76)],[],[]⟩ rfl ?_
   exact Wz [(76,⟨0,true,true,true⟩)] hfin
  ·refine LR0 ?_
   refine Nif hF ?_ ?_ <;> intro hb hF
   ·obtain ⟨x2,h2,hF⟩:=lS hF
    refine VR [.callB (.agg (zad x2))] [4,5] [5] [] [] [(4,.nils),(5,.ptr 5 0)] [(5,(zad x2))] [] [] (hc (zey h2) .nil) ?_
    cases hF
    refine zap 4 60002 5 1 rfl rfl rfl ?_
    refine zat ⟨[],[(60002,76)],[],[]⟩ rfl ?_
    exact Wz [(76,⟨0,true,true,true⟩)] hfin
   ·obtain ⟨x3,h3,hF⟩:=oE hF
    have p4:=(Pe.ren (file_blocks_ok h3) ⟨[],[(22,35),(40,20035)],[],[]⟩)
    refine RJ (.e [] [] p4 .z) ?_
    refine LR0 ?_
    refine VR [.nat (x3.1.length:Int)] [0,5,7,8,9,38,39,40] [5] [35,20035] [] [(0,.sl 5 (l.map zac)),(5,.ptr 5 0),(7,.row 20035 0),(8,.row 35 0),(9,.nils),(38,.row 20035 0),(39,.i (x3.1.length:Int)),(40,.i 0)] [(5,[.i 0,.i 0])] [(35,.z 9 1 0 (x3.2.map zej)),(20035,.z 22 1 0 (x3.1.map zag))] [] (hc (zdv zag x3.1) .nil) ?_
    refine NmS (fun v=>file_Make_J1 l x3 v=some r) (fun Z v=>Z.up [0,5,7,9] [5] [50,20035] [] [(9,.row 50 0)] [(5,(zad v.1))] [(50,.z 5 1 0 (v.2.map zan))] []) ?_ ?_
    ·refine zcb ?_
     unfold file_Make_L2 at hF
     refine zap 9 60005 5 1 rfl rfl rfl ?_
     refine zci (fs:=[0,5,7,8,9,38,39,40]) (bs:=[5]) (rs:=[35,20035,60005]) (ms:=[]) (aa:=[]) (nv:=[]) rfl ?_
     refine zat ⟨[],[(60005,50)],[],[]⟩ rfl ?_
     refine Nitr hF [] (fun v4=>⟨[(0,.sl 5 (l.map zac)),(5,.ptr 5 0),(7,.row 20035 0),(8,.row 35 0),(9,.row 50 0),(38,.row 20035 0),(39,.i (x3.1.length:Int)),(40,.i v4.2.2)],[(5,(zad v4.1))],[(35,.z 9 1 0 (x3.2.map zej)),(50,.z 5 1 0 (v4.2.1.map zan)),(20035,.z 22 1 0 (x3.1.map zag))],[],[]⟩) ?_
     intro n1 v4 y1 hF ih1 dn1
     unfold file_Make_B2 at hF
     refine LR0 ?_
     refine Nif hF ?_ ?_ <;> intro hb hF
     ·refine zcb ?_
      obtain ⟨h13,h14,hF⟩:=asrt2 hF
      refine RJ (.x zag h13 (.r zag h14 .z)) ?_
      obtain ⟨h15,h16,hF⟩:=asrt2 hF
      obtain ⟨x7,h17,hF⟩:=oE hF
      have p18:=(Pe.ren (wire_AddText_v1_ok 0 0 true h17) ⟨[],[(100000,50)],[],[]⟩)
      obtain ⟨x8,h19,hF⟩:=oE hF
      have p20:=(Pe.ren (wire_AddNum_v2_ok 0 0 true h19) ⟨[],[(100000,50)],[],[(100000,3)]⟩)
      refine RJ (.x zej h15 (.r zej h16 (.e [] [50] p18 (.l zan (zaf x3.1 v4.2.2) (.e [] [50] p20 .z))))) ?_
      refine LR0 ?_
      exact Nrnq [(50,⟨0,true,true,false⟩)] hF ih1
     ·refine zbv rfl ?_
      have hF:=zaj hF dn1
      exact ze6 (v4.1,v4.2.1) [] hF
    ·intro v hF
     unfold file_Make_J1 at hF
     refine LR0 ?_
     obtain ⟨x4,h5,hF⟩:=oE hF
     have p6:=(Pe.ren (file_filter_ok h5) ⟨[],[(36,58)],[],[]⟩)
     obtain ⟨h7,hF⟩:=aE hF
     refine VR [cE [] [] [] [] p6,.sealed,.xs ((x3.1++([v.2,x4]:List (List UInt8))).map zag),.nat ((x3.1++([v.2,x4]:List (List UInt8))).length:Int)] [5,12,60,61,62] [5] [20035] [] [(5,.ptr 5 0),(12,.nils),(60,.row 20035 1),(61,.i ((x3.1++([v.2,x4]:List (List UInt8))).length:Int)),(62,.i 0)] [(5,(zad v.1))] [(20035,.z 22 1 1 ((x3.1++([v.2,x4]:List (List UInt8))).map zag))] [] (hc p6 (hc (app_ok zag x3.1 ([v.2,x4]:List (List UInt8))) (hc (appl_ok zag h7) (hc (zdv zag (x3.1++([v.2,x4]:List (List UInt8)))) .nil)))) ?_
     refine NmQ (fun v1=>file_Make_J2 v1=some r) (fun v1=>⟨[(5,.ptr 5 0),(12,.row 76 0)],[(5,(zad v1.1))],[(76,⟨5,1,0,(v1.2.map zan).length,0,true,0,[],(v1.2.map zan)⟩)],[],[]⟩) ?_ ?_
     ·refine zcb ?_
      unfold file_Make_L1 at hF
      refine zap 12 60003 5 1 rfl rfl rfl ?_
      refine zci (fs:=[5,12,60,61,62]) (bs:=[5]) (rs:=[20035,60003]) (ms:=[]) (aa:=[]) (nv:=[]) rfl ?_
      refine zat ⟨[],[(60003,76)],[],[]⟩ rfl ?_
      refine Nitr hF [(76,⟨0,true,true,true⟩)] (fun v2=>⟨[(5,.ptr 5 0),(12,.row 76 0),(60,.row 20035 1),(61,.i ((x3.1++([v.2,x4]:List (List UInt8))).length:Int)),(62,.i v2.2.2)],[(5,(zad v2.1))],[(76,⟨5,1,0,(v2.2.1.map zan).length,0,true,0,[],(v2.2.1.map zan)⟩),(20035,.z 22 1 1 ((x3.1++([v.2,x4]:List (List UInt8))).map zag))],[],[]⟩) ?_
      intro n1 v2 y1 hF ih1 dn1
      unfold file_Make_B1 at hF
      refine NRL (decide (v2.2.2<((x3.1++([v.2,x4]:List (List UInt8))).length:Int))) (fun v3:Bool=>([(63,.bool v3)],[],[],[])) [] [5,12,60,61,62,63] [5] [76,20035] [] .nil (fun v3 hv=>?_)
      have hF:=zev hF hv
      refine Nif hF ?_ ?_ <;> intro hb hF
      ·refine zcb ?_
       obtain ⟨h8,h9,hF⟩:=asrt2 hF
       refine RJ (.x zag h8 (.r zag h9 .z)) ?_
       refine RJ (.l zan v2.2.1 (.l zan (zaf (x3.1++([v.2,x4]:List (List UInt8))) v2.2.2) .z)) ?_
       refine Nif hF ?_ ?_ <;> intro hb hF
       ·obtain ⟨x5,h10,hF⟩:=lS hF
        refine VR [.callB (.agg (zad x5))] [4,5] [5] [] [] [(4,.nils),(5,.ptr 5 0)] [(5,(zad x5))] [] [] (hc (zey h10) .nil) ?_
        have hF:=zc0 hF dn1
        cases hF
        refine zap 4 60004 5 1 rfl rfl rfl ?_
        refine zat ⟨[],[(60004,76)],[],[]⟩ rfl ?_
        exact Wz [(76,⟨0,true,true,true⟩)] hfin
       ·obtain ⟨x6,h11,hF⟩:=oE hF
        have p12:=(Pe.ren (wire_AddFrame_v2_ok ((v2.2.1.map zan).length) 0 true h11) ⟨[],[(100000,76)],[],[]⟩)
        refine RJ (.e [] [76] p12 .z) ?_
        refine LR0 ?_
        exact Nrnq [(76,⟨0,true,true,true⟩)] hF ih1
      ·refine zbv rfl ?_
       have hF:=zaj hF dn1
       exact ze6 (v2.1,v2.2.1) [] hF
     ·intro v1 hF
      unfold file_Make_J2 at hF
      refine LR0 ?_
      cases hF
      exact Wz [] hfin

/- tablet.Flush$1 -/
def tablet_Flush_1_v1 (box:List UInt8) (box1:Int) (box2:List (List UInt8)) (box3 box4:Int) (box5 box6:Int) (box7:Tablet) (row:List Note) (row1:List Cell) (row2:List (List Cell)):Option (Fault×List UInt8×Int×List (List UInt8)×Int×Int×Int×List Cell):=
 lt (tablet_sized box6) fun x=>
 if (!decide (x.Code=0))=true then
  some (x,box,box1,box2,box3,box4,box5,row1)
 else
  if (decide (box5=box7.Done))=true then
   lt (zc2 6 0) fun x1=>
   some (x1,box,box1,box2,box3,box4,box5,row1)
  else
   if (decide ((box7.Files.length:Int)=10))=true then
    lt (zc2 2 (-2)) fun x2=>
    some (x2,box,box1,box2,box3,box4,box5,row1)
   else
    ob (file_Make row1 box6) fun x3=>
    zaq (((([x3.1]:List (List UInt8))++box7.Files).length:Int)*24≤140737488351232) <|
    some (x3.2,box,box1,(([x3.1]:List (List UInt8))++box7.Files),box5,box4,box5,row1)
theorem tablet_Flush_1_v1_ok (rk rc:Nat) (rn:Bool) (rk1 rc1:Nat) (rn1:Bool) (rk2 rc2:Nat) (rn2:Bool) {box box1 box2 box3 box4 box5 box6 box7 row row1 row2 r} (hF:tablet_Flush_1_v1 box box1 box2 box3 box4 box5 box6 box7 row row1 row2=some r):Pe Tryz.prog 73 ⟨[],[(100000,[.sl 1 (box.map zan),.i box1,.sl 1 (box2.map zag),.i box3,.i box4,.row 100000 0,.i box5,.row 100001 0,.row 100002 0]),(100001,[.i box6]),(100002,(zae box7))],[(100000,.q 50 2 0 rk rc rn (row.map zak)),(100001,.q 53 5 0 rk1 rc1 rn1 (row1.map zac)),(100002,.q 28 1 0 rk2 rc2 rn2 (row2.map zas))],[],[]⟩ [.ptr 100000 0,.ptr 100001 0,.ptr 100002 0] (.agg (zad r.1)) ⟨[],[(100000,[.sl 1 (r.2.1.map zan),.i r.2.2.1,.sl 1 (r.2.2.2.1.map zag),.i r.2.2.2.2.1,.i r.2.2.2.2.2.1,.row 100000 0,.i r.2.2.2.2.2.2.1,.row 100001 0,.row 100002 0]),(100001,[.i box6]),(100002,(zae box7))],[(100000,.q 50 2 0 rk rc rn (row.map zak)),(100001,⟨53,5,0,(r.2.2.2.2.2.2.2.map zac).length,rc1,rn1,0,[],(r.2.2.2.2.2.2.2.map zac)⟩),(100002,.q 28 1 0 rk2 rc2 rn2 (row2.map zas))],[],[]⟩:=by
 refine PT 54 [.cell 4 35] [35] Tryz.func73 ?_
 intro Q g hfin
 unfold tablet_Flush_1_v1 at hF
 refine LR0 ?_
 obtain ⟨x,h0,hF⟩:=lS hF
 refine RJ (.b (tablet_sized_ok h0) .z) ?_
 refine LR0 ?_
 refine Nif hF ?_ ?_ <;> intro hb hF
 ·refine LR0 ?_
  cases hF
  exact Wz [(100001,⟨0,true,true,true⟩)] hfin
 ·refine LD0 ?_
  refine Nif hF ?_ ?_ <;> intro hb hF
  ·obtain ⟨x1,h1,hF⟩:=lS hF
   refine RJ (.b (za9 h1) .z) ?_
   cases hF
   exact Wz [(100001,⟨0,true,true,true⟩)] hfin
  ·refine RJ (.l zag box7.Files .z) ?_
   refine Nif hF ?_ ?_ <;> intro hb hF
   ·obtain ⟨x2,h2,hF⟩:=lS hF
    refine RJ (.b (za9 h2) .z) ?_
    cases hF
    exact Wz [(100001,⟨0,true,true,true⟩)] hfin
   ·obtain ⟨x3,h3,hF⟩:=oE hF
    have p4:=(Pe.ren (file_Make_ok h3) ⟨[],[(76,33)],[],[]⟩)
    refine DJ (.e [] [] p4 .z) ?_
    obtain ⟨h5,hF⟩:=aE hF
    refine DJ (.p zag h5 .z) ?_
    refine VR [] [4] [4,100000,100001,100002] [39,100000,100001,100002] [] [(4,.ptr 4 0)] [(4,(zad x3.2)),(100000,[.sl 1 (box.map zan),.i box1,.row 39 1,.i box5,.i box4,.row 100000 0,.i box5,.row 100001 0,.row 100002 0]),(100001,[.i box6]),(100002,(zae box7))] [(39,.z 22 1 1 ((([x3.1]:List (List UInt8))++box7.Files).map zag)),(100000,.q 50 2 0 rk rc rn (row.map zak)),(100001,⟨53,5,0,(row1.map zac).length,rc1,rn1,0,[],(row1.map zac)⟩),(100002,.q 28 1 0 rk2 rc2 rn2 (row2.map zas))] [] .nil ?_
    cases hF
    refine Wk_sealBX [100000,100001,100002] 100000 rfl rfl ?_
    exact Wz [] hfin

/- tablet.with -/
def tablet_with_v1 (t0:Tablet) (box:Int) (box1:Tablet):Option (List UInt8×Int×List (List UInt8)×Int×Int×Fault):=
 ob (tablet_load t0) fun x=>
 sm x (fun (x:Fault)=>
  if (!decide (x.Code=0))=true then
   some (([]:List UInt8),0,([]:List (List UInt8)),0,0,x)
  else
   ob (tablet_Flush_1 box box1) fun x1=>
   if (!decide (x1.Code=0))=true then
    some (([]:List UInt8),0,([]:List (List UInt8)),0,0,x1)
   else
    none) (fun (x:List UInt8×Int×List (List UInt8)×Int×Int×List Note×Int×List Cell×List (List Cell)×Fault)=>
  if (!decide (x.2.2.2.2.2.2.2.2.2.Code=0))=true then
   some (([]:List UInt8),0,([]:List (List UInt8)),0,0,x.2.2.2.2.2.2.2.2.2)
  else
   ob (tablet_Flush_1_v1 x.1 x.2.1 x.2.2.1 x.2.2.2.1 x.2.2.2.2.1 x.2.2.2.2.2.2.1 box box1 x.2.2.2.2.2.1 x.2.2.2.2.2.2.2.1 x.2.2.2.2.2.2.2.2.1) fun x1=>
   if (!decide (x1.1.Code=0))=true then
    some (([]:List UInt8),0,([]:List (List UInt8)),0,0,x1.1)
   else
    ob (tablet_own (⟨(⟨x1.2.1,x1.2.2.1⟩:Disk),x1.2.2.2.1,x1.2.2.2.2.1,x1.2.2.2.2.2.1⟩:Tablet)) fun x2=>
    some (x2.1,x2.2.1,x2.2.2.1,x2.2.2.2.1,x2.2.2.2.2,x1.1))
theorem tablet_with_v1_ok {t0 box box1 r} (hF:tablet_with_v1 t0 box box1=some r):Pe Tryz.prog 62 ⟨[],[(100000,[.i box]),(100001,(zae box1))],[],[],[]⟩ [.agg (zae t0),.fn 73 [.ptr 100000 0,.ptr 100001 0]] (.tup [.agg [.row 30 0,.i r.2.1,.row 20030 0,.i r.2.2.2.1,.i r.2.2.2.2.1],.agg (zad r.2.2.2.2.2)]) ⟨[],[(100000,[.i box]),(100001,(zae box1))],[(30,.o 5 1 0 (r.1.map zan)),(20030,.o 22 1 0 (r.2.2.1.map zag))],[],[]⟩:=by
 refine PT 32 [.cell 4 27,.cell 5 35] [27,35] Tryz.func62 ?_
 intro Q g hfin
 unfold tablet_with_v1 at hF
 refine LR0 ?_
 obtain ⟨x,h0,hF⟩:=oE hF
 rcases x with x | x
 ·have hF:=sm_l hF
  refine RJ (.b (tablet_load_okl h0) .z) ?_
  refine LR0 ?_
  refine Nif hF ?_ ?_ <;> intro hb hF
  ·refine VD [] [4,5] [4,5,100000,100001] [] [] [(4,.ptr 4 0),(5,.ptr 5 0)] [(4,[.nils,.i 0,.nils,.i 0,.i 0]),(5,(zad x)),(100000,[.i box]),(100001,(zae box1))] [] [] .nil ?_
   cases hF
   refine zar 4 0 60000 5 1 rfl rfl rfl rfl rfl ?_
   refine zar 4 2 60001 22 1 rfl rfl rfl rfl rfl ?_
   refine zat ⟨[],[(60000,30),(60001,20030)],[],[]⟩ rfl ?_
   exact Wz [(30,⟨0,true,false,false⟩),(20030,⟨0,true,false,false⟩)] hfin
  ·obtain ⟨x1,h1,hF⟩:=oE hF
   refine RJ (.q [100000,100001] [] (Pe.ren (tablet_Flush_1_ok h1) ⟨[],[],[],[]⟩) .z) ?_
   refine LR0 ?_
   refine Nif hF ?_ ?_ <;> intro hb hF
   ·refine VD [] [4,5] [4,5,100000,100001] [] [] [(4,.ptr 4 0),(5,.ptr 5 0)] [(4,[.nils,.i 0,.nils,.i 0,.i 0]),(5,(zad x1)),(100000,[.i box]),(100001,(zae box1))] [] [] .nil ?_
    cases hF
    refine zar 4 0 60002 5 1 rfl rfl rfl rfl rfl ?_
    refine zar 4 2 60003 22 1 rfl rfl rfl rfl rfl ?_
    refine zat ⟨[],[(60002,30),(60003,20030)],[],[]⟩ rfl ?_
    exact Wz [(30,⟨0,true,false,false⟩),(20030,⟨0,true,false,false⟩)] hfin
   ·cases hF
 ·have hF:=sm_r hF
  have p1:=(Pe.ren (tablet_load_okr h0) ⟨[(49,10)],[(54,10),(143,20010),(149,40010)],[],[]⟩)
  refine RJ (.e [] [] p1 .z) ?_
  refine LR0 ?_
  refine Nif hF ?_ ?_ <;> intro hb hF
  ·refine VD [] [4,5] [4,5,100000,100001] [] [] [(4,.ptr 4 0),(5,.ptr 5 0)] [(4,[.nils,.i 0,.nils,.i 0,.i 0]),(5,(zad x.2.2.2.2.2.2.2.2.2)),(100000,[.i box]),(100001,(zae box1))] [] [] .nil ?_
   cases hF
   refine zar 4 0 60004 5 1 rfl rfl rfl rfl rfl ?_
   refine zar 4 2 60005 22 1 rfl rfl rfl rfl rfl ?_
   refine zat ⟨[],[(60004,30),(60005,20030)],[],[]⟩ rfl ?_
   exact Wz [(30,⟨0,true,false,false⟩),(20030,⟨0,true,false,false⟩)] hfin
  ·obtain ⟨x1,h2,hF⟩:=oE hF
   have p3:=(Pe.ren (tablet_Flush_1_v1_ok ((x.2.2.2.2.2.1.map zak).length) 0 true ((x.2.2.2.2.2.2.2.1.map zac).length) 0 false 0 0 true h2) ⟨[(100000,10),(100001,100000),(100002,100001)],[(100000,10),(100001,40010),(100002,20010)],[],[]⟩)
   refine RJ (.e [10,100000,100001] [10,40010,20010] p3 .z) ?_
   refine LR0 ?_
   refine Nif hF ?_ ?_ <;> intro hb hF
   ·refine VD [] [4,5] [4,5,100000,100001] [] [] [(4,.ptr 4 0),(5,.ptr 5 0)] [(4,[.nils,.i 0,.nils,.i 0,.i 0]),(5,(zad x1.1)),(100000,[.i box]),(100001,(zae box1))] [] [] .nil ?_
    cases hF
    refine zar 4 0 60006 5 1 rfl rfl rfl rfl rfl ?_
    refine zar 4 2 60007 22 1 rfl rfl rfl rfl rfl ?_
    refine zat ⟨[],[(60006,30),(60007,20030)],[],[]⟩ rfl ?_
    exact Wz [(30,⟨0,true,false,false⟩),(20030,⟨0,true,false,false⟩)] hfin
   ·obtain ⟨x2,h4,hF⟩:=oE hF
    have p5:=(Pe.ren (tablet_own_ok h4) ⟨[],[(8,30),(13,20030)],[],[]⟩)
    refine DJ (.e [] [] p5 .z) ?_
    cases hF
    exact Wz [] hfin

/- tablet.Flush -/
/- tablet.Flush -/
def tablet_Flush_v1 (t0:Tablet) (size:Int):Option (Tablet×Fault):=
 ob (tablet_with_v1 t0 size t0) fun x=>
 some ((⟨(⟨x.1,x.2.1⟩:Disk),x.2.2.1,x.2.2.2.1,x.2.2.2.2.1⟩:Tablet),x.2.2.2.2.2)
theorem tablet_Flush_v1_ok {t0 size r} (hF:tablet_Flush_v1 t0 size=some r):Pe Tryz.prog 16 S.none [.agg (zae t0),.i size] (.tup [.agg (zae r.1),.agg (zad r.2)]) S.none:=by
 refine PT 11 [.cell 4 27,.cell 5 35] [27,35] Tryz.func16 ?_
 intro Q g hfin
 unfold tablet_Flush_v1 at hF
 refine LR0 ?_
 obtain ⟨x,h0,hF⟩:=oE hF
 have p1:=(Pe.ren (tablet_with_v1_ok h0) ⟨[(100000,3),(100001,2)],[(30,8),(20030,20008)],[],[]⟩)
 refine RJ (.e [3,2] [] p1 .z) ?_
 cases hF
 exact Wz [] hfin

/- wal.Frame -/
def wal_Frame_v2 (num:Note) (row:List UInt8):Option (List UInt8):=
 ob (wal_bytes num) fun x=>
 ob (wire_AddFrame_v2 x row) fun x1=>
 some x1
theorem wal_Frame_v2_ok (rk rc:Nat) (rn:Bool) {num row r} (hF:wal_Frame_v2 num row=some r):Pe Tryz.prog 67 (.w [(100000,.q 5 1 0 rk rc rn (row.map zan))]) [.row 100000 0,.agg (c_Note num)] (.row 100000 3) ⟨[],[],[(100000,⟨5,1,3,(r.map zan).length,rc,rn,0,[],(r.map zan)⟩)],[],[]⟩:=by
 refine PT 9 [.tmp 4] [22] Tryz.func67 ?_
 intro Q g hfin
 unfold wal_Frame_v2 at hF
 refine LR0 ?_
 obtain ⟨x,h0,hF⟩:=oE hF
 have p1:=(Pe.ren (wal_bytes_ok h0) ⟨[],[(8,7)],[],[]⟩)
 obtain ⟨x1,h2,hF⟩:=oE hF
 have p3:=(Pe.ren (wire_AddFrame_v2_ok rk rc rn h2) ⟨[],[],[],[]⟩)
 refine RJ (.e [] [] p1 (.e [] [100000] p3 .z)) ?_
 cases hF
 exact Wz [] hfin

/- tablet.Cut$1 -/
def tablet_Cut_1_J1 (box2:List (List UInt8)) (box3 box4 box5:Int) (v:Fault×List UInt8×Tablet):Option (Fault×List UInt8×Int×List (List UInt8)×Int×Int×Int×Tablet):=
 some ((⟨0,0⟩:Fault),v.2.1,(v.2.1.length:Int),box2,box3,box4,box5,v.2.2)
def tablet_Cut_1_B1 (box2:List (List UInt8)) (box3 box4 box5:Int) (row:List Note) (v1:Tablet×Fault×List UInt8×Int):Option ((Tablet×Fault×List UInt8×Int)⊕(Fault×List UInt8×Int×List (List UInt8)×Int×Int×Int×Tablet)):=
 if (decide (v1.2.2.2<(row.length:Int)))=true then
  zaq (0≤v1.2.2.2∧v1.2.2.2<(row.length:Int)) <|
  zaq (0≤v1.2.2.2∧v1.2.2.2<(row.length:Int)) <|
  ob (
   if (decide (v1.1.Done<((zaf row v1.2.2.2).Seq)))=true then
    ob (wal_Frame_v2 (⟨(zaf row v1.2.2.2).Seq,(zaf row v1.2.2.2).Cells⟩:Note) v1.2.2.1) fun x=>
    some (v1.1,v1.2.1,x)
   else
    some (v1.1,v1.2.1,v1.2.2.1)) fun v2=>
  some (Sum.inl (v2.1,v2.2.1,v2.2.2,w64 (v1.2.2.2+1)))
 else
  zem (tablet_Cut_1_J1 box2 box3 box4 box5 (v1.2.1,v1.2.2.1,v1.1))
def tablet_Cut_1_L1 (box2:List (List UInt8)) (box3 box4 box5:Int) (row:List Note) (v0:Tablet×Fault×List UInt8×Int):Option (Fault×List UInt8×Int×List (List UInt8)×Int×Int×Int×Tablet):=
 zbc (fun y=>tablet_Cut_1_B1 box2 box3 box4 box5 row y) v0
def tablet_Cut_1 (box:List UInt8) (box1:Int) (box2:List (List UInt8)) (box3 box4 box5:Int) (box6:Tablet) (row:List Note) (row1:List Cell) (row2:List (List Cell)):Option (Fault×List UInt8×Int×List (List UInt8)×Int×Int×Int×Tablet):=
 tablet_Cut_1_L1 box2 box3 box4 box5 row (box6,(⟨0,0⟩:Fault),([]:List UInt8),0)
theorem tablet_Cut_1_ok (rk rc:Nat) (rn:Bool) (rk1 rc1:Nat) (rn1:Bool) (rk2 rc2:Nat) (rn2:Bool) {box box1 box2 box3 box4 box5 box6 row row1 row2 r} (hF:tablet_Cut_1 box box1 box2 box3 box4 box5 box6 row row1 row2=some r):Pe Tryz.prog 76 ⟨[],[(100000,[.sl 1 (box.map zan),.i box1,.sl 1 (box2.map zag),.i box3,.i box4,.row 100000 0,.i box5,.row 100001 0,.row 100002 0]),(100001,(zae box6))],[(100000,.q 50 2 0 rk rc rn (row.map zak)),(100001,.q 53 5 0 rk1 rc1 rn1 (row1.map zac)),(100002,.q 28 1 0 rk2 rc2 rn2 (row2.map zas))],[],[]⟩ [.ptr 100000 0,.ptr 100001 0] (.agg (zad r.1)) ⟨[],[(100000,[.row 23 0,.i r.2.2.1,.sl 1 (r.2.2.2.1.map zag),.i r.2.2.2.2.1,.i r.2.2.2.2.2.1,.row 100000 0,.i r.2.2.2.2.2.2.1,.row 100001 0,.row 100002 0]),(100001,(zae r.2.2.2.2.2.2.2))],[(100000,.q 50 2 0 rk rc rn (row.map zak)),(100001,.q 53 5 0 rk1 rc1 rn1 (row1.map zac)),(100002,.q 28 1 0 rk2 rc2 rn2 (row2.map zas)),(23,⟨5,1,0,(r.2.1.map zan).length,0,true,0,[],(r.2.1.map zan)⟩)],[],[]⟩:=by
 refine PT 34 [.cell 3 35] [35] Tryz.func76 ?_
 intro Q g hfin
 unfold tablet_Cut_1 at hF
 refine LR0 ?_
 refine LR0 ?_
 refine VR [.nat (row.length:Int)] [0,1,3,4,10,11,12] [3,100000,100001] [100000,100001,100002] [] [(0,.ptr 100000 0),(1,.ptr 100001 0),(3,.ptr 3 0),(4,.nils),(10,.row 100000 0),(11,.i (row.length:Int)),(12,.i 0)] [(3,[.i 0,.i 0]),(100000,[.sl 1 (box.map zan),.i box1,.sl 1 (box2.map zag),.i box3,.i box4,.row 100000 0,.i box5,.row 100001 0,.row 100002 0]),(100001,(zae box6))] [(100000,.q 50 2 0 rk rc rn (row.map zak)),(100001,.q 53 5 0 rk1 rc1 rn1 (row1.map zac)),(100002,.q 28 1 0 rk2 rc2 rn2 (row2.map zas))] [] (hc (zdv zak row) .nil) ?_
 refine NmS (fun v=>tablet_Cut_1_J1 box2 box3 box4 box5 v=some r) (fun Z v=>Z.up [0,3,4] [3,100000,100001] [23,100000,100001,100002] [] [(4,.row 23 0)] [(3,(zad v.1)),(100001,(zae v.2.2))] [(23,⟨5,1,0,(v.2.1.map zan).length,0,true,0,[],(v.2.1.map zan)⟩)] []) ?_ ?_
 ·refine zcb ?_
  unfold tablet_Cut_1_L1 at hF
  refine zap 4 60000 5 1 rfl rfl rfl ?_
  refine zci (fs:=[0,1,3,4,10,11,12]) (bs:=[3,100000,100001]) (rs:=[60000,100000,100001,100002]) (ms:=[]) (aa:=[]) (nv:=[]) rfl ?_
  refine zat ⟨[],[(60000,23)],[],[]⟩ rfl ?_
  refine Nitr hF [(23,⟨0,true,true,true⟩)] (fun v1=>⟨[(0,.ptr 100000 0),(1,.ptr 100001 0),(3,.ptr 3 0),(4,.row 23 0),(10,.row 100000 0),(11,.i (row.length:Int)),(12,.i v1.2.2.2)],[(3,(zad v1.2.1)),(100000,[.sl 1 (box.map zan),.i box1,.sl 1 (box2.map zag),.i box3,.i box4,.row 100000 0,.i box5,.row 100001 0,.row 100002 0]),(100001,(zae v1.1))],[(23,⟨5,1,0,(v1.2.2.1.map zan).length,0,true,0,[],(v1.2.2.1.map zan)⟩),(100000,.q 50 2 0 rk rc rn (row.map zak)),(100001,.q 53 5 0 rk1 rc1 rn1 (row1.map zac)),(100002,.q 28 1 0 rk2 rc2 rn2 (row2.map zas))],[],[]⟩) ?_
  intro n1 v1 y1 hF ih1 dn1
  unfold tablet_Cut_1_B1 at hF
  refine LR0 ?_
  refine Nif hF ?_ ?_ <;> intro hb hF
  ·refine zcb ?_
   obtain ⟨h0,h1,hF⟩:=asrt2 hF
   refine RJ (.x zak h0 (.r zak h1 .z)) ?_
   refine LR0 ?_
   obtain ⟨v2,hv,hF⟩:=oE hF
   refine NmT (fun Z=>Z.up [0,1,3,4,10,11,12] [3,100000,100001] [23,100000,100001,100002] [] [] [(3,(zad v2.2.1)),(100001,(zae v2.1))] [(23,⟨5,1,0,(v2.2.2.map zan).length,0,true,0,[],(v2.2.2.map zan)⟩)] []) ?_ ?_
   ·have hF:=hv
    refine Nif hF ?_ ?_ <;> intro hb hF
    ·obtain ⟨x,h2,hF⟩:=oE hF
     have p3:=(Pe.ren (wal_Frame_v2_ok ((v1.2.2.1.map zan).length) 0 true h2) ⟨[],[(100000,23)],[],[]⟩)
     refine RJ (.e [] [23] p3 .z) ?_
     cases hF
     exact met' [(23,⟨0,true,true,true⟩)]
    ·cases hF
     exact met' []
   ·refine LR0 ?_
    exact Nrnq [] hF ih1
  ·refine zbv rfl ?_
   have hF:=zaj hF dn1
   exact ze6 (v1.2.1,v1.2.2.1,v1.1) [] hF
 ·intro v hF
  unfold tablet_Cut_1_J1 at hF
  refine RJ (.l zan v.2.1 .z) ?_
  refine LR0 ?_
  cases hF
  exact Wz [] hfin

/- tablet.with -/
def tablet_with_v2 (t0 box:Tablet):Option (List UInt8×Int×List (List UInt8)×Int×Int×Fault×Tablet):=
 ob (tablet_load t0) fun x=>
 sm x (fun (x:Fault)=>
  if (!decide (x.Code=0))=true then
   some (([]:List UInt8),0,([]:List (List UInt8)),0,0,x,box)
  else
   none) (fun (x:List UInt8×Int×List (List UInt8)×Int×Int×List Note×Int×List Cell×List (List Cell)×Fault)=>
  if (!decide (x.2.2.2.2.2.2.2.2.2.Code=0))=true then
   some (([]:List UInt8),0,([]:List (List UInt8)),0,0,x.2.2.2.2.2.2.2.2.2,box)
  else
   ob (tablet_Cut_1 x.1 x.2.1 x.2.2.1 x.2.2.2.1 x.2.2.2.2.1 x.2.2.2.2.2.2.1 box x.2.2.2.2.2.1 x.2.2.2.2.2.2.2.1 x.2.2.2.2.2.2.2.2.1) fun x1=>
   if (!decide (x1.1.Code=0))=true then
    some (([]:List UInt8),0,([]:List (List UInt8)),0,0,x1.1,x1.2.2.2.2.2.2.2)
   else
    ob (tablet_own (⟨(⟨x1.2.1,x1.2.2.1⟩:Disk),x1.2.2.2.1,x1.2.2.2.2.1,x1.2.2.2.2.2.1⟩:Tablet)) fun x2=>
    some (x2.1,x2.2.1,x2.2.2.1,x2.2.2.2.1,x2.2.2.2.2,x1.1,x1.2.2.2.2.2.2.2))
theorem tablet_with_v2_ok {t0 box r} (hF:tablet_with_v2 t0 box=some r):Pe Tryz.prog 62 ⟨[],[(100000,(zae box))],[],[],[]⟩ [.agg (zae t0),.fn 76 [.ptr 100000 0]] (.tup [.agg [.row 30 0,.i r.2.1,.row 20030 0,.i r.2.2.2.1,.i r.2.2.2.2.1],.agg (zad r.2.2.2.2.2.1)]) ⟨[],[(100000,(zae r.2.2.2.2.2.2))],[(30,.o 5 1 0 (r.1.map zan)),(20030,.o 22 1 0 (r.2.2.1.map zag))],[],[]⟩:=by
 refine PT 32 [.cell 4 27,.cell 5 35] [27,35] Tryz.func62 ?_
 intro Q g hfin
 unfold tablet_with_v2 at hF
 refine LR0 ?_
 obtain ⟨x,h0,hF⟩:=oE hF
 rcases x with x | x
 ·have hF:=sm_l hF
  refine RJ (.b (tablet_load_okl h0) .z) ?_
  refine LR0 ?_
  refine Nif hF ?_ ?_ <;> intro hb hF
  ·refine VD [] [4,5] [4,5,100000] [] [] [(4,.ptr 4 0),(5,.ptr 5 0)] [(4,[.nils,.i 0,.nils,.i 0,.i 0]),(5,(zad x)),(100000,(zae box))] [] [] .nil ?_
   cases hF
   refine zar 4 0 60000 5 1 rfl rfl rfl rfl rfl ?_
   refine zar 4 2 60001 22 1 rfl rfl rfl rfl rfl ?_
   refine zat ⟨[],[(60000,30),(60001,20030)],[],[]⟩ rfl ?_
   exact Wz [(30,⟨0,true,false,false⟩),(20030,⟨0,true,false,false⟩)] hfin
  ·cases hF
 ·have hF:=sm_r hF
  have p1:=(Pe.ren (tablet_load_okr h0) ⟨[(49,10)],[(54,10),(143,20010),(149,40010)],[],[]⟩)
  refine RJ (.e [] [] p1 .z) ?_
  refine LR0 ?_
  refine Nif hF ?_ ?_ <;> intro hb hF
  ·refine VD [] [4,5] [4,5,100000] [] [] [(4,.ptr 4 0),(5,.ptr 5 0)] [(4,[.nils,.i 0,.nils,.i 0,.i 0]),(5,(zad x.2.2.2.2.2.2.2.2.2)),(100000,(zae box))] [] [] .nil ?_
   cases hF
   refine zar 4 0 60002 5 1 rfl rfl rfl rfl rfl ?_
   refine zar 4 2 60003 22 1 rfl rfl rfl rfl rfl ?_
   refine zat ⟨[],[(60002,30),(60003,20030)],[],[]⟩ rfl ?_
   exact Wz [(30,⟨0,true,false,false⟩),(20030,⟨0,true,false,false⟩)] hfin
  ·obtain ⟨x1,h2,hF⟩:=oE hF
   have p3:=(Pe.ren (tablet_Cut_1_ok ((x.2.2.2.2.2.1.map zak).length) 0 true ((x.2.2.2.2.2.2.2.1.map zac).length) 0 false 0 0 true h2) ⟨[(100000,10),(100001,100000)],[(100000,10),(100001,40010),(100002,20010),(23,20)],[],[]⟩)
   refine RJ (.e [10,100000] [10,40010,20010] p3 .z) ?_
   refine LR0 ?_
   refine Nif hF ?_ ?_ <;> intro hb hF
   ·refine VD [] [4,5] [4,5,100000] [] [] [(4,.ptr 4 0),(5,.ptr 5 0)] [(4,[.nils,.i 0,.nils,.i 0,.i 0]),(5,(zad x1.1)),(100000,(zae x1.2.2.2.2.2.2.2))] [] [] .nil ?_
    cases hF
    refine zar 4 0 60004 5 1 rfl rfl rfl rfl rfl ?_
    refine zar 4 2 60005 22 1 rfl rfl rfl rfl rfl ?_
    refine zat ⟨[],[(60004,30),(60005,20030)],[],[]⟩ rfl ?_
    exact Wz [(30,⟨0,true,false,false⟩),(20030,⟨0,true,false,false⟩)] hfin
   ·obtain ⟨x2,h4,hF⟩:=oE hF
    have p5:=(Pe.ren (tablet_own_ok h4) ⟨[],[(8,30),(13,20030)],[],[]⟩)
    refine DJ (.e [] [] p5 .z) ?_
    cases hF
    exact Wz [] hfin

/- tablet.Cut -/
/- tablet.Cut -/
def tablet_Cut_v1 (t0:Tablet):Option (Tablet×Fault):=
 ob (tablet_with_v2 t0 t0) fun x=>
 some ((⟨(⟨x.1,x.2.1⟩:Disk),x.2.2.1,x.2.2.2.1,x.2.2.2.2.1⟩:Tablet),x.2.2.2.2.2.1)
theorem tablet_Cut_v1_ok {t0 r} (hF:tablet_Cut_v1 t0=some r):Pe Tryz.prog 17 S.none [.agg (zae t0)] (.tup [.agg (zae r.1),.agg (zad r.2)]) S.none:=by
 refine PT 9 [.cell 2 27,.cell 3 35] [27,35] Tryz.func17 ?_
 intro Q g hfin
 unfold tablet_Cut_v1 at hF
 refine LR0 ?_
 obtain ⟨x,h0,hF⟩:=oE hF
 have p1:=(Pe.ren (tablet_with_v2_ok h0) ⟨[(100000,1)],[(30,6),(20030,20006)],[],[]⟩)
 refine RJ (.e [1] [] p1 .z) ?_
 cases hF
 exact Wz [] hfin

/- tabularyref.Number -/
def R_Number_S (rec:Int→Option (List UInt8)) (num:Int):Option (List UInt8):=
 if (decide (num<128))=true then
  some ([zd1 num]:List UInt8)
 else
  ob (rec (w64 (Int.tdiv num 128))) fun x=>
  zaq (((([zd1 (w64 ((Int.tmod num 128)+128))]:List UInt8)++x).length:Int)*1≤140737488351232) <|
  some (([zd1 (w64 ((Int.tmod num 128)+128))]:List UInt8)++x)
def R_Number (num:Int):Option (List UInt8):=recO (fun rec (x:Int)=>R_Number_S rec x) num
theorem R_Number_ok {num r} (hF:R_Number num=some r):Pe Tryz.prog 84 (.w []) [.i num] (.row 7 0) ⟨[],[],[(7,.z 5 1 0 (r.map zan))],[],[]⟩:=by
 have key:∀ (k:Nat) (x:Int) (r:List UInt8),fuelO (fun rec (x:Int)=>R_Number_S rec x) k x=some r→Pe Tryz.prog 84 (.w []) [.i x] (.row 7 0) ⟨[],[],[(7,.z 5 1 0 (r.map zan))],[],[]⟩:=by
  intro k
  induction k with
  | zero=>intro x r hF; cases hF
  | succ k ih=>
   intro x r hF
   have hF:R_Number_S (fuelO (fun rec (x:Int)=>R_Number_S rec x) k) x=some r:=hF
   generalize fuelO (fun rec (x:Int)=>R_Number_S rec x) k=rec at ih hF
   revert hF
   generalize x=num
   intro hF
   refine PT 17 [.tmp 2] [22] Tryz.func84 ?_
   intro Q g hfin
   unfold R_Number_S at hF
   refine LR0 ?_
   refine LR0 ?_
   refine Nif hF ?_ ?_ <;> intro hb hF
   ·refine LR0 ?_
    cases hF
    exact Wz [] hfin
   ·obtain ⟨x,h0,hF⟩:=oE hF
    have p1:=(Pe.ren (ih (w64 (Int.tdiv num 128)) x h0) ⟨[],[(7,15)],[],[]⟩)
    obtain ⟨h2,hF⟩:=aE hF
    refine VR [cE [] [] [] [] p1,.xs ((([zd1 (w64 ((Int.tmod num 128)+128))]:List UInt8)++x).map zan)] [2] [] [12] [] [(2,.row 12 1)] [] [(12,.z 5 1 1 ((([zd1 (w64 ((Int.tmod num 128)+128))]:List UInt8)++x).map zan))] [] (hc (by decide:(128:Int)≠0) (hc (by decide:(128:Int)≠0) (hc p1 (hc (app_ok zan ([zd1 (w64 ((Int.tmod num 128)+128))]:List UInt8) x) (hc (appl_ok zan h2) .nil))))) ?_
    cases hF
    refine zat ⟨[],[(12,7)],[],[]⟩ rfl ?_
    exact Wz [(7,⟨0,true,true,false⟩)] hfin
 obtain ⟨k,hF⟩:=recO_elim hF
 exact key k _ r hF

/- tabularyref.Written -/
def R_Written (s0:List UInt8):Option (List UInt8):=
 ob (R_Number (s0.length:Int)) fun x=>
 zaq (((x++s0).length:Int)*1≤140737488351232) <|
 some (x++s0)
theorem R_Written_ok {s0 r} (hF:R_Written s0=some r):Pe Tryz.prog 89 (.w []) [.str s0] (.row 5 1) ⟨[],[],[(5,.z 5 1 1 (r.map zan))],[],[]⟩:=by
 refine PT 8 [.tmp 2] [22] Tryz.func89 ?_
 intro Q g hfin
 unfold R_Written at hF
 refine LR0 ?_
 obtain ⟨x,h0,hF⟩:=oE hF
 have p1:=(Pe.ren (R_Number_ok h0) ⟨[],[(7,5)],[],[]⟩)
 obtain ⟨h2,hF⟩:=aE hF
 refine RJ (.e [] [] p1 (.p zan h2 .z)) ?_
 cases hF
 exact Wz [] hfin

/- tabularyref.CellBytes -/
def R_CellBytes (c:Cell):Option (List UInt8):=
 ob (R_Written c.Row) fun x=>
 ob (R_Written c.Col) fun x1=>
 zaq (((x++x1).length:Int)*1≤140737488351232) <|
 ob (R_Number c.Time) fun x2=>
 zaq ((((x++x1)++x2).length:Int)*1≤140737488351232) <|
 ob (
  if c.Gone=true then
   zaq (((((x++x1)++x2)++([(1:UInt8)]:List UInt8)).length:Int)*1≤140737488351232) <|
   some (c,(((x++x1)++x2)++([(1:UInt8)]:List UInt8)))
  else
   zaq (((((x++x1)++x2)++([(0:UInt8)]:List UInt8)).length:Int)*1≤140737488351232) <|
   some (c,(((x++x1)++x2)++([(0:UInt8)]:List UInt8)))) fun v=>
 ob (R_Written v.1.Value) fun x3=>
 zaq (((v.2++x3).length:Int)*1≤140737488351232) <|
 some (v.2++x3)
theorem R_CellBytes_ok {c r} (hF:R_CellBytes c=some r):Pe Tryz.prog 85 (.w []) [.agg (c_Cell c)] (.row 6 5) ⟨[],[],[(6,.z 5 1 5 (r.map zan))],[],[]⟩:=by
 refine PT 29 [.tmp 2] [22] Tryz.func85 ?_
 intro Q g hfin
 unfold R_CellBytes at hF
 refine LR0 ?_
 obtain ⟨x,h0,hF⟩:=oE hF
 have p1:=(Pe.ren (R_Written_ok h0) ⟨[],[(5,6)],[],[]⟩)
 obtain ⟨x1,h2,hF⟩:=oE hF
 have p3:=(Pe.ren (R_Written_ok h2) ⟨[],[(5,9)],[],[]⟩)
 obtain ⟨h4,hF⟩:=aE hF
 refine DJ (.e [] [] p1 (.e [] [] p3 (.p zan h4 .z))) ?_
 obtain ⟨x2,h5,hF⟩:=oE hF
 have p6:=(Pe.ren (R_Number_ok h5) ⟨[],[(7,14)],[],[]⟩)
 obtain ⟨h7,hF⟩:=aE hF
 refine RJ (.e [] [] p6 (.p zan h7 .z)) ?_
 refine LR0 ?_
 obtain ⟨v,hv,hF⟩:=oE hF
 refine Nmeet (⟨[(1,.ptr 1 0),(3,.row 6 4)],[(1,(c_Cell v.1))],[(6,.z 5 1 4 (v.2.map zan))],[],[]⟩:S) ?_ ?_
 ·have hF:=hv
  refine Nif hF ?_ ?_ <;> intro hb hF
  ·obtain ⟨h8,hF⟩:=aE hF
   refine RJ (.a (.sealed) (.p zan h8 .z)) ?_
   cases hF
   exact met' []
  ·obtain ⟨h9,hF⟩:=aE hF
   refine RJ (.a (.sealed) (.p zan h9 .z)) ?_
   cases hF
   exact met' []
 ·obtain ⟨x3,h10,hF⟩:=oE hF
  have p11:=(Pe.ren (R_Written_ok h10) ⟨[],[(5,27)],[],[]⟩)
  obtain ⟨h12,hF⟩:=aE hF
  refine RJ (.e [] [] p11 (.p zan h12 .z)) ?_
  cases hF
  exact Wz [] hfin

/- tabularyref.Rest -/
def R_Rest_J1 (v:Int):Option Int:=
 some (IntKind.u32.wrap (4294967295 - v))
def R_Rest_J2 (v1:Int×Int) (v2:Int):Option ((Int×Int)⊕Int):=
 some (Sum.inl (v2,w64 (v1.2+1)))
def R_Rest_B2 (b:List UInt8) (v1 v3:Int×Int):Option ((Int×Int)⊕((Int×Int)⊕Int)):=
 if (decide (v3.2<8))=true then
  zaq (0≤v1.2∧v1.2<(b.length:Int)) <|
  zaq (0≤v3.2) <|
  lt (Int.tmod (IntKind.u32.wrap ((zd1 (Int.fdiv ((zaf b v1.2).toNat:Int) (2 ^ (min v3.2.toNat 8)))).toNat:Int)) 2) fun v4=>
  ob (
   if (decide ((Int.tmod (IntKind.u32.wrap (v3.1+v4)) 2)=1))=true then
    some (bitsOp .xor .u32 (IntKind.u32.wrap (Int.tdiv v3.1 2)) 3988292384)
   else
    some (IntKind.u32.wrap (Int.tdiv v3.1 2))) fun v5=>
  some (Sum.inl (v5,w64 (v3.2+1)))
 else
  zem (R_Rest_J2 v1 v3.1)
def R_Rest_L2 (b:List UInt8) (v1 v0:Int×Int):Option ((Int×Int)⊕Int):=
 zbc (fun y=>R_Rest_B2 b v1 y) v0
def R_Rest_B1 (b:List UInt8) (v1:Int×Int):Option ((Int×Int)⊕Int):=
 if (decide (v1.2<(b.length:Int)))=true then
  R_Rest_L2 b v1 (v1.1,0)
 else
  zem (R_Rest_J1 v1.1)
def R_Rest_L1 (b:List UInt8) (v0:Int×Int):Option Int:=
 zbc (fun y=>R_Rest_B1 b y) v0
def R_Rest (b:List UInt8):Option Int:=
 R_Rest_L1 b (4294967295,0)
theorem R_Rest_ok {b r} (hF:R_Rest b=some r):Pe Tryz.prog 83 S.none [.sl 1 (b.map zan)] (.int .u32 r) S.none:=by
 refine PT 38 [.tmp 2] [124] Tryz.func83 ?_
 intro Q g hfin
 unfold R_Rest at hF
 refine LR0 ?_
 refine LR0 ?_
 refine LR0 ?_
 refine NmQ (fun v=>R_Rest_J1 v=some r) (fun v=>⟨[(3,.int .u32 v)],[],[],[],[]⟩) ?_ ?_
 ·refine zcb ?_
  unfold R_Rest_L1 at hF
  refine Nits hF [] (fun Z v1=>Z.up [0,3,4] [] [] [] [(3,.int .u32 v1.1),(4,.i v1.2)] [] [] []) ?_
  intro n1 v1 y1 hF ih1 dn1
  unfold R_Rest_B1 at hF
  refine RJ (.l zan b .z) ?_
  refine Nif hF ?_ ?_ <;> intro hb hF
  ·refine zcb ?_
   refine LR0 ?_
   refine NmS (fun v2=>R_Rest_J2 v1 v2=some y1) (fun Z v2=>Z.up [0,3,4] [] [] [] [(3,.int .u32 v2)] [] [] []) ?_ ?_
   ·refine zcb ?_
    unfold R_Rest_L2 at hF
    refine Nits hF [] (fun Z v3=>Z.up [0,3,4,5] [] [] [] [(3,.int .u32 v3.1),(5,.i v3.2)] [] [] []) ?_
    intro n2 v3 y2 hF ih2 dn2
    unfold R_Rest_B2 at hF
    refine LR0 ?_
    refine Nif hF ?_ ?_ <;> intro hb hF
    ·refine zcb ?_
     obtain ⟨h0,h1,hF⟩:=asrt2 hF
     refine NRL (Int.tmod (IntKind.u32.wrap ((zd1 (Int.fdiv ((zaf b v1.2).toNat:Int) (2 ^ (min v3.2.toNat 8)))).toNat:Int)) 2) (fun v4:Int=>([(6,.int .u32 v4)],[],[],[])) [.av (zan (zaf b v1.2))] [0,3,4,5,6] [] [] [] (hc (idx_ok zan h0) (hc h1 (hc (shr8_ok (zaf b v1.2) (min v3.2.toNat 8)) (hc (by decide:(2:Int)≠0) .nil)))) (fun v4 hv=>?_)
     have hF:=zev hF hv
     refine RJ (.g (by decide:(2:Int)≠0) .z) ?_
     refine RJ (.g (by decide:(2:Int)≠0) .z) ?_
     refine LR0 ?_
     obtain ⟨v5,hv,hF⟩:=oE hF
     refine NmT (fun Z=>Z.up [0,3,4,5] [] [] [] [(3,.int .u32 v5)] [] [] []) ?_ ?_
     ·have hF:=hv
      refine Nif hF ?_ ?_ <;> intro hb hF
      ·refine LR0 ?_
       cases hF
       exact met' []
      ·cases hF
       exact met' []
     ·refine LR0 ?_
      exact Nrnq [] hF ih2
    ·refine zbv rfl ?_
     have hF:=zaj hF dn2
     exact ze6 v3.1 [] hF
   ·intro v2 hF
    unfold R_Rest_J2 at hF
    refine LR0 ?_
    exact Nrnq [] hF ih1
  ·refine zbv rfl ?_
   have hF:=zaj hF dn1
   exact ze6 v1.1 [] hF
 ·intro v hF
  unfold R_Rest_J1 at hF
  refine LR0 ?_
  cases hF
  exact Wz [] hfin

/- tabularyref.Framed -/
def R_Framed (body:List UInt8):Option (List UInt8):=
 zaq (((([zd1 (w64 (Int.tdiv (body.length:Int) 256)),zd1 (Int.tmod (body.length:Int) 256)]:List UInt8)++body).length:Int)*1≤140737488351232) <|
 lt ((([zd1 (w64 (Int.tdiv (body.length:Int) 256)),zd1 (Int.tmod (body.length:Int) 256)]:List UInt8)++body)) fun v=>
 ob (R_Rest v) fun x=>
 zaq (((v++([zd1 (IntKind.u32.wrap (Int.tdiv x 16777216)),zd1 (Int.tmod (IntKind.u32.wrap (Int.tdiv x 65536)) 256),zd1 (Int.tmod (IntKind.u32.wrap (Int.tdiv x 256)) 256),zd1 (Int.tmod x 256)]:List UInt8)).length:Int)*1≤140737488351232) <|
 lt ((v++([zd1 (IntKind.u32.wrap (Int.tdiv x 16777216)),zd1 (Int.tmod (IntKind.u32.wrap (Int.tdiv x 65536)) 256),zd1 (Int.tmod (IntKind.u32.wrap (Int.tdiv x 256)) 256),zd1 (Int.tmod x 256)]:List UInt8))) fun v1=>
 some v1
theorem R_Framed_ok {body r} (hF:R_Framed body=some r):Pe Tryz.prog 23 (.w []) [.sl 1 (body.map zan)] (.row 13 2) ⟨[],[],[(13,.z 5 1 2 (r.map zan))],[],[]⟩:=by
 refine PT 35 [.tmp 2] [22] Tryz.func23 ?_
 intro Q g hfin
 unfold R_Framed at hF
 refine LR0 ?_
 obtain ⟨h0,hF⟩:=aE hF
 obtain ⟨v,hv,hF⟩:=lS hF
 refine RJ (.l zan body (.g (by decide:(256:Int)≠0) (.l zan body (.g (by decide:(256:Int)≠0) (.pN zan hv h0 .z))))) ?_
 obtain ⟨x,h1,hF⟩:=oE hF
 refine RJ (.b (R_Rest_ok h1) .z) ?_
 obtain ⟨h2,hF⟩:=aE hF
 obtain ⟨v1,hv,hF⟩:=lS hF
 refine RJ (.g (by decide:(16777216:Int)≠0) (.g (by decide:(65536:Int)≠0) (.g (by decide:(256:Int)≠0) (.g (by decide:(256:Int)≠0) (.g (by decide:(256:Int)≠0) (.g (by decide:(256:Int)≠0) (.a (.sealed) (.pN zan hv h2 .z)))))))) ?_
 cases hF
 exact Wz [] hfin

/- tabularyref.RowsOf -/
def R_RowsOf_J1 (v:List (List UInt8)):Option (List (List UInt8)):=
 some v
def R_RowsOf_B1 (l:List Cell) (v1:List (List UInt8)×Int):Option ((List (List UInt8)×Int)⊕(List (List UInt8))):=
 if (decide (v1.2<(l.length:Int)))=true then
  zaq ((!(decide ((v1.1.length:Int)=0)))=true→0≤w64 ((v1.1.length:Int) - 1)∧w64 ((v1.1.length:Int) - 1)<(v1.1.length:Int)) <|
  zaq ((!(decide ((v1.1.length:Int)=0)))=true→0≤w64 ((v1.1.length:Int) - 1)∧w64 ((v1.1.length:Int) - 1)<(v1.1.length:Int)) <|
  zaq ((!(decide ((v1.1.length:Int)=0)))=true→0≤v1.2∧v1.2<(l.length:Int)) <|
  ob (
   if ((decide ((v1.1.length:Int)=0))||(!decide ((zaf v1.1 (w64 ((v1.1.length:Int) - 1)))=((zaf l v1.2).Row))))=true then
    zaq (0≤v1.2∧v1.2<(l.length:Int)) <|
    zaq (((v1.1++([(zaf l v1.2).Row]:List (List UInt8))).length:Int)*16≤140737488351232) <|
    some (v1.1++([(zaf l v1.2).Row]:List (List UInt8)))
   else
    some v1.1) fun v2=>
  some (Sum.inl (v2,w64 (v1.2+1)))
 else
  zem (R_RowsOf_J1 v1.1)
def R_RowsOf_L1 (l:List Cell) (v0:List (List UInt8)×Int):Option (List (List UInt8)):=
 zbc (fun y=>R_RowsOf_B1 l y) v0
def R_RowsOf (l:List Cell):Option (List (List UInt8)):=
 R_RowsOf_L1 l (([]:List (List UInt8)),0)
theorem R_RowsOf_ok {l r} (hF:R_RowsOf l=some r):Pe Tryz.prog 50 (.w []) [.sl 5 (l.map zac)] (.row 36 0) ⟨[],[],[(36,.z 9 1 0 (r.map zej))],[],[]⟩:=by
 refine PT 38 [.tmp 2] [86] Tryz.func50 ?_
 intro Q g hfin
 unfold R_RowsOf at hF
 refine LR0 ?_
 refine LR0 ?_
 refine NR [] [0,3,4] [] [] [(0,.sl 5 (l.map zac)),(3,.nils),(4,.i 0)] .nil ?_
 refine NmQ (fun v=>R_RowsOf_J1 v=some r) (fun v=>⟨[(3,.row 36 0)],[],[(36,.z 9 1 0 (v.map zej))],[],[]⟩) ?_ ?_
 ·refine zcb ?_
  unfold R_RowsOf_L1 at hF
  refine zap 3 60000 9 1 rfl rfl rfl ?_
  refine zci (fs:=[0,3,4]) (bs:=[]) (rs:=[60000]) (ms:=[]) (aa:=[]) (nv:=[]) rfl ?_
  refine zat ⟨[],[(60000,36)],[],[]⟩ rfl ?_
  refine Nitr hF [] (fun v1=>⟨[(0,.sl 5 (l.map zac)),(3,.row 36 0),(4,.i v1.2)],[],[(36,.z 9 1 0 (v1.1.map zej))],[],[]⟩) ?_
  intro n1 v1 y1 hF ih1 dn1
  unfold R_RowsOf_B1 at hF
  refine RJ (.l zac l .z) ?_
  refine Nif hF ?_ ?_ <;> intro hb hF
  ·refine zcb ?_
   refine RJ (.l zej v1.1 .z) ?_
   obtain ⟨h0,h1,hF⟩:=asrt2 hF
   obtain ⟨h2,hF⟩:=aE hF
   refine DJ (.g (fun (ga0:(!(decide ((v1.1.length:Int)=0)))=true)=>(ixr_ok zej (h0 ga0))) (.a (.av (zej (zaf v1.1 (w64 ((v1.1.length:Int) - 1))))) (.g (fun (ga0:(!(decide ((v1.1.length:Int)=0)))=true)=>(ldr_ok zej (h1 ga0))) (.a (.av (zac (zaf l v1.2))) (.g (fun (ga0:(!(decide ((v1.1.length:Int)=0)))=true)=>(idx_ok zac (h2 ga0))) .z))))) ?_
   obtain ⟨v2,hv,hF⟩:=oE hF
   refine NmT (fun Z=>Z.up [0,3,4] [] [36] [] [] [] [(36,.z 9 1 0 (v2.map zej))] []) ?_ ?_
   ·have hF:=hv
    refine Nif hF ?_ ?_ <;> intro hb hF
    ·obtain ⟨h3,hF⟩:=aE hF
     obtain ⟨h4,hF⟩:=aE hF
     refine RJ (.i zac h3 (.a (.sealed) (.p zej h4 .z))) ?_
     cases hF
     exact met' [(36,⟨0,true,true,false⟩)]
    ·cases hF
     exact met' []
   ·refine LR0 ?_
    exact Nrnq [] hF ih1
  ·refine zbv rfl ?_
   have hF:=zaj hF dn1
   exact ze6 v1.1 [] hF
 ·intro v hF
  unfold R_RowsOf_J1 at hF
  refine LR0 ?_
  cases hF
  exact Wz [] hfin

/- tabularyref.Bits -/
def R_Bits (row:List UInt8) (num:Int):Option (List Int):=
 zaq ((row.length:Int)≤140737488351232) <|
 ob (R_Rest row) fun x=>
 zaq ((IntKind.u64.wrap num)≠0) <|
 zaq ((IntKind.u64.wrap num)≠0) <|
 zaq ((IntKind.u64.wrap num)≠0) <|
 lt (([w64 (Int.tmod (Int.tmod (IntKind.u64.wrap x) 65536) (IntKind.u64.wrap num)),w64 (Int.tmod (IntKind.u64.wrap ((Int.tmod (IntKind.u64.wrap x) 65536)+(IntKind.u64.wrap (Int.tdiv (IntKind.u64.wrap x) 65536)))) (IntKind.u64.wrap num)),w64 (Int.tmod (IntKind.u64.wrap ((Int.tmod (IntKind.u64.wrap x) 65536)+(IntKind.u64.wrap (2*(IntKind.u64.wrap (Int.tdiv (IntKind.u64.wrap x) 65536)))))) (IntKind.u64.wrap num))]:List Int)) fun v=>
 some v
theorem R_Bits_ok {row num r} (hF:R_Bits row num=some r):Pe Tryz.prog 129 S.none [.str row,.i num] (.sl 1 (r.map e_i64)) S.none:=by
 refine PT 37 [.tmp 4] [117] Tryz.func129 ?_
 intro Q g hfin
 unfold R_Bits at hF
 refine LR0 ?_
 obtain ⟨h0,hF⟩:=aE hF
 obtain ⟨x,h1,hF⟩:=oE hF
 refine RJ (.g (bof_ok h0) (.b (R_Rest_ok h1) .z)) ?_
 refine RJ (.g (by decide:(65536:Int)≠0) (.g (by decide:(65536:Int)≠0) .z)) ?_
 refine LR0 ?_
 obtain ⟨h2,h3,hF⟩:=asrt2 hF
 obtain ⟨h4,hF⟩:=aE hF
 refine NDL (([w64 (Int.tmod (Int.tmod (IntKind.u64.wrap x) 65536) (IntKind.u64.wrap num)),w64 (Int.tmod (IntKind.u64.wrap ((Int.tmod (IntKind.u64.wrap x) 65536)+(IntKind.u64.wrap (Int.tdiv (IntKind.u64.wrap x) 65536)))) (IntKind.u64.wrap num)),w64 (Int.tmod (IntKind.u64.wrap ((Int.tmod (IntKind.u64.wrap x) 65536)+(IntKind.u64.wrap (2*(IntKind.u64.wrap (Int.tdiv (IntKind.u64.wrap x) 65536)))))) (IntKind.u64.wrap num))]:List Int)) (fun v:List Int=>([(4,.sl 1 (v.map e_i64))],[],[],[])) [.sealed] [4] [] [] [] (hc h2 (hc h3 (hc h4 .nil))) (fun v hv=>?_)
 have hF:=zev hF hv
 cases hF
 exact Wz [] hfin

/- tabularyref.FilterOf -/
def R_FilterOf_J2 (v2:List UInt8):Option (List UInt8):=
 some v2
def R_FilterOf_B1 (v1:List Bool) (v3:List UInt8×Int):Option ((List UInt8×Int)⊕(List UInt8)):=
 if (decide (v3.2<(v1.length:Int)))=true then
  zaq (0≤v3.2∧v3.2<(v1.length:Int)) <|
  zaq (0≤v3.2∧v3.2<(v1.length:Int)) <|
  ob (
   if (zaf v1 v3.2)=true then
    zaq (0≤w64 (Int.tdiv v3.2 8)∧w64 (Int.tdiv v3.2 8)<(v3.1.length:Int)) <|
    zaq (0≤w64 (Int.tdiv v3.2 8)∧w64 (Int.tdiv v3.2 8)<(v3.1.length:Int)) <|
    zaq (0≤(Int.tmod v3.2 8)) <|
    zaq (0≤w64 (Int.tdiv v3.2 8)∧w64 (Int.tdiv v3.2 8)<(v3.1.length:Int)) <|
    zaq (0≤w64 (Int.tdiv v3.2 8)∧w64 (Int.tdiv v3.2 8)<(v3.1.length:Int)) <|
    lt ((lset v3.1 (w64 (Int.tdiv v3.2 8)) (zd1 (((zaf v3.1 (w64 (Int.tdiv v3.2 8))).toNat:Int)+((zd1 (((1:UInt8).toNat:Int)*2 ^ (min (Int.tmod v3.2 8).toNat 8))).toNat:Int))))) fun v5=>
    some v5
   else
    some v3.1) fun v4=>
  some (Sum.inl (v4,w64 (v3.2+1)))
 else
  zem (R_FilterOf_J2 v3.1)
def R_FilterOf_L1 (v1:List Bool) (v0:List UInt8×Int):Option (List UInt8):=
 zbc (fun y=>R_FilterOf_B1 v1 y) v0
def R_FilterOf_J1 (v:Int) (v1:List Bool):Option (List UInt8):=
 zaq (0≤(v:Int)∧v≤v∧v*1≤140737488351232) <|
 R_FilterOf_L1 v1 ((List.replicate v.toNat ((0:UInt8):UInt8)),0)
def R_FilterOf_J3 (v6:List Bool×Int) (v7:List Bool):Option ((List Bool×Int)⊕(List UInt8)):=
 some (Sum.inl (v7,w64 (v6.2+1)))
def zez (v6:List Bool×Int) (x1:List Int) (v8:List Bool×Int):Option ((List Bool×Int)⊕((List Bool×Int)⊕(List UInt8))):=
 if (decide (v8.2<(x1.length:Int)))=true then
  zaq (0≤v8.2∧v8.2<(x1.length:Int)) <|
  zaq (0≤(zaf x1 v8.2)∧(zaf x1 v8.2)<(v8.1.length:Int)) <|
  zaq (0≤(zaf x1 v8.2)∧(zaf x1 v8.2)<(v8.1.length:Int)) <|
  some (Sum.inl ((lset v8.1 (zaf x1 v8.2) true),w64 (v8.2+1)))
 else
  zem (R_FilterOf_J3 v6 v8.1)
def R_FilterOf_L3 (v6:List Bool×Int) (x1:List Int) (v0:List Bool×Int):Option ((List Bool×Int)⊕(List UInt8)):=
 zbc (fun y=>zez v6 x1 y) v0
def R_FilterOf_B2 (x:List (List UInt8)) (v:Int) (v6:List Bool×Int):Option ((List Bool×Int)⊕(List UInt8)):=
 if (decide (v6.2<(x.length:Int)))=true then
  zaq (0≤v6.2∧v6.2<(x.length:Int)) <|
  zaq (0≤v6.2∧v6.2<(x.length:Int)) <|
  ob (R_Bits (zaf x v6.2) (w64 (8*v))) fun x1=>
  R_FilterOf_L3 v6 x1 (v6.1,0)
 else
  zem (R_FilterOf_J1 v v6.1)
def R_FilterOf_L2 (x:List (List UInt8)) (v:Int) (v0:List Bool×Int):Option (List UInt8):=
 zbc (fun y=>R_FilterOf_B2 x v y) v0
def R_FilterOf (l:List Cell):Option (List UInt8):=
 ob (R_RowsOf l) fun x=>
 ob (
  if (decide ((x.length:Int)=0))=true then
   some 1
  else
   some (x.length:Int)) fun (v:Int)=>
 zaq (0≤(w64 (8*v):Int)∧w64 (8*v)≤w64 (8*v)∧(w64 (8*v))*1≤140737488351232) <|
 R_FilterOf_L2 x v ((List.replicate (w64 (8*v)).toNat (false:Bool)),0)
theorem R_FilterOf_ok {l r} (hF:R_FilterOf l=some r):Pe Tryz.prog 90 (.w []) [.sl 5 (l.map zac)] (.row 46 0) ⟨[],[],[(46,.o 5 1 0 (r.map zan))],[],[]⟩:=by
 refine PT 71 [.tmp 2] [22] Tryz.func90 ?_
 intro Q g hfin
 unfold R_FilterOf at hF
 refine LR0 ?_
 obtain ⟨x,h0,hF⟩:=oE hF
 have p1:=(Pe.ren (R_RowsOf_ok h0) ⟨[],[(36,12)],[],[]⟩)
 refine RJ (.e [] [] p1 .z) ?_
 refine RJ (.l zej x .z) ?_
 refine LR0 ?_
 obtain ⟨v,hv,hF⟩:=oE hF
 refine NmT (fun Z=>Z.up [3,4] [] [12] [] [(4,.i v)] [] [] []) ?_ ?_
 ·have hF:=hv
  refine Nif hF ?_ ?_ <;> intro hb hF
  ·refine LR0 ?_
   cases hF
   exact met' []
  ·cases hF
   exact met' []
 ·obtain ⟨h2,hF⟩:=aE hF
  refine RJ (.a (.xs ((List.replicate (w64 (8*v)).toNat (false:Bool)).map e_bool)) (.g (mk_ok h2) (.g (rep_ok e_bool (w64 (8*v)) (false:Bool)) .z))) ?_
  refine LR0 ?_
  refine NmS (fun v1=>R_FilterOf_J1 v v1=some r) (fun Z v1=>Z.up [4,5] [] [19] [] [] [] [(19,.o 4 1 0 (v1.map e_bool))] []) ?_ ?_
  ·refine zcb ?_
   unfold R_FilterOf_L2 at hF
   refine Nits hF [] (fun Z v6=>Z.up [3,4,5,6] [] [12,19] [] [(6,.i v6.2)] [] [(19,.o 4 1 0 (v6.1.map e_bool))] []) ?_
   intro n1 v6 y1 hF ih1 dn1
   unfold R_FilterOf_B2 at hF
   refine RJ (.l zej x .z) ?_
   refine Nif hF ?_ ?_ <;> intro hb hF
   ·refine zcb ?_
    obtain ⟨h11,h12,hF⟩:=asrt2 hF
    obtain ⟨x1,h13,hF⟩:=oE hF
    refine RJ (.x zej h11 (.r zej h12 (.c (R_Bits_ok h13) .z))) ?_
    refine LR0 ?_
    refine NmS (fun v7=>R_FilterOf_J3 v6 v7=some y1) (fun Z v7=>Z.up [3,4,5,6] [] [12,19] [] [] [] [(19,.o 4 1 0 (v7.map e_bool))] []) ?_ ?_
    ·refine zcb ?_
     unfold R_FilterOf_L3 at hF
     refine Nits hF [] (fun Z v8=>Z.up [3,4,5,6,7,8] [] [12,19] [] [(8,.i v8.2)] [] [(19,.o 4 1 0 (v8.1.map e_bool))] []) ?_
     intro n2 v8 y2 hF ih2 dn2
     unfold zez at hF
     refine RJ (.l e_i64 x1 .z) ?_
     refine Nif hF ?_ ?_ <;> intro hb hF
     ·refine zcb ?_
      obtain ⟨h14,h15,hF⟩:=asrt2 hF
      obtain ⟨h16,hF⟩:=aE hF
      refine RJ (.i e_i64 h14 (.x e_bool h15 (.w e_bool h16 true .z))) ?_
      refine LR0 ?_
      exact Nrnq [] hF ih2
     ·refine zbv rfl ?_
      have hF:=zaj hF dn2
      exact ze6 v8.1 [] hF
    ·intro v7 hF
     unfold R_FilterOf_J3 at hF
     refine LR0 ?_
     exact Nrnq [] hF ih1
   ·refine zbv rfl ?_
    have hF:=zaj hF dn1
    exact ze6 v6.1 [] hF
  ·intro v1 hF
   unfold R_FilterOf_J1 at hF
   obtain ⟨h3,hF⟩:=aE hF
   refine RJ (.a (.xs ((List.replicate v.toNat ((0:UInt8):UInt8)).map zan)) (.g (mk_ok h3) (.g (rep_ok zan v ((0:UInt8):UInt8)) .z))) ?_
   refine LR0 ?_
   refine NmS (fun v2=>R_FilterOf_J2 v2=some r) (fun Z v2=>Z.up [9] [] [46] [] [] [] [(46,.o 5 1 0 (v2.map zan))] []) ?_ ?_
   ·refine zcb ?_
    unfold R_FilterOf_L1 at hF
    refine Nits hF [] (fun Z v3=>Z.up [5,9,10] [] [19,46] [] [(10,.i v3.2)] [] [(46,.o 5 1 0 (v3.1.map zan))] []) ?_
    intro n1 v3 y1 hF ih1 dn1
    unfold R_FilterOf_B1 at hF
    refine RJ (.l e_bool v1 .z) ?_
    refine Nif hF ?_ ?_ <;> intro hb hF
    ·refine zcb ?_
     obtain ⟨h4,h5,hF⟩:=asrt2 hF
     refine RJ (.x e_bool h4 (.r e_bool h5 .z)) ?_
     obtain ⟨v4,hv,hF⟩:=oE hF
     refine NmT (fun Z=>Z.up [5,9,10] [] [19,46] [] [] [] [(46,.o 5 1 0 (v4.map zan))] []) ?_ ?_
     ·have hF:=hv
      refine Nif hF ?_ ?_ <;> intro hb hF
      ·obtain ⟨h6,hF⟩:=aE hF
       obtain ⟨h7,h8,h9,h10,hF⟩:=asrt4 hF
       obtain ⟨v5,hv,hF⟩:=lS hF
       refine DJ (.g (by decide:(8:Int)≠0) (.g (by decide:(8:Int)≠0) (.x zan h6 (.r zan h7 (.g (by decide:(8:Int)≠0) (.g h8 (.x zan h9 (.wN zan h10 hv .z)))))))) ?_
       cases hF
       exact met' []
      ·cases hF
       exact met' []
     ·refine LR0 ?_
      exact Nrnq [] hF ih1
    ·refine zbv rfl ?_
     have hF:=zaj hF dn1
     exact ze6 v3.1 [] hF
   ·intro v2 hF
    unfold R_FilterOf_J2 at hF
    refine LR0 ?_
    cases hF
    exact Wz [] hfin

/- tabularyref.FileOf -/
def R_FileOf_J1 (l:List Cell) (v:List UInt8×List UInt8):Option (List UInt8):=
 ob (R_Framed v.2) fun x=>
 zaq (((v.1++x).length:Int)*1≤140737488351232) <|
 ob (R_FilterOf l) fun x1=>
 ob (R_Framed x1) fun x2=>
 zaq ((((v.1++x)++x2).length:Int)*1≤140737488351232) <|
 some ((v.1++x)++x2)
def R_FileOf_B1 (l:List Cell) (size:Int) (v1:List UInt8×List UInt8×List UInt8×List UInt8×Int):Option ((List UInt8×List UInt8×List UInt8×List UInt8×Int)⊕(List UInt8)):=
 if (decide (v1.2.2.2.2<(l.length:Int)))=true then
  ob (
   if (decide ((v1.2.2.1.length:Int)=0))=true then
    zaq (0≤v1.2.2.2.2∧v1.2.2.2.2<(l.length:Int)) <|
    some ((zaf l v1.2.2.2.2).Row)
   else
    some v1.2.2.2.1) fun v2=>
  zaq (0≤v1.2.2.2.2∧v1.2.2.2.2<(l.length:Int)) <|
  ob (R_CellBytes (⟨(zaf l v1.2.2.2.2).Row,(zaf l v1.2.2.2.2).Col,(zaf l v1.2.2.2.2).Time,(zaf l v1.2.2.2.2).Gone,(zaf l v1.2.2.2.2).Value⟩:Cell)) fun x3=>
  zaq (((v1.2.2.1++x3).length:Int)*1≤140737488351232) <|
  ob (
   if ((decide (size≤((v1.2.2.1++x3).length:Int)))||(decide (v1.2.2.2.2=(w64 ((l.length:Int) - 1)))))=true then
    ob (R_Framed (v1.2.2.1++x3)) fun x4=>
    zaq (((v1.1++x4).length:Int)*1≤140737488351232) <|
    ob (R_Written v2) fun x5=>
    zaq (((v1.2.1++x5).length:Int)*1≤140737488351232) <|
    ob (R_Number ((v1.2.2.1++x3).length:Int)) fun x6=>
    zaq ((((v1.2.1++x5)++x6).length:Int)*1≤140737488351232) <|
    some ((v1.1++x4),((v1.2.1++x5)++x6),([]:List UInt8))
   else
    some (v1.1,v1.2.1,(v1.2.2.1++x3))) fun v3=>
  some (Sum.inl (v3.1,v3.2.1,v3.2.2,v2,w64 (v1.2.2.2.2+1)))
 else
  zem (R_FileOf_J1 l (v1.1,v1.2.1))
def R_FileOf_L1 (l:List Cell) (size:Int) (v0:List UInt8×List UInt8×List UInt8×List UInt8×Int):Option (List UInt8):=
 zbc (fun y=>R_FileOf_B1 l size y) v0
def R_FileOf (l:List Cell) (size:Int):Option (List UInt8):=
 R_FileOf_L1 l size (([]:List UInt8),([]:List UInt8),([]:List UInt8),([]:List UInt8),0)
theorem R_FileOf_ok {l size r} (hF:R_FileOf l size=some r):Pe Tryz.prog 36 (.w []) [.sl 5 (l.map zac),.i size] (.row 45 2) ⟨[],[],[(45,.z 5 1 2 (r.map zan))],[],[]⟩:=by
 refine PT 64 [.tmp 4] [22] Tryz.func36 ?_
 intro Q g hfin
 unfold R_FileOf at hF
 refine LR0 ?_
 refine LR0 ?_
 refine LR0 ?_
 refine NR [] [0,1,5,6,7,8,9] [] [] [(0,.sl 5 (l.map zac)),(1,.i size),(5,.nils),(6,.nils),(7,.nils),(8,.str ([]:List UInt8)),(9,.i 0)] .nil ?_
 refine NmS (fun v=>R_FileOf_J1 l v=some r) (fun Z v=>Z.up [0,5,6] [] [45,49] [] [(5,.row 45 0),(6,.row 49 0)] [] [(45,.z 5 1 0 (v.1.map zan)),(49,.z 5 1 0 (v.2.map zan))] []) ?_ ?_
 ·refine zcb ?_
  unfold R_FileOf_L1 at hF
  refine zap 5 60000 5 1 rfl rfl rfl ?_
  refine zap 6 60001 5 1 rfl rfl rfl ?_
  refine zap 7 60002 5 1 rfl rfl rfl ?_
  refine zci (fs:=[0,1,5,6,7,8,9]) (bs:=[]) (rs:=[60000,60001,60002]) (ms:=[]) (aa:=[]) (nv:=[]) rfl ?_
  refine zat ⟨[],[(60000,45),(60001,49),(60002,30)],[],[]⟩ rfl ?_
  refine Nitr hF [] (fun v1=>⟨[(0,.sl 5 (l.map zac)),(1,.i size),(5,.row 45 0),(6,.row 49 0),(7,.row 30 0),(8,.str v1.2.2.2.1),(9,.i v1.2.2.2.2)],[],[(30,.z 5 1 0 (v1.2.2.1.map zan)),(45,.z 5 1 0 (v1.1.map zan)),(49,.z 5 1 0 (v1.2.1.map zan))],[],[]⟩) ?_
  intro n1 v1 y1 hF ih1 dn1
  unfold R_FileOf_B1 at hF
  refine RJ (.l zac l .z) ?_
  refine Nif hF ?_ ?_ <;> intro hb hF
  ·refine zcb ?_
   refine RJ (.l zan v1.2.2.1 .z) ?_
   obtain ⟨v2,hv,hF⟩:=oE hF
   refine NmT (fun Z=>Z.up [0,1,5,6,7,8,9] [] [30,45,49] [] [(8,.str v2)] [] [] []) ?_ ?_
   ·have hF:=hv
    refine Nif hF ?_ ?_ <;> intro hb hF
    ·obtain ⟨h8,hF⟩:=aE hF
     refine RJ (.i zac h8 .z) ?_
     cases hF
     exact met' []
    ·cases hF
     exact met' []
   ·obtain ⟨h9,hF⟩:=aE hF
    obtain ⟨x3,h10,hF⟩:=oE hF
    have p11:=(Pe.ren (R_CellBytes_ok h10) ⟨[],[(6,29)],[],[]⟩)
    obtain ⟨h12,hF⟩:=aE hF
    refine RJ (.i zac h9 (.e [] [] p11 (.p zan h12 .z))) ?_
    refine RJ (.l zan (v1.2.2.1++x3) (.a (.nat (l.length:Int)) (.g (fun (_:(!(decide (size≤((v1.2.2.1++x3).length:Int))))=true)=>(zdv zac l)) .z))) ?_
    obtain ⟨v3,hv,hF⟩:=oE hF
    refine NmT (fun Z=>Z.up [0,1,5,6,7,8,9] [] [30,45,49] [] [(7,.row 30 0)] [] [(30,.z 5 1 0 (v3.2.2.map zan)),(45,.z 5 1 0 (v3.1.map zan)),(49,.z 5 1 0 (v3.2.1.map zan))] []) ?_ ?_
    ·have hF:=hv
     refine Nif hF ?_ ?_ <;> intro hb hF
     ·obtain ⟨x4,h13,hF⟩:=oE hF
      have p14:=(Pe.ren (R_Framed_ok h13) ⟨[],[(13,44)],[],[]⟩)
      obtain ⟨h15,hF⟩:=aE hF
      refine RJ (.e [] [] p14 (.p zan h15 .z)) ?_
      obtain ⟨x5,h16,hF⟩:=oE hF
      have p17:=(Pe.ren (R_Written_ok h16) ⟨[],[(5,48)],[],[]⟩)
      obtain ⟨h18,hF⟩:=aE hF
      refine RJ (.e [] [] p17 (.p zan h18 .z)) ?_
      obtain ⟨x6,h19,hF⟩:=oE hF
      have p20:=(Pe.ren (R_Number_ok h19) ⟨[],[(7,53)],[],[]⟩)
      obtain ⟨h21,hF⟩:=aE hF
      refine RJ (.l zan (v1.2.2.1++x3) (.e [] [] p20 (.p zan h21 .z))) ?_
      refine VR [] [0,1,5,6,7,8,9] [] [45,49] [] [(0,.sl 5 (l.map zac)),(1,.i size),(5,.row 45 1),(6,.row 49 2),(7,.nils),(8,.str v2),(9,.i v1.2.2.2.2)] [] [(45,.z 5 1 1 ((v1.1++x4).map zan)),(49,.z 5 1 2 (((v1.2.1++x5)++x6).map zan))] [] .nil ?_
      refine zap 7 60003 5 1 rfl rfl rfl ?_
      refine zci (fs:=[0,1,5,6,7,8,9]) (bs:=[]) (rs:=[45,49,60003]) (ms:=[]) (aa:=[]) (nv:=[]) rfl ?_
      refine zat ⟨[],[(60003,30)],[],[]⟩ rfl ?_
      cases hF
      exact met' [(45,⟨0,true,true,false⟩),(49,⟨0,true,true,false⟩)]
     ·cases hF
      exact met' [(30,⟨0,true,true,false⟩)]
    ·refine LR0 ?_
     exact Nrnq [] hF ih1
  ·refine zbv rfl ?_
   have hF:=zaj hF dn1
   exact ze6 (v1.1,v1.2.1) [] hF
 ·intro v hF
  unfold R_FileOf_J1 at hF
  obtain ⟨x,h0,hF⟩:=oE hF
  have p1:=(Pe.ren (R_Framed_ok h0) ⟨[],[(13,57)],[],[]⟩)
  obtain ⟨h2,hF⟩:=aE hF
  refine RJ (.e [] [] p1 (.p zan h2 .z)) ?_
  obtain ⟨x1,h3,hF⟩:=oE hF
  have p4:=(Pe.ren (R_FilterOf_ok h3) ⟨[],[(46,61)],[],[]⟩)
  obtain ⟨x2,h5,hF⟩:=oE hF
  have p6:=(Pe.ren (R_Framed_ok h5) ⟨[],[(13,62)],[],[]⟩)
  obtain ⟨h7,hF⟩:=aE hF
  refine RJ (.e [] [] p4 (.e [] [] p6 (.p zan h7 .z))) ?_
  cases hF
  exact Wz [] hfin

/- tabularyref.FileOf -/
def R_FileOf_v1_J1 (l:List Cell) (v:List UInt8×List UInt8):Option (List UInt8):=
 ob (R_Framed v.2) fun x=>
 zaq (((v.1++x).length:Int)*1≤140737488351232) <|
 ob (R_FilterOf l) fun x1=>
 ob (R_Framed x1) fun x2=>
 zaq ((((v.1++x)++x2).length:Int)*1≤140737488351232) <|
 some ((v.1++x)++x2)
def R_FileOf_v1_B1 (l:List Cell) (size:Int) (v1:List UInt8×List UInt8×List UInt8×List UInt8×Int):Option ((List UInt8×List UInt8×List UInt8×List UInt8×Int)⊕(List UInt8)):=
 if (decide (v1.2.2.2.2<(l.length:Int)))=true then
  ob (
   if (decide ((v1.2.2.1.length:Int)=0))=true then
    zaq (0≤v1.2.2.2.2∧v1.2.2.2.2<(l.length:Int)) <|
    some ((zaf l v1.2.2.2.2).Row)
   else
    some v1.2.2.2.1) fun v2=>
  zaq (0≤v1.2.2.2.2∧v1.2.2.2.2<(l.length:Int)) <|
  ob (R_CellBytes (⟨(zaf l v1.2.2.2.2).Row,(zaf l v1.2.2.2.2).Col,(zaf l v1.2.2.2.2).Time,(zaf l v1.2.2.2.2).Gone,(zaf l v1.2.2.2.2).Value⟩:Cell)) fun x3=>
  zaq (((v1.2.2.1++x3).length:Int)*1≤140737488351232) <|
  ob (
   if ((decide (size≤((v1.2.2.1++x3).length:Int)))||(decide (v1.2.2.2.2=(w64 ((l.length:Int) - 1)))))=true then
    ob (R_Framed (v1.2.2.1++x3)) fun x4=>
    zaq (((v1.1++x4).length:Int)*1≤140737488351232) <|
    ob (R_Written v2) fun x5=>
    zaq (((v1.2.1++x5).length:Int)*1≤140737488351232) <|
    ob (R_Number ((v1.2.2.1++x3).length:Int)) fun x6=>
    zaq ((((v1.2.1++x5)++x6).length:Int)*1≤140737488351232) <|
    some ((v1.1++x4),((v1.2.1++x5)++x6),([]:List UInt8))
   else
    some (v1.1,v1.2.1,(v1.2.2.1++x3))) fun v3=>
  some (Sum.inl (v3.1,v3.2.1,v3.2.2,v2,w64 (v1.2.2.2.2+1)))
 else
  zem (R_FileOf_v1_J1 l (v1.1,v1.2.1))
def R_FileOf_v1_L1 (l:List Cell) (size:Int) (v0:List UInt8×List UInt8×List UInt8×List UInt8×Int):Option (List UInt8):=
 zbc (fun y=>R_FileOf_v1_B1 l size y) v0
def R_FileOf_v1 (l:List Cell) (size:Int):Option (List UInt8):=
 R_FileOf_v1_L1 l size (([]:List UInt8),([]:List UInt8),([]:List UInt8),([]:List UInt8),0)
theorem R_FileOf_v1_ok {l size r} (hF:R_FileOf_v1 l size=some r):Pe Tryz.prog 36 S.none [.sl 5 (l.map zac),.i size] (.sl 1 (r.map zan)) S.none:=by
 refine PT 64 [.tmp 4] [22] Tryz.func36 ?_
 intro Q g hfin
 unfold R_FileOf_v1 at hF
 refine LR0 ?_
 refine LR0 ?_
 refine LR0 ?_
 refine NR [] [0,1,5,6,7,8,9] [] [] [(0,.sl 5 (l.map zac)),(1,.i size),(5,.nils),(6,.nils),(7,.nils),(8,.str ([]:List UInt8)),(9,.i 0)] .nil ?_
 refine NmS (fun v=>R_FileOf_v1_J1 l v=some r) (fun Z v=>Z.up [0,5,6] [] [45,49] [] [(5,.row 45 0),(6,.row 49 0)] [] [(45,.z 5 1 0 (v.1.map zan)),(49,.z 5 1 0 (v.2.map zan))] []) ?_ ?_
 ·refine zcb ?_
  unfold R_FileOf_v1_L1 at hF
  refine zap 5 60000 5 1 rfl rfl rfl ?_
  refine zap 6 60001 5 1 rfl rfl rfl ?_
  refine zap 7 60002 5 1 rfl rfl rfl ?_
  refine zci (fs:=[0,1,5,6,7,8,9]) (bs:=[]) (rs:=[60000,60001,60002]) (ms:=[]) (aa:=[]) (nv:=[]) rfl ?_
  refine zat ⟨[],[(60000,45),(60001,49),(60002,30)],[],[]⟩ rfl ?_
  refine Nitr hF [] (fun v1=>⟨[(0,.sl 5 (l.map zac)),(1,.i size),(5,.row 45 0),(6,.row 49 0),(7,.row 30 0),(8,.str v1.2.2.2.1),(9,.i v1.2.2.2.2)],[],[(30,.z 5 1 0 (v1.2.2.1.map zan)),(45,.z 5 1 0 (v1.1.map zan)),(49,.z 5 1 0 (v1.2.1.map zan))],[],[]⟩) ?_
  intro n1 v1 y1 hF ih1 dn1
  unfold R_FileOf_v1_B1 at hF
  refine RJ (.l zac l .z) ?_
  refine Nif hF ?_ ?_ <;> intro hb hF
  ·refine zcb ?_
   refine RJ (.l zan v1.2.2.1 .z) ?_
   obtain ⟨v2,hv,hF⟩:=oE hF
   refine NmT (fun Z=>Z.up [0,1,5,6,7,8,9] [] [30,45,49] [] [(8,.str v2)] [] [] []) ?_ ?_
   ·have hF:=hv
    refine Nif hF ?_ ?_ <;> intro hb hF
    ·obtain ⟨h8,hF⟩:=aE hF
     refine RJ (.i zac h8 .z) ?_
     cases hF
     exact met' []
    ·cases hF
     exact met' []
   ·obtain ⟨h9,hF⟩:=aE hF
    obtain ⟨x3,h10,hF⟩:=oE hF
    have p11:=(Pe.ren (R_CellBytes_ok h10) ⟨[],[(6,29)],[],[]⟩)
    obtain ⟨h12,hF⟩:=aE hF
    refine RJ (.i zac h9 (.e [] [] p11 (.p zan h12 .z))) ?_
    refine RJ (.l zan (v1.2.2.1++x3) (.a (.nat (l.length:Int)) (.g (fun (_:(!(decide (size≤((v1.2.2.1++x3).length:Int))))=true)=>(zdv zac l)) .z))) ?_
    obtain ⟨v3,hv,hF⟩:=oE hF
    refine NmT (fun Z=>Z.up [0,1,5,6,7,8,9] [] [30,45,49] [] [(7,.row 30 0)] [] [(30,.z 5 1 0 (v3.2.2.map zan)),(45,.z 5 1 0 (v3.1.map zan)),(49,.z 5 1 0 (v3.2.1.map zan))] []) ?_ ?_
    ·have hF:=hv
     refine Nif hF ?_ ?_ <;> intro hb hF
     ·obtain ⟨x4,h13,hF⟩:=oE hF
      have p14:=(Pe.ren (R_Framed_ok h13) ⟨[],[(13,44)],[],[]⟩)
      obtain ⟨h15,hF⟩:=aE hF
      refine RJ (.e [] [] p14 (.p zan h15 .z)) ?_
      obtain ⟨x5,h16,hF⟩:=oE hF
      have p17:=(Pe.ren (R_Written_ok h16) ⟨[],[(5,48)],[],[]⟩)
      obtain ⟨h18,hF⟩:=aE hF
      refine RJ (.e [] [] p17 (.p zan h18 .z)) ?_
      obtain ⟨x6,h19,hF⟩:=oE hF
      have p20:=(Pe.ren (R_Number_ok h19) ⟨[],[(7,53)],[],[]⟩)
      obtain ⟨h21,hF⟩:=aE hF
      refine RJ (.l zan (v1.2.2.1++x3) (.e [] [] p20 (.p zan h21 .z))) ?_
      refine VR [] [0,1,5,6,7,8,9] [] [45,49] [] [(0,.sl 5 (l.map zac)),(1,.i size),(5,.row 45 1),(6,.row 49 2),(7,.nils),(8,.str v2),(9,.i v1.2.2.2.2)] [] [(45,.z 5 1 1 ((v1.1++x4).map zan)),(49,.z 5 1 2 (((v1.2.1++x5)++x6).map zan))] [] .nil ?_
      refine zap 7 60003 5 1 rfl rfl rfl ?_
      refine zci (fs:=[0,1,5,6,7,8,9]) (bs:=[]) (rs:=[45,49,60003]) (ms:=[]) (aa:=[]) (nv:=[]) rfl ?_
      refine zat ⟨[],[(60003,30)],[],[]⟩ rfl ?_
      cases hF
      exact met' [(45,⟨0,true,true,false⟩),(49,⟨0,true,true,false⟩)]
     ·cases hF
      exact met' [(30,⟨0,true,true,false⟩)]
    ·refine LR0 ?_
     exact Nrnq [] hF ih1
  ·refine zbv rfl ?_
   have hF:=zaj hF dn1
   exact ze6 (v1.1,v1.2.1) [] hF
 ·intro v hF
  unfold R_FileOf_v1_J1 at hF
  obtain ⟨x,h0,hF⟩:=oE hF
  have p1:=(Pe.ren (R_Framed_ok h0) ⟨[],[(13,57)],[],[]⟩)
  obtain ⟨h2,hF⟩:=aE hF
  refine RJ (.e [] [] p1 (.p zan h2 .z)) ?_
  obtain ⟨x1,h3,hF⟩:=oE hF
  have p4:=(Pe.ren (R_FilterOf_ok h3) ⟨[],[(46,61)],[],[]⟩)
  obtain ⟨x2,h5,hF⟩:=oE hF
  have p6:=(Pe.ren (R_Framed_ok h5) ⟨[],[(13,62)],[],[]⟩)
  obtain ⟨h7,hF⟩:=aE hF
  refine RJ (.e [] [] p4 (.e [] [] p6 (.p zan h7 .z))) ?_
  cases hF
  exact Wz [] hfin

/- tabularyref.Same -/
def R_Same (a0 b:List UInt8):Bool:=
 decide (a0=b)
theorem R_Same_ok {a0 b r} (hF:R_Same a0 b=r):Pe Tryz.prog 60 S.none [.sl 1 (a0.map zan),.sl 1 (b.map zan)] (.bool r) S.none:=by
 refine PT 10 [.tmp 4] [4] Tryz.func60 ?_
 intro Q g hfin
 unfold R_Same at hF
 refine LR0 ?_
 refine RJ (.a (.str a0) (.g (u8s_ok a0) (.a (.str b) (.g (u8s_ok b) .z)))) ?_
 cases hF
 exact Wz [] hfin

/- tabularylaw.tabletBegun -/
def law_tabletBegun  : Option Bool:=
 lt (law_oneNote) fun x=>
 ob (tablet_Put_v1 (⟨(⟨([]:List UInt8),0⟩:Disk),([]:List (List UInt8)),0,0⟩:Tablet) x.Cells) fun x1=>
 ob (tablet_Flush_v1 x1.1 50) fun x2=>
 ob (tablet_Cut_v1 x2.1) fun x3=>
 zaq (((((((decide (x1.2.2.Code=0))&&(decide (x2.2.Code=0)))&&(decide (x3.2.Code=0)))&&(decide (x1.2.1=1)))&&(decide (x3.1.Done=1)))&&(decide ((x3.1.Files.length:Int)=1)))=true→0≤(0:Int)∧0<(x3.1.Files.length:Int)) <|
 lt (law_oneNote) fun x4=>
 ob (if ((((((decide (x1.2.2.Code=0))&&(decide (x2.2.Code=0)))&&(decide (x3.2.Code=0)))&&(decide (x1.2.1=1)))&&(decide (x3.1.Done=1)))&&(decide ((x3.1.Files.length:Int)=1)))=true then (R_FileOf_v1 x4.Cells 50) else some default) fun x5=>
 lt (R_Same (zaf x3.1.Files 0) x5) fun x6=>
 lt ((((((((decide (x1.2.2.Code=0))&&(decide (x2.2.Code=0)))&&(decide (x3.2.Code=0)))&&(decide (x1.2.1=1)))&&(decide (x3.1.Done=1)))&&(decide ((x3.1.Files.length:Int)=1)))&&x6)&&(decide ((x3.1.Log.Bytes.length:Int)=0))) fun v=>
 some v
theorem law_tabletBegun_ok { r} (hF:law_tabletBegun  = some r):Pe Tryz.prog 8 S.none [] (.bool r) S.none:=by
 refine PT 69 [.tmp 0] [4] Tryz.func8 ?_
 intro Q g hfin
 unfold law_tabletBegun at hF
 refine LR0 ?_
 obtain ⟨x,h0,hF⟩:=lS hF
 obtain ⟨x1,h1,hF⟩:=oE hF
 refine RJ (.c (law_oneNote_ok h0) (.c (tablet_Put_v1_ok h1) .z)) ?_
 obtain ⟨x2,h2,hF⟩:=oE hF
 refine RJ (.c (tablet_Flush_v1_ok h2) .z) ?_
 obtain ⟨x3,h3,hF⟩:=oE hF
 refine RJ (.c (tablet_Cut_v1_ok h3) .z) ?_
 obtain ⟨h4,hF⟩:=aE hF
 obtain ⟨x4,h5,hF⟩:=lS hF
 obtain ⟨x5,h6,hF⟩:=oE hF
 obtain ⟨x6,h7,hF⟩:=lS hF
 refine NDL ((((((((decide (x1.2.2.Code=0))&&(decide (x2.2.Code=0)))&&(decide (x3.2.Code=0)))&&(decide (x1.2.1=1)))&&(decide (x3.1.Done=1)))&&(decide ((x3.1.Files.length:Int)=1)))&&x6)&&(decide ((x3.1.Log.Bytes.length:Int)=0))) (fun v:Bool=>([(0,.bool v)],[],[],[])) [.nat (x3.1.Files.length:Int),.av (zag (zaf x3.1.Files 0)),.call (.agg (c_Note x4)),.call (.sl 1 (x5.map zan)),.callB (.bool x6),.nat (x3.1.Log.Bytes.length:Int)] [0] [] [] [] (hc (fun (_:(((((decide (x1.2.2.Code=0))&&(decide (x2.2.Code=0)))&&(decide (x3.2.Code=0)))&&(decide (x1.2.1=1)))&&(decide (x3.1.Done=1)))=true)=>(zdv zag x3.1.Files)) (hc (fun (ga0:((((((decide (x1.2.2.Code=0))&&(decide (x2.2.Code=0)))&&(decide (x3.2.Code=0)))&&(decide (x1.2.1=1)))&&(decide (x3.1.Done=1)))&&(decide ((x3.1.Files.length:Int)=1)))=true)=>(idx_ok zag (h4 ga0))) (hc (fun (ga0:((((((decide (x1.2.2.Code=0))&&(decide (x2.2.Code=0)))&&(decide (x3.2.Code=0)))&&(decide (x1.2.1=1)))&&(decide (x3.1.Done=1)))&&(decide ((x3.1.Files.length:Int)=1)))=true)=>(law_oneNote_ok h5)) (hc (fun (ga0:((((((decide (x1.2.2.Code=0))&&(decide (x2.2.Code=0)))&&(decide (x3.2.Code=0)))&&(decide (x1.2.1=1)))&&(decide (x3.1.Done=1)))&&(decide ((x3.1.Files.length:Int)=1)))=true)=>(R_FileOf_v1_ok (ite_t h6 ga0))) (hc (fun (ga0:((((((decide (x1.2.2.Code=0))&&(decide (x2.2.Code=0)))&&(decide (x3.2.Code=0)))&&(decide (x1.2.1=1)))&&(decide (x3.1.Done=1)))&&(decide ((x3.1.Files.length:Int)=1)))=true)=>(R_Same_ok h7)) (hc (fun (_:(((((((decide (x1.2.2.Code=0))&&(decide (x2.2.Code=0)))&&(decide (x3.2.Code=0)))&&(decide (x1.2.1=1)))&&(decide (x3.1.Done=1)))&&(decide ((x3.1.Files.length:Int)=1)))&&x6)=true)=>(zdv zan x3.1.Log.Bytes)) .nil)))))) (fun v hv=>?_)
 have hF:=zev hF hv
 cases hF
 exact Wz [] hfin

/- tabularylaw.vastTablet -/
def law_vastTablet_J1 (v:Tablet×Int):Option Bool:=
 some ((decide (20000<v.2))||(decide (100<(v.1.Files.length:Int))))
def ze4 (v1:Tablet×Int×Int):Option ((Tablet×Int×Int)⊕Bool):=
 if (decide (v1.2.2<(v1.1.Files.length:Int)))=true then
  zaq (0≤v1.2.2∧v1.2.2<(v1.1.Files.length:Int)) <|
  some (Sum.inl (v1.1,w64 (v1.2.1+((zaf v1.1.Files v1.2.2).length:Int)),w64 (v1.2.2+1)))
 else
  zem (law_vastTablet_J1 (v1.1,v1.2.1))
def law_vastTablet_L1 (v0:Tablet×Int×Int):Option Bool:=
 zbc (fun y=>ze4 y) v0
def law_vastTablet (t0:Tablet):Option Bool:=
 law_vastTablet_L1 (t0,(t0.Log.Bytes.length:Int),0)
theorem law_vastTablet_ok {t0 r} (hF:law_vastTablet t0=some r):Pe Tryz.prog 9 S.none [.agg (zae t0)] (.bool r) S.none:=by
 refine PT 32 [.tmp 2] [4] Tryz.func9 ?_
 intro Q g hfin
 unfold law_vastTablet at hF
 refine LR0 ?_
 refine RJ (.l zan t0.Log.Bytes .z) ?_
 refine LR0 ?_
 refine NmQ (fun v=>law_vastTablet_J1 v=some r) (fun v=>⟨[(1,.ptr 1 0),(3,.i v.2)],[(1,(zae v.1))],[],[],[]⟩) ?_ ?_
 ·refine zcb ?_
  unfold law_vastTablet_L1 at hF
  refine Nitr hF [] (fun v1=>⟨[(1,.ptr 1 0),(3,.i v1.2.1),(4,.i v1.2.2)],[(1,(zae v1.1))],[],[],[]⟩) ?_
  intro n1 v1 y1 hF ih1 dn1
  unfold ze4 at hF
  refine RJ (.l zag v1.1.Files .z) ?_
  refine Nif hF ?_ ?_ <;> intro hb hF
  ·refine zcb ?_
   obtain ⟨h0,hF⟩:=aE hF
   refine RJ (.i zag h0 (.l zan (zaf v1.1.Files v1.2.2) .z)) ?_
   refine LR0 ?_
   exact Nrnq [] hF ih1
  ·refine zbv rfl ?_
   have hF:=zaj hF dn1
   exact ze6 (v1.1,v1.2.1) [] hF
 ·intro v hF
  unfold law_vastTablet_J1 at hF
  refine RJ (.a (.nat (v.1.Files.length:Int)) (.g (fun (_:(!(decide (20000<v.2)))=true)=>(zdv zag v.1.Files)) .z)) ?_
  cases hF
  exact Wz [] hfin

/- tabularylaw.many -/
def law_many (num:Int):Bool:=
 lt (((decide (150<num))&&(decide (num<1000)))||(decide (2000<num))) fun v=>
 v
theorem law_many_ok {num r} (hF:law_many num=r):Pe Tryz.prog 10 S.none [.i num] (.bool r) S.none:=by
 refine PT 13 [.tmp 2] [4] Tryz.func10 ?_
 intro Q g hfin
 unfold law_many at hF
 refine LR0 ?_
 refine NRL (((decide (150<num))&&(decide (num<1000)))||(decide (2000<num))) (fun v:Bool=>([(2,.bool v)],[],[],[])) [] [2] [] [] [] .nil (fun v hv=>?_)
 have hF:=zev hF hv
 cases hF
 exact Wz [] hfin

/- tabularylaw.ownBytes -/
def law_ownBytes (b:List UInt8):Option (List UInt8):=
 zaq ((b.length:Int)*1≤140737488351232) <|
 some b
theorem law_ownBytes_ok {b r} (hF:law_ownBytes b=some r):Pe Tryz.prog 29 (.w []) [.sl 1 (b.map zan)] (.row 4 1) ⟨[],[],[(4,.z 5 1 1 (r.map zan))],[],[]⟩:=by
 refine PT 5 [.tmp 2] [22] Tryz.func29 ?_
 intro Q g hfin
 unfold law_ownBytes at hF
 refine LR0 ?_
 obtain ⟨h0,hF⟩:=aE hF
 refine RJ (.p0 zan h0 .z) ?_
 cases hF
 exact Wz [] hfin

/- tabularylaw.ownBytes -/
def law_ownBytes_v1 (b:List UInt8):Option (List UInt8):=
 zaq ((b.length:Int)*1≤140737488351232) <|
 some b
theorem law_ownBytes_v1_ok {b r} (hF:law_ownBytes_v1 b=some r):Pe Tryz.prog 29 S.none [.sl 1 (b.map zan)] (.sl 1 (r.map zan)) S.none:=by
 refine PT 5 [.tmp 2] [22] Tryz.func29 ?_
 intro Q g hfin
 unfold law_ownBytes_v1 at hF
 refine LR0 ?_
 obtain ⟨h0,hF⟩:=aE hF
 refine RJ (.p0 zan h0 .z) ?_
 cases hF
 exact Wz [] hfin

/- tabularylaw.ownDisk -/
def law_ownDisk (d:Disk):Option Disk:=
 ob (law_ownBytes_v1 d.Bytes) fun x=>
 some (⟨x,d.Kept⟩:Disk)
theorem law_ownDisk_ok {d r} (hF:law_ownDisk d=some r):Pe Tryz.prog 61 S.none [.agg (c_Disk d)] (.agg (c_Disk r)) S.none:=by
 refine PT 9 [.cell 2 24] [24] Tryz.func61 ?_
 intro Q g hfin
 unfold law_ownDisk at hF
 refine LR0 ?_
 obtain ⟨x,h0,hF⟩:=oE hF
 refine DJ (.c (law_ownBytes_v1_ok h0) .z) ?_
 cases hF
 exact Wz [] hfin

/- tabularylaw.ownBodies -/
/- tabularylaw.ownBodies -/
def law_ownBodies_v1_J1 (v:List (List UInt8)):Option (List (List UInt8)):=
 some v
def law_ownBodies_v1_B1 (l:List (List UInt8)) (v1:List (List UInt8)×Int):Option ((List (List UInt8)×Int)⊕(List (List UInt8))):=
 if (decide (v1.2<(l.length:Int)))=true then
  zaq (0≤v1.2∧v1.2<(l.length:Int)) <|
  ob (law_ownBytes_v1 (zaf l v1.2)) fun x=>
  zaq (((v1.1++([x]:List (List UInt8))).length:Int)*24≤140737488351232) <|
  some (Sum.inl ((v1.1++([x]:List (List UInt8))),w64 (v1.2+1)))
 else
  zem (law_ownBodies_v1_J1 v1.1)
def law_ownBodies_v1_L1 (l:List (List UInt8)) (v0:List (List UInt8)×Int):Option (List (List UInt8)):=
 zbc (fun y=>law_ownBodies_v1_B1 l y) v0
def law_ownBodies_v1 (l:List (List UInt8)):Option (List (List UInt8)):=
 law_ownBodies_v1_L1 l (([]:List (List UInt8)),0)
theorem law_ownBodies_v1_ok {l r} (hF:law_ownBodies_v1 l=some r):Pe Tryz.prog 55 S.none [.sl 1 (l.map zag)] (.sl 1 (r.map zag)) S.none:=by
 refine PT 20 [.tmp 2] [25] Tryz.func55 ?_
 intro Q g hfin
 unfold law_ownBodies_v1 at hF
 refine LR0 ?_
 refine LR0 ?_
 refine NR [] [0,3,4] [] [] [(0,.sl 1 (l.map zag)),(3,.nils),(4,.i 0)] .nil ?_
 refine NmQ (fun v=>law_ownBodies_v1_J1 v=some r) (fun v=>⟨[(3,.row 18 0)],[],[(18,.z 22 1 0 (v.map zag))],[],[]⟩) ?_ ?_
 ·refine zcb ?_
  unfold law_ownBodies_v1_L1 at hF
  refine zap 3 60000 22 1 rfl rfl rfl ?_
  refine zci (fs:=[0,3,4]) (bs:=[]) (rs:=[60000]) (ms:=[]) (aa:=[]) (nv:=[]) rfl ?_
  refine zat ⟨[],[(60000,18)],[],[]⟩ rfl ?_
  refine Nitr hF [] (fun v1=>⟨[(0,.sl 1 (l.map zag)),(3,.row 18 0),(4,.i v1.2)],[],[(18,.z 22 1 0 (v1.1.map zag))],[],[]⟩) ?_
  intro n1 v1 y1 hF ih1 dn1
  unfold law_ownBodies_v1_B1 at hF
  refine RJ (.l zag l .z) ?_
  refine Nif hF ?_ ?_ <;> intro hb hF
  ·refine zcb ?_
   obtain ⟨h0,hF⟩:=aE hF
   obtain ⟨x,h1,hF⟩:=oE hF
   obtain ⟨h2,hF⟩:=aE hF
   refine RJ (.i zag h0 (.c (law_ownBytes_v1_ok h1) (.a (.sealed) (.p zag h2 .z)))) ?_
   refine LR0 ?_
   exact Nrnq [(18,⟨0,true,true,false⟩)] hF ih1
  ·refine zbv rfl ?_
   have hF:=zaj hF dn1
   exact ze6 v1.1 [] hF
 ·intro v hF
  unfold law_ownBodies_v1_J1 at hF
  refine LR0 ?_
  cases hF
  exact Wz [] hfin

/- tabularylaw.ownTablet -/
def law_ownTablet (t0:Tablet):Option Tablet:=
 ob (law_ownDisk t0.Log) fun x=>
 ob (law_ownBodies_v1 t0.Files) fun x1=>
 some (⟨x,x1,t0.Done,t0.Since⟩:Tablet)
theorem law_ownTablet_ok {t0 r} (hF:law_ownTablet t0=some r):Pe Tryz.prog 11 S.none [.agg (zae t0)] (.agg (zae r)) S.none:=by
 refine PT 12 [.cell 2 27] [27] Tryz.func11 ?_
 intro Q g hfin
 unfold law_ownTablet at hF
 refine LR0 ?_
 obtain ⟨x,h0,hF⟩:=oE hF
 refine RJ (.c (law_ownDisk_ok h0) .z) ?_
 obtain ⟨x1,h1,hF⟩:=oE hF
 refine RJ (.c (law_ownBodies_v1_ok h1) .z) ?_
 refine LR0 ?_
 cases hF
 exact Wz [] hfin

/- tabularylaw.ownCells -/
/- tabularylaw.ownCells -/
def ze7 (l:List Cell):Option (List Cell):=
 zaq ((l.length:Int)*64≤140737488351232) <|
 some l
theorem law_ownCells_v1_ok {l r} (hF:ze7 l=some r):Pe Tryz.prog 12 S.none [.sl 5 (l.map zac)] (.sl 5 (r.map zac)) S.none:=by
 refine PT 5 [.tmp 2] [28] Tryz.func12 ?_
 intro Q g hfin
 unfold ze7 at hF
 refine LR0 ?_
 obtain ⟨h0,hF⟩:=aE hF
 refine RJ (.p0 zac h0 .z) ?_
 cases hF
 exact Wz [] hfin

/- tablet.Sync$1 -/
def tablet_Sync_1 (box:List UInt8) (box1:Int) (box2:List (List UInt8)) (box3 box4 box5:Int) (row:List Note) (row1:List Cell) (row2:List (List Cell)):Fault×List UInt8×Int×List (List UInt8)×Int×Int×Int:=
 ((⟨0,0⟩:Fault),box,(box.length:Int),box2,box3,box4,box5)
theorem tablet_Sync_1_ok (rk rc:Nat) (rn:Bool) (rk1 rc1:Nat) (rn1:Bool) (rk2 rc2:Nat) (rn2:Bool) {box box1 box2 box3 box4 box5 row row1 row2 r} (hF:tablet_Sync_1 box box1 box2 box3 box4 box5 row row1 row2=r):Pe Tryz.prog 69 ⟨[],[(100000,[.sl 1 (box.map zan),.i box1,.sl 1 (box2.map zag),.i box3,.i box4,.row 100000 0,.i box5,.row 100001 0,.row 100002 0])],[(100000,.q 50 2 0 rk rc rn (row.map zak)),(100001,.q 53 5 0 rk1 rc1 rn1 (row1.map zac)),(100002,.q 28 1 0 rk2 rc2 rn2 (row2.map zas))],[],[]⟩ [.ptr 100000 0] (.agg (zad r.1)) ⟨[],[(100000,[.sl 1 (r.2.1.map zan),.i r.2.2.1,.sl 1 (r.2.2.2.1.map zag),.i r.2.2.2.2.1,.i r.2.2.2.2.2.1,.row 100000 0,.i r.2.2.2.2.2.2,.row 100001 0,.row 100002 0])],[(100000,.q 50 2 0 rk rc rn (row.map zak)),(100001,.q 53 5 0 rk1 rc1 rn1 (row1.map zac)),(100002,.q 28 1 0 rk2 rc2 rn2 (row2.map zas))],[],[]⟩:=by
 refine PT 16 [.cell 2 35] [35] Tryz.func69 ?_
 intro Q g hfin
 unfold tablet_Sync_1 at hF
 refine LR0 ?_
 refine RJ (.l zan box .z) ?_
 refine LR0 ?_
 cases hF
 exact Wz [] hfin

/- tablet.with -/
def tablet_with_v3 (t0:Tablet):Option (List UInt8×Int×List (List UInt8)×Int×Int×Fault):=
 ob (tablet_load t0) fun x=>
 sm x (fun (x:Fault)=>
  if (!decide (x.Code=0))=true then
   some (([]:List UInt8),0,([]:List (List UInt8)),0,0,x)
  else
   none) (fun (x:List UInt8×Int×List (List UInt8)×Int×Int×List Note×Int×List Cell×List (List Cell)×Fault)=>
  if (!decide (x.2.2.2.2.2.2.2.2.2.Code=0))=true then
   some (([]:List UInt8),0,([]:List (List UInt8)),0,0,x.2.2.2.2.2.2.2.2.2)
  else
   lt (tablet_Sync_1 x.1 x.2.1 x.2.2.1 x.2.2.2.1 x.2.2.2.2.1 x.2.2.2.2.2.2.1 x.2.2.2.2.2.1 x.2.2.2.2.2.2.2.1 x.2.2.2.2.2.2.2.2.1) fun x1=>
   if (!decide (x1.1.Code=0))=true then
    some (([]:List UInt8),0,([]:List (List UInt8)),0,0,x1.1)
   else
    ob (tablet_own (⟨(⟨x1.2.1,x1.2.2.1⟩:Disk),x1.2.2.2.1,x1.2.2.2.2.1,x1.2.2.2.2.2.1⟩:Tablet)) fun x2=>
    some (x2.1,x2.2.1,x2.2.2.1,x2.2.2.2.1,x2.2.2.2.2,x1.1))
theorem tablet_with_v3_ok {t0 r} (hF:tablet_with_v3 t0=some r):Pe Tryz.prog 62 (.w []) [.agg (zae t0),.fn 69 []] (.tup [.agg [.row 30 0,.i r.2.1,.row 20030 0,.i r.2.2.2.1,.i r.2.2.2.2.1],.agg (zad r.2.2.2.2.2)]) ⟨[],[],[(30,.o 5 1 0 (r.1.map zan)),(20030,.o 22 1 0 (r.2.2.1.map zag))],[],[]⟩:=by
 refine PT 32 [.cell 4 27,.cell 5 35] [27,35] Tryz.func62 ?_
 intro Q g hfin
 unfold tablet_with_v3 at hF
 refine LR0 ?_
 obtain ⟨x,h0,hF⟩:=oE hF
 rcases x with x | x
 ·have hF:=sm_l hF
  refine RJ (.b (tablet_load_okl h0) .z) ?_
  refine LR0 ?_
  refine Nif hF ?_ ?_ <;> intro hb hF
  ·refine VD [] [4,5] [4,5] [] [] [(4,.ptr 4 0),(5,.ptr 5 0)] [(4,[.nils,.i 0,.nils,.i 0,.i 0]),(5,(zad x))] [] [] .nil ?_
   cases hF
   refine zar 4 0 60000 5 1 rfl rfl rfl rfl rfl ?_
   refine zar 4 2 60001 22 1 rfl rfl rfl rfl rfl ?_
   refine zat ⟨[],[(60000,30),(60001,20030)],[],[]⟩ rfl ?_
   exact Wz [(30,⟨0,true,false,false⟩),(20030,⟨0,true,false,false⟩)] hfin
  ·cases hF
 ·have hF:=sm_r hF
  have p1:=(Pe.ren (tablet_load_okr h0) ⟨[(49,10)],[(54,10),(143,20010),(149,40010)],[],[]⟩)
  refine RJ (.e [] [] p1 .z) ?_
  refine LR0 ?_
  refine Nif hF ?_ ?_ <;> intro hb hF
  ·refine VD [] [4,5] [4,5] [] [] [(4,.ptr 4 0),(5,.ptr 5 0)] [(4,[.nils,.i 0,.nils,.i 0,.i 0]),(5,(zad x.2.2.2.2.2.2.2.2.2))] [] [] .nil ?_
   cases hF
   refine zar 4 0 60002 5 1 rfl rfl rfl rfl rfl ?_
   refine zar 4 2 60003 22 1 rfl rfl rfl rfl rfl ?_
   refine zat ⟨[],[(60002,30),(60003,20030)],[],[]⟩ rfl ?_
   exact Wz [(30,⟨0,true,false,false⟩),(20030,⟨0,true,false,false⟩)] hfin
  ·obtain ⟨x1,h2,hF⟩:=lS hF
   have p3:=(Pe.ren (tablet_Sync_1_ok ((x.2.2.2.2.2.1.map zak).length) 0 true ((x.2.2.2.2.2.2.2.1.map zac).length) 0 false 0 0 true h2) ⟨[(100000,10)],[(100000,10),(100001,40010),(100002,20010)],[],[]⟩)
   refine RJ (.e [10] [10,40010,20010] p3 .z) ?_
   refine LR0 ?_
   refine Nif hF ?_ ?_ <;> intro hb hF
   ·refine VD [] [4,5] [4,5] [] [] [(4,.ptr 4 0),(5,.ptr 5 0)] [(4,[.nils,.i 0,.nils,.i 0,.i 0]),(5,(zad x1.1))] [] [] .nil ?_
    cases hF
    refine zar 4 0 60004 5 1 rfl rfl rfl rfl rfl ?_
    refine zar 4 2 60005 22 1 rfl rfl rfl rfl rfl ?_
    refine zat ⟨[],[(60004,30),(60005,20030)],[],[]⟩ rfl ?_
    exact Wz [(30,⟨0,true,false,false⟩),(20030,⟨0,true,false,false⟩)] hfin
   ·obtain ⟨x2,h4,hF⟩:=oE hF
    have p5:=(Pe.ren (tablet_own_ok h4) ⟨[],[(8,30),(13,20030)],[],[]⟩)
    refine DJ (.e [] [] p5 .z) ?_
    cases hF
    exact Wz [] hfin

/- tablet.Sync -/
/- tablet.Sync -/
def tablet_Sync_v1 (t0:Tablet):Option (Tablet×Fault):=
 ob (tablet_with_v3 t0) fun x=>
 some ((⟨(⟨x.1,x.2.1⟩:Disk),x.2.2.1,x.2.2.2.1,x.2.2.2.2.1⟩:Tablet),x.2.2.2.2.2)
theorem tablet_Sync_v1_ok {t0 r} (hF:tablet_Sync_v1 t0=some r):Pe Tryz.prog 14 S.none [.agg (zae t0)] (.tup [.agg (zae r.1),.agg (zad r.2)]) S.none:=by
 refine PT 8 [.cell 2 27,.cell 3 35] [27,35] Tryz.func14 ?_
 intro Q g hfin
 unfold tablet_Sync_v1 at hF
 refine LR0 ?_
 obtain ⟨x,h0,hF⟩:=oE hF
 have p1:=(Pe.ren (tablet_with_v3_ok h0) ⟨[],[(30,5),(20030,20005)],[],[]⟩)
 refine RJ (.e [] [] p1 .z) ?_
 cases hF
 exact Wz [] hfin

/- disk.cut -/
def disk_cut (d:Disk) (num:Int):Option (List UInt8×Int):=
 zaq (0≤num∧num≤(d.Bytes.length:Int)) <|
 ob (zbu (zds d.Bytes num)) fun x=>
 some (x,num)
theorem disk_cut_ok {d num r} (hF:disk_cut d num=some r):Pe Tryz.prog 117 (.w []) [.agg (c_Disk d),.i num] (.agg [.row 9 0,.i r.2]) ⟨[],[],[(9,.o 5 1 0 (r.1.map zan))],[],[]⟩:=by
 refine PT 12 [.cell 4 24] [24] Tryz.func117 ?_
 intro Q g hfin
 unfold disk_cut at hF
 refine LR0 ?_
 obtain ⟨h0,hF⟩:=aE hF
 obtain ⟨x,h1,hF⟩:=oE hF
 have p2:=(Pe.ren (zdq h1) ⟨[],[(5,9)],[],[]⟩)
 refine RJ (.s01 zan h0 (.e [] [] p2 .z)) ?_
 cases hF
 exact Wz [] hfin

end
end G
end Go.Proofs.YticbfakiihfgmaaGreat
