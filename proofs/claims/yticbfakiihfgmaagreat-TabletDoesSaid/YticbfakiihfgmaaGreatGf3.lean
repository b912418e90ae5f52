/- The program's functions as plain functions, and that they are these. Written by a program (dec2.py). -/
import Derived.Test.YticbfakiihfgmaaGreatGf2
namespace Go.Proofs.YticbfakiihfgmaaGreat
open Go Go.Dm
set_option linter.unusedVariables false
set_option linter.unusedSimpArgs false
set_option maxRecDepth 100000
namespace G
noncomputable section
/- disk.Crash -/
def disk_Crash (d:Disk) (num:Int):Option (List UInt8×Int×Fault):=
 lt (disk_Check d) fun x=>
 if (!decide (x.Code=0))=true then
  some (([]:List UInt8),0,x)
 else
  if ((decide (num<0))||(decide ((w64 ((d.Bytes.length:Int) - d.Kept))<num)))=true then
   lt (disk_fault 3 (-1)) fun x1=>
   some (([]:List UInt8),0,x1)
  else
   ob (disk_cut d (w64 (d.Kept+num))) fun x2=>
   some (x2.1,x2.2,(⟨0,0⟩:Fault))
theorem disk_Crash_ok {d num r} (hF:disk_Crash d num=some r):Pe Tryz.prog 71 (.w []) [.agg (c_Disk d),.i num] (.tup [.agg [.row 33 0,.i r.2.1],.agg (zad r.2.2)]) ⟨[],[],[(33,.o 5 1 0 (r.1.map zan))],[],[]⟩:=by
 refine PT 35 [.cell 4 24,.cell 5 35] [24,35] Tryz.func71 ?_
 intro Q g hfin
 unfold disk_Crash at hF
 refine LR0 ?_
 obtain ⟨x,h0,hF⟩:=lS hF
 refine RJ (.b (disk_Check_ok h0) .z) ?_
 refine LR0 ?_
 refine Nif hF ?_ ?_ <;> intro hb hF
 ·refine VD [] [4,5] [4,5] [] [] [(4,.ptr 4 0),(5,.ptr 5 0)] [(4,[.nils,.i 0]),(5,(zad x))] [] [] .nil ?_
  cases hF
  refine zar 4 0 60000 5 1 rfl rfl rfl rfl rfl ?_
  refine zat ⟨[],[(60000,33)],[],[]⟩ rfl ?_
  exact Wz [(33,⟨0,true,false,false⟩)] hfin
 ·refine RJ (.a (.nat (d.Bytes.length:Int)) (.g (fun (_:(!(decide (num<0)))=true)=>(zdv zan d.Bytes)) .z)) ?_
  refine Nif hF ?_ ?_ <;> intro hb hF
  ·obtain ⟨x1,h1,hF⟩:=lS hF
   refine VR [.callB (.agg (zad x1))] [4,5] [4,5] [] [] [(4,.ptr 4 0),(5,.ptr 5 0)] [(4,[.nils,.i 0]),(5,(zad x1))] [] [] (hc (disk_fault_ok h1) .nil) ?_
   cases hF
   refine zar 4 0 60001 5 1 rfl rfl rfl rfl rfl ?_
   refine zat ⟨[],[(60001,33)],[],[]⟩ rfl ?_
   exact Wz [(33,⟨0,true,false,false⟩)] hfin
  ·obtain ⟨x2,h2,hF⟩:=oE hF
   have p3:=(Pe.ren (disk_cut_ok h2) ⟨[],[(9,33)],[],[]⟩)
   refine RJ (.e [] [] p3 .z) ?_
   cases hF
   exact Wz [] hfin

/- tablet.Crash$1 -/
def tablet_Crash_1 (box:Tablet) (box1:Int):Option Fault:=
 ob (disk_Crash box.Log box1) fun x=>
 if (!decide (x.2.2.Code=0))=true then
  some x.2.2
 else
  ob (wal_Notes (⟨x.1,x.2.1⟩:Disk)) fun x1=>
  zaq ((!(decide ((x1.1.length:Int)=0)))=true→0≤w64 ((x1.1.length:Int) - 1)∧w64 ((x1.1.length:Int) - 1)<(x1.1.length:Int)) <|
  zaq ((!(decide ((x1.1.length:Int)=0)))=true→0≤w64 ((x1.1.length:Int) - 1)∧w64 ((x1.1.length:Int) - 1)<(x1.1.length:Int)) <|
  ob (
   if ((decide ((x1.1.length:Int)=0))||(decide (((zaf x1.1 (w64 ((x1.1.length:Int) - 1))).Seq)<box.Done)))=true then
    some ((⟨0,0⟩:Fault),x.2.2,0,box)
   else
    some ((⟨0,0⟩:Fault),x.2.2,x1.2,box)) fun (v:Fault×Fault×Int×Tablet)=>
  none
theorem tablet_Crash_1_ok {box box1 r} (hF:tablet_Crash_1 box box1=some r):Pe Tryz.prog 70 ⟨[],[(100000,(zae box)),(100001,[.i box1])],[],[],[]⟩ [.nilp,.ptr 100000 0,.ptr 100001 0] (.agg (zad r)) ⟨[],[(100000,(zae box)),(100001,[.i box1])],[],[],[]⟩:=by
 refine PT 52 [.cell 4 35] [35] Tryz.func70 ?_
 intro Q g hfin
 unfold tablet_Crash_1 at hF
 refine LR0 ?_
 obtain ⟨x,h0,hF⟩:=oE hF
 have p1:=(Pe.ren (disk_Crash_ok h0) ⟨[],[(33,14)],[],[]⟩)
 refine RJ (.e [] [] p1 .z) ?_
 refine LR0 ?_
 refine Nif hF ?_ ?_ <;> intro hb hF
 ·refine LR0 ?_
  cases hF
  exact Wz [] hfin
 ·obtain ⟨x1,h2,hF⟩:=oE hF
  have p3:=(Pe.ren (wal_Notes_ok h2) ⟨[],[(53,23)],[],[]⟩)
  refine RJ (.e [] [] p3 .z) ?_
  refine RJ (.l zak x1.1 .z) ?_
  obtain ⟨h4,h5,hF⟩:=asrt2 hF
  refine DJ (.g (fun (ga0:(!(decide ((x1.1.length:Int)=0)))=true)=>(ixr_ok zak (h4 ga0))) (.a (.av (zak (zaf x1.1 (w64 ((x1.1.length:Int) - 1))))) (.g (fun (ga0:(!(decide ((x1.1.length:Int)=0)))=true)=>(ldr_ok zak (h5 ga0))) .z))) ?_
  obtain ⟨v,hv,hF⟩:=oE hF
  refine NmT (fun Z=>Z.up [0,4,5,6,8] [4,5,6,100000,100001] [14] [] [(8,.i v.2.2.1)] [(4,(zad v.1)),(6,(zad v.2.1)),(100000,(zae v.2.2.2))] [] []) ?_ ?_
  ·have hF:=hv
   refine Nif hF ?_ ?_ <;> intro hb hF
   ·refine LR0 ?_
    cases hF
    exact met' []
   ·cases hF
    exact met' []
  ·cases hF

/- tablet.Crash$1 -/
def tablet_Crash_1_v1 (box:List UInt8) (box1:Int) (box2:List (List UInt8)) (box3 box4 box5:Int) (box6:Tablet) (box7:Int) (row:List Note) (row1:List Cell) (row2:List (List Cell)):Option (Fault×List UInt8×Int×List (List UInt8)×Int×Int×Int×Tablet):=
 ob (disk_Crash box6.Log box7) fun x=>
 if (!decide (x.2.2.Code=0))=true then
  some (x.2.2,box,box1,box2,box3,box4,box5,box6)
 else
  ob (wal_Notes (⟨x.1,x.2.1⟩:Disk)) fun x1=>
  zaq ((!(decide ((x1.1.length:Int)=0)))=true→0≤w64 ((x1.1.length:Int) - 1)∧w64 ((x1.1.length:Int) - 1)<(x1.1.length:Int)) <|
  zaq ((!(decide ((x1.1.length:Int)=0)))=true→0≤w64 ((x1.1.length:Int) - 1)∧w64 ((x1.1.length:Int) - 1)<(x1.1.length:Int)) <|
  ob (
   if ((decide ((x1.1.length:Int)=0))||(decide (((zaf x1.1 (w64 ((x1.1.length:Int) - 1))).Seq)<box6.Done)))=true then
    some ((⟨0,0⟩:Fault),x.2.2,0,box6)
   else
    some ((⟨0,0⟩:Fault),x.2.2,x1.2,box6)) fun (v:Fault×Fault×Int×Tablet)=>
  zaq (0≤v.2.2.1∧v.2.2.1≤(x.1.length:Int)) <|
  some (v.2.1,(zds x.1 v.2.2.1),v.2.2.1,box2,box3,box4,box5,v.2.2.2)
theorem tablet_Crash_1_v1_ok (rk rc:Nat) (rn:Bool) (rk1 rc1:Nat) (rn1:Bool) (rk2 rc2:Nat) (rn2:Bool) {box box1 box2 box3 box4 box5 box6 box7 row row1 row2 r} (hF:tablet_Crash_1_v1 box box1 box2 box3 box4 box5 box6 box7 row row1 row2=some r):Pe Tryz.prog 70 ⟨[],[(100000,[.sl 1 (box.map zan),.i box1,.sl 1 (box2.map zag),.i box3,.i box4,.row 100000 0,.i box5,.row 100001 0,.row 100002 0]),(100001,(zae box6)),(100002,[.i box7])],[(100000,.q 50 2 0 rk rc rn (row.map zak)),(100001,.q 53 5 0 rk1 rc1 rn1 (row1.map zac)),(100002,.q 28 1 0 rk2 rc2 rn2 (row2.map zas))],[],[]⟩ [.ptr 100000 0,.ptr 100001 0,.ptr 100002 0] (.agg (zad r.1)) ⟨[],[(100000,[.sl 1 (r.2.1.map zan),.i r.2.2.1,.sl 1 (r.2.2.2.1.map zag),.i r.2.2.2.2.1,.i r.2.2.2.2.2.1,.row 100000 0,.i r.2.2.2.2.2.2.1,.row 100001 0,.row 100002 0]),(100001,(zae r.2.2.2.2.2.2.2)),(100002,[.i box7])],[(100000,.q 50 2 0 rk rc rn (row.map zak)),(100001,.q 53 5 0 rk1 rc1 rn1 (row1.map zac)),(100002,.q 28 1 0 rk2 rc2 rn2 (row2.map zas))],[],[]⟩:=by
 refine PT 52 [.cell 4 35] [35] Tryz.func70 ?_
 intro Q g hfin
 unfold tablet_Crash_1_v1 at hF
 refine LR0 ?_
 obtain ⟨x,h0,hF⟩:=oE hF
 have p1:=(Pe.ren (disk_Crash_ok h0) ⟨[],[(33,14)],[],[]⟩)
 refine RJ (.e [] [] p1 .z) ?_
 refine LR0 ?_
 refine Nif hF ?_ ?_ <;> intro hb hF
 ·refine LR0 ?_
  cases hF
  exact Wz [] hfin
 ·obtain ⟨x1,h2,hF⟩:=oE hF
  have p3:=(Pe.ren (wal_Notes_ok h2) ⟨[],[(53,23)],[],[]⟩)
  refine RJ (.e [] [] p3 .z) ?_
  refine RJ (.l zak x1.1 .z) ?_
  obtain ⟨h4,h5,hF⟩:=asrt2 hF
  refine DJ (.g (fun (ga0:(!(decide ((x1.1.length:Int)=0)))=true)=>(ixr_ok zak (h4 ga0))) (.a (.av (zak (zaf x1.1 (w64 ((x1.1.length:Int) - 1))))) (.g (fun (ga0:(!(decide ((x1.1.length:Int)=0)))=true)=>(ldr_ok zak (h5 ga0))) .z))) ?_
  obtain ⟨v,hv,hF⟩:=oE hF
  refine NmT (fun Z=>Z.up [0,4,5,6,8] [4,5,6,100000,100001,100002] [14,100000,100001,100002] [] [(8,.i v.2.2.1)] [(4,(zad v.1)),(6,(zad v.2.1)),(100001,(zae v.2.2.2))] [] []) ?_ ?_
  ·have hF:=hv
   refine Nif hF ?_ ?_ <;> intro hb hF
   ·refine LR0 ?_
    cases hF
    exact met' []
   ·cases hF
    exact met' []
  ·obtain ⟨h6,hF⟩:=aE hF
   refine RJ (.s01 zan h6 .z) ?_
   refine LR0 ?_
   cases hF
   exact Wz [] hfin

/- tablet.with -/
def tablet_with_v4 (t0 box:Tablet) (box1:Int):Option (List UInt8×Int×List (List UInt8)×Int×Int×Fault×Tablet):=
 ob (tablet_load t0) fun x=>
 sm x (fun (x:Fault)=>
  if (!decide (x.Code=0))=true then
   some (([]:List UInt8),0,([]:List (List UInt8)),0,0,x,box)
  else
   ob (tablet_Crash_1 box box1) fun x1=>
   if (!decide (x1.Code=0))=true then
    some (([]:List UInt8),0,([]:List (List UInt8)),0,0,x1,box)
   else
    none) (fun (x:List UInt8×Int×List (List UInt8)×Int×Int×List Note×Int×List Cell×List (List Cell)×Fault)=>
  if (!decide (x.2.2.2.2.2.2.2.2.2.Code=0))=true then
   some (([]:List UInt8),0,([]:List (List UInt8)),0,0,x.2.2.2.2.2.2.2.2.2,box)
  else
   ob (tablet_Crash_1_v1 x.1 x.2.1 x.2.2.1 x.2.2.2.1 x.2.2.2.2.1 x.2.2.2.2.2.2.1 box box1 x.2.2.2.2.2.1 x.2.2.2.2.2.2.2.1 x.2.2.2.2.2.2.2.2.1) fun x1=>
   if (!decide (x1.1.Code=0))=true then
    some (([]:List UInt8),0,([]:List (List UInt8)),0,0,x1.1,x1.2.2.2.2.2.2.2)
   else
    ob (tablet_own (⟨(⟨x1.2.1,x1.2.2.1⟩:Disk),x1.2.2.2.1,x1.2.2.2.2.1,x1.2.2.2.2.2.1⟩:Tablet)) fun x2=>
    some (x2.1,x2.2.1,x2.2.2.1,x2.2.2.2.1,x2.2.2.2.2,x1.1,x1.2.2.2.2.2.2.2))
theorem tablet_with_v4_ok {t0 box box1 r} (hF:tablet_with_v4 t0 box box1=some r):Pe Tryz.prog 62 ⟨[],[(100000,(zae box)),(100001,[.i box1])],[],[],[]⟩ [.agg (zae t0),.fn 70 [.ptr 100000 0,.ptr 100001 0]] (.tup [.agg [.row 30 0,.i r.2.1,.row 20030 0,.i r.2.2.2.1,.i r.2.2.2.2.1],.agg (zad r.2.2.2.2.2.1)]) ⟨[],[(100000,(zae r.2.2.2.2.2.2)),(100001,[.i box1])],[(30,.o 5 1 0 (r.1.map zan)),(20030,.o 22 1 0 (r.2.2.1.map zag))],[],[]⟩:=by
 refine PT 32 [.cell 4 27,.cell 5 35] [27,35] Tryz.func62 ?_
 intro Q g hfin
 unfold tablet_with_v4 at hF
 refine LR0 ?_
 obtain ⟨x,h0,hF⟩:=oE hF
 rcases x with x | x
 ·have hF:=sm_l hF
  refine RJ (.b (tablet_load_okl h0) .z) ?_
  refine LR0 ?_
  refine Nif hF ?_ ?_ <;> intro hb hF
  ·refine VD [] [4,5] [4,5,100000,100001] [] [] [(4,.ptr 4 0),(5,.ptr 5 0)] [(4,[.nils,.i 0,.nils,.i 0,.i 0]),(5,(zad x)),(100000,(zae box)),(100001,[.i box1])] [] [] .nil ?_
   cases hF
   refine zar 4 0 60000 5 1 rfl rfl rfl rfl rfl ?_
   refine zar 4 2 60001 22 1 rfl rfl rfl rfl rfl ?_
   refine zat ⟨[],[(60000,30),(60001,20030)],[],[]⟩ rfl ?_
   exact Wz [(30,⟨0,true,false,false⟩),(20030,⟨0,true,false,false⟩)] hfin
  ·obtain ⟨x1,h1,hF⟩:=oE hF
   refine RJ (.q [100000,100001] [] (Pe.ren (tablet_Crash_1_ok h1) ⟨[],[],[],[]⟩) .z) ?_
   refine LR0 ?_
   refine Nif hF ?_ ?_ <;> intro hb hF
   ·refine VD [] [4,5] [4,5,100000,100001] [] [] [(4,.ptr 4 0),(5,.ptr 5 0)] [(4,[.nils,.i 0,.nils,.i 0,.i 0]),(5,(zad x1)),(100000,(zae box)),(100001,[.i box1])] [] [] .nil ?_
    cases hF
    refine zar 4 0 60002 5 1 rfl rfl rfl rfl rfl ?_
    refine zar 4 2 60003 22 1 rfl rfl rfl rfl rfl ?_
    refine zat ⟨[],[(60002,30),(60003,20030)],[],[]⟩ rfl ?_
    exact Wz [(30,⟨0,true,false,false⟩),(20030,⟨0,true,false,false⟩)] hfin
   ·cases hF
 ·have hF:=sm_r hF
  have p1:=(Pe.ren (tablet_load_okr h0) ⟨[(49,10)],[(54,10),(143,20010),(149,40010)],[],[]⟩)
  refine RJ (.e [] [] p1 .z) ?_
  refine LR0 ?_
  refine Nif hF ?_ ?_ <;> intro hb hF
  ·refine VD [] [4,5] [4,5,100000,100001] [] [] [(4,.ptr 4 0),(5,.ptr 5 0)] [(4,[.nils,.i 0,.nils,.i 0,.i 0]),(5,(zad x.2.2.2.2.2.2.2.2.2)),(100000,(zae box)),(100001,[.i box1])] [] [] .nil ?_
   cases hF
   refine zar 4 0 60004 5 1 rfl rfl rfl rfl rfl ?_
   refine zar 4 2 60005 22 1 rfl rfl rfl rfl rfl ?_
   refine zat ⟨[],[(60004,30),(60005,20030)],[],[]⟩ rfl ?_
   exact Wz [(30,⟨0,true,false,false⟩),(20030,⟨0,true,false,false⟩)] hfin
  ·obtain ⟨x1,h2,hF⟩:=oE hF
   have p3:=(Pe.ren (tablet_Crash_1_v1_ok ((x.2.2.2.2.2.1.map zak).length) 0 true ((x.2.2.2.2.2.2.2.1.map zac).length) 0 false 0 0 true h2) ⟨[(100000,10),(100001,100000),(100002,100001)],[(100000,10),(100001,40010),(100002,20010)],[],[]⟩)
   refine RJ (.e [10,100000,100001] [10,40010,20010] p3 .z) ?_
   refine LR0 ?_
   refine Nif hF ?_ ?_ <;> intro hb hF
   ·refine VD [] [4,5] [4,5,100000,100001] [] [] [(4,.ptr 4 0),(5,.ptr 5 0)] [(4,[.nils,.i 0,.nils,.i 0,.i 0]),(5,(zad x1.1)),(100000,(zae x1.2.2.2.2.2.2.2)),(100001,[.i box1])] [] [] .nil ?_
    cases hF
    refine zar 4 0 60006 5 1 rfl rfl rfl rfl rfl ?_
    refine zar 4 2 60007 22 1 rfl rfl rfl rfl rfl ?_
    refine zat ⟨[],[(60006,30),(60007,20030)],[],[]⟩ rfl ?_
    exact Wz [(30,⟨0,true,false,false⟩),(20030,⟨0,true,false,false⟩)] hfin
   ·obtain ⟨x2,h4,hF⟩:=oE hF
    have p5:=(Pe.ren (tablet_own_ok h4) ⟨[],[(8,30),(13,20030)],[],[]⟩)
    refine DJ (.e [] [] p5 .z) ?_
    cases hF
    exact Wz [] hfin

/- tablet.Crash -/
/- tablet.Crash -/
def tablet_Crash_v1 (t0:Tablet) (num:Int):Option (Tablet×Fault):=
 ob (tablet_with_v4 t0 t0 num) fun x=>
 some ((⟨(⟨x.1,x.2.1⟩:Disk),x.2.2.1,x.2.2.2.1,x.2.2.2.2.1⟩:Tablet),x.2.2.2.2.2.1)
theorem tablet_Crash_v1_ok {t0 num r} (hF:tablet_Crash_v1 t0 num=some r):Pe Tryz.prog 15 S.none [.agg (zae t0),.i num] (.tup [.agg (zae r.1),.agg (zad r.2)]) S.none:=by
 refine PT 11 [.cell 4 27,.cell 5 35] [27,35] Tryz.func15 ?_
 intro Q g hfin
 unfold tablet_Crash_v1 at hF
 refine LR0 ?_
 obtain ⟨x,h0,hF⟩:=oE hF
 have p1:=(Pe.ren (tablet_with_v4_ok h0) ⟨[(100000,2),(100001,3)],[(30,8),(20030,20008)],[],[]⟩)
 refine RJ (.e [2,3] [] p1 .z) ?_
 cases hF
 exact Wz [] hfin

/- tabularyref.F -/
def R_F (code at0:Int):Fault:=
 (⟨code,at0⟩:Fault)
theorem zeh {code at0 r} (hF:R_F code at0=r):Pe Tryz.prog 22 S.none [.i code,.i at0] (.agg (zad r)) S.none:=by
 refine PT 8 [.cell 4 35] [35] Tryz.func22 ?_
 intro Q g hfin
 unfold R_F at hF
 refine LR0 ?_
 refine LR0 ?_
 cases hF
 exact Wz [] hfin

/- tabularyref.DiskFault -/
def R_DiskFault (d:Disk):Fault:=
 if (decide (60000<(d.Bytes.length:Int)))=true then
  lt (R_F 8 0) fun x=>
  x
 else
  if ((decide (d.Kept<0))||(decide ((d.Bytes.length:Int)<d.Kept)))=true then
   lt (R_F 3 0) fun x1=>
   x1
  else
   (⟨0,0⟩:Fault)
theorem R_DiskFault_ok {d r} (hF:R_DiskFault d=r):Pe Tryz.prog 77 S.none [.agg (c_Disk d)] (.agg (zad r)) S.none:=by
 refine PT 21 [.cell 2 35] [35] Tryz.func77 ?_
 intro Q g hfin
 unfold R_DiskFault at hF
 refine LR0 ?_
 refine RJ (.l zan d.Bytes .z) ?_
 refine Nif hF ?_ ?_ <;> intro hb hF
 ·obtain ⟨x,h0,hF⟩:=lS hF
  refine RJ (.b (zeh h0) .z) ?_
  cases hF
  exact Wz [] hfin
 ·refine RJ (.a (.nat (d.Bytes.length:Int)) (.g (fun (_:(!(decide (d.Kept<0)))=true)=>(zdv zan d.Bytes)) .z)) ?_
  refine Nif hF ?_ ?_ <;> intro hb hF
  ·obtain ⟨x1,h1,hF⟩:=lS hF
   refine RJ (.b (zeh h1) .z) ?_
   cases hF
   exact Wz [] hfin
  ·refine LR0 ?_
   cases hF
   exact Wz [] hfin

/- tabularyref.Unframed -/
def R_Unframed_J1 (v:List (List UInt8)×Int):Option (List (List UInt8)×Int):=
 some (v.1,v.2)
def R_Unframed_B1 (b:List UInt8) (v1:List (List UInt8)×Int):Option ((List (List UInt8)×Int)⊕(List (List UInt8)×Int)):=
 if (decide ((w64 (v1.2+6))≤(b.length:Int)))=true then
  zaq (0≤v1.2∧v1.2<(b.length:Int)) <|
  zaq (0≤w64 (v1.2+1)∧w64 (v1.2+1)<(b.length:Int)) <|
  lt (w64 ((w64 ((w64 ((zaf b v1.2).toNat:Int))*256))+(w64 ((zaf b (w64 (v1.2+1))).toNat:Int)))) fun v2=>
  if (decide ((b.length:Int)<(w64 ((w64 (v1.2+6))+v2))))=true then
   zem (R_Unframed_J1 (v1.1,v1.2))
  else
   zaq (0≤w64 (v1.2+2)∧w64 (v1.2+2)≤w64 ((w64 (v1.2+2))+v2)∧w64 ((w64 (v1.2+2))+v2)≤(b.length:Int)) <|
   ob (R_Framed (zdu (zds b (w64 ((w64 (v1.2+2))+v2))) (w64 (v1.2+2)))) fun x=>
   zaq (0≤v1.2∧v1.2≤w64 ((w64 (v1.2+6))+v2)∧w64 ((w64 (v1.2+6))+v2)≤(b.length:Int)) <|
   lt (R_Same x (zdu (zds b (w64 ((w64 (v1.2+6))+v2))) v1.2)) fun x1=>
   if (!x1)=true then
    zem (R_Unframed_J1 (v1.1,v1.2))
   else
    zaq (((zdu (zds b (w64 ((w64 (v1.2+2))+v2))) (w64 (v1.2+2))).length:Int)*1≤140737488351232) <|
    zaq (((v1.1++([(zdu (zds b (w64 ((w64 (v1.2+2))+v2))) (w64 (v1.2+2)))]:List (List UInt8))).length:Int)*24≤140737488351232) <|
    lt ((v1.1++([(zdu (zds b (w64 ((w64 (v1.2+2))+v2))) (w64 (v1.2+2)))]:List (List UInt8)))) fun v3=>
    some (Sum.inl (v3,w64 ((w64 (v1.2+6))+v2)))
 else
  zem (R_Unframed_J1 (v1.1,v1.2))
def R_Unframed_L1 (b:List UInt8) (v0:List (List UInt8)×Int):Option (List (List UInt8)×Int):=
 zbc (fun y=>R_Unframed_B1 b y) v0
def R_Unframed (b:List UInt8):Option (List (List UInt8)×Int):=
 R_Unframed_L1 b (([]:List (List UInt8)),0)
theorem R_Unframed_ok {b r} (hF:R_Unframed b=some r):Pe Tryz.prog 87 (.w []) [.sl 1 (b.map zan)] (.tup [.row 56 0,.i r.2]) ⟨[],[],[(56,.z 22 1 0 (r.1.map zag))],[],[]⟩:=by
 refine PT 63 [.tmp 2,.tmp 3] [25,3] Tryz.func87 ?_
 intro Q g hfin
 unfold R_Unframed at hF
 refine LR0 ?_
 refine LR0 ?_
 refine NR [] [0,4,5] [] [] [(0,.sl 1 (b.map zan)),(4,.nils),(5,.i 0)] .nil ?_
 refine NmQ (fun v=>R_Unframed_J1 v=some r) (fun v=>⟨[(4,.row 56 0),(5,.i v.2)],[],[(56,.z 22 1 0 (v.1.map zag))],[],[]⟩) ?_ ?_
 ·refine zcb ?_
  unfold R_Unframed_L1 at hF
  refine zap 4 60000 22 1 rfl rfl rfl ?_
  refine zci (fs:=[0,4,5]) (bs:=[]) (rs:=[60000]) (ms:=[]) (aa:=[]) (nv:=[]) rfl ?_
  refine zat ⟨[],[(60000,56)],[],[]⟩ rfl ?_
  refine Nitr hF [] (fun v1=>⟨[(0,.sl 1 (b.map zan)),(4,.row 56 0),(5,.i v1.2)],[],[(56,.z 22 1 0 (v1.1.map zag))],[],[]⟩) ?_
  intro n1 v1 y1 hF ih1 dn1
  unfold R_Unframed_B1 at hF
  refine RJ (.l zan b .z) ?_
  refine Nif hF ?_ ?_ <;> intro hb hF
  ·refine zcb ?_
   obtain ⟨h0,h1,hF⟩:=asrt2 hF
   refine NDL (w64 ((w64 ((w64 ((zaf b v1.2).toNat:Int))*256))+(w64 ((zaf b (w64 (v1.2+1))).toNat:Int)))) (fun v2:Int=>([(6,.i v2)],[],[],[])) [.av (zan (zaf b v1.2)),.av (zan (zaf b (w64 (v1.2+1))))] [0,4,5,6] [] [56] [] (hc (idx_ok zan h0) (hc (idx_ok zan h1) .nil)) (fun v2 hv=>?_)
   have hF:=zev hF hv
   refine RJ (.l zan b .z) ?_
   refine Nif hF ?_ ?_ <;> intro hb hF
   ·refine zbv rfl ?_
    have hF:=zaj hF dn1
    exact ze6 (v1.1,v1.2) [] hF
   ·obtain ⟨h2,hF⟩:=aE hF
    refine RJ (.s11 zan h2 .z) ?_
    obtain ⟨x,h3,hF⟩:=oE hF
    have p4:=(Pe.ren (R_Framed_ok h3) ⟨[],[(13,42)],[],[]⟩)
    obtain ⟨h5,hF⟩:=aE hF
    obtain ⟨x1,h6,hF⟩:=lS hF
    refine DJ (.e [] [] p4 (.s11 zan h5 (.b (R_Same_ok h6) .z))) ?_
    refine Nif hF ?_ ?_ <;> intro hb hF
    ·refine zbv rfl ?_
     have hF:=zaj hF dn1
     exact ze6 (v1.1,v1.2) [] hF
    ·obtain ⟨h7,hF⟩:=aE hF
     obtain ⟨h8,hF⟩:=aE hF
     obtain ⟨v3,hv,hF⟩:=lS hF
     refine RJ (.p0 zan h7 (.a (.sealed) (.pN zag hv h8 .z))) ?_
     refine LR0 ?_
     exact Nrnq [(56,⟨0,true,true,false⟩)] hF ih1
  ·refine zbv rfl ?_
   have hF:=zaj hF dn1
   exact ze6 (v1.1,v1.2) [] hF
 ·intro v hF
  unfold R_Unframed_J1 at hF
  refine LR0 ?_
  cases hF
  exact Wz [] hfin

/- tabularyref.Number -/
def R_Number_v1 (num:Int):Option (List UInt8):=
 if (decide (num<128))=true then
  some ([zd1 num]:List UInt8)
 else
  ob (R_Number (w64 (Int.tdiv num 128))) fun x=>
  zaq (((([zd1 (w64 ((Int.tmod num 128)+128))]:List UInt8)++x).length:Int)*1≤140737488351232) <|
  some (([zd1 (w64 ((Int.tmod num 128)+128))]:List UInt8)++x)
theorem R_Number_v1_ok {num r} (hF:R_Number_v1 num=some r):Pe Tryz.prog 84 S.none [.i num] (.sl 1 (r.map zan)) S.none:=by
 refine PT 17 [.tmp 2] [22] Tryz.func84 ?_
 intro Q g hfin
 unfold R_Number_v1 at hF
 refine LR0 ?_
 refine LR0 ?_
 refine Nif hF ?_ ?_ <;> intro hb hF
 ·refine LR0 ?_
  cases hF
  exact Wz [] hfin
 ·obtain ⟨x,h0,hF⟩:=oE hF
  have p1:=(Pe.ren (R_Number_ok h0) ⟨[],[(7,15)],[],[]⟩)
  obtain ⟨h2,hF⟩:=aE hF
  refine RJ (.g (by decide:(128:Int)≠0) (.g (by decide:(128:Int)≠0) (.e [] [] p1 (.p zan h2 .z)))) ?_
  cases hF
  exact Wz [] hfin

/- tabularyref.NumberAt -/
def R_NumberAt_J1 (v:Unit):Option (Int×Int):=
 some (0,0)
def R_NumberAt_J2 (b:List UInt8) (v1 v2:Int):Option (Int⊕(Int×Int)):=
 ob (if (decide (v2≤1000000000))=true then (R_Number_v1 v2) else some default) fun x=>
 zaq ((decide (v2≤1000000000))=true→0≤v1∧v1≤(b.length:Int)) <|
 lt (R_Same x (zds b v1)) fun x1=>
 if ((decide (v2≤1000000000))&&x1)=true then
  some (Sum.inr (v2,v1))
 else
  some (Sum.inl (w64 (v1+1)))
def R_NumberAt_B2 (b:List UInt8) (v1:Int) (v3:Int×Int):Option ((Int×Int)⊕(Int⊕(Int×Int))):=
 if (decide (0≤v3.2))=true then
  zaq (0≤v3.2∧v3.2<(b.length:Int)) <|
  lt (w64 ((w64 (v3.1*128))+(Int.tmod (w64 ((zaf b v3.2).toNat:Int)) 128))) fun v4=>
  some (Sum.inl (v4,w64 (v3.2 - 1)))
 else
  zem (R_NumberAt_J2 b v1 v3.1)
def R_NumberAt_L2 (b:List UInt8) (v1:Int) (v0:Int×Int):Option (Int⊕(Int×Int)):=
 zbc (fun y=>R_NumberAt_B2 b v1 y) v0
def R_NumberAt_B1 (b:List UInt8) (v1:Int):Option (Int⊕(Int×Int)):=
 if ((decide (v1≤5))&&(decide (v1≤(b.length:Int))))=true then
  R_NumberAt_L2 b v1 (0,w64 (v1 - 1))
 else
  zem (R_NumberAt_J1 ())
def R_NumberAt_L1 (b:List UInt8) (v0:Int):Option (Int×Int):=
 zbc (fun y=>R_NumberAt_B1 b y) v0
def R_NumberAt (b:List UInt8):Option (Int×Int):=
 R_NumberAt_L1 b 1
theorem R_NumberAt_ok {b r} (hF:R_NumberAt b=some r):Pe Tryz.prog 125 S.none [.sl 1 (b.map zan)] (.tup [.i r.1,.i r.2]) S.none:=by
 refine PT 44 [.tmp 2,.tmp 3] [3,3] Tryz.func125 ?_
 intro Q g hfin
 unfold R_NumberAt at hF
 refine LR0 ?_
 refine LR0 ?_
 refine NmQ (fun v=>R_NumberAt_J1 v=some r) (fun v=>(.w [])) ?_ ?_
 ·refine zcb ?_
  unfold R_NumberAt_L1 at hF
  refine Nits hF [] (fun Z v1=>Z.up [0,4] [] [] [] [(4,.i v1)] [] [] []) ?_
  intro n1 v1 y1 hF ih1 dn1
  unfold R_NumberAt_B1 at hF
  refine RJ (.a (.nat (b.length:Int)) (.g (fun (_:(decide (v1≤5))=true)=>(zdv zan b)) .z)) ?_
  refine Nif hF ?_ ?_ <;> intro hb hF
  ·refine zcb ?_
   refine LR0 ?_
   refine LR0 ?_
   refine NmS (fun v2=>R_NumberAt_J2 b v1 v2=some y1) (fun Z v2=>Z.up [0,4,5] [] [] [] [(5,.i v2)] [] [] []) ?_ ?_
   ·refine zcb ?_
    unfold R_NumberAt_L2 at hF
    refine Nits hF [] (fun Z v3=>Z.up [0,4,5,6] [] [] [] [(5,.i v3.1),(6,.i v3.2)] [] [] []) ?_
    intro n2 v3 y2 hF ih2 dn2
    unfold R_NumberAt_B2 at hF
    refine LR0 ?_
    refine Nif hF ?_ ?_ <;> intro hb hF
    ·refine zcb ?_
     obtain ⟨h3,hF⟩:=aE hF
     refine NRL (w64 ((w64 (v3.1*128))+(Int.tmod (w64 ((zaf b v3.2).toNat:Int)) 128))) (fun v4:Int=>([(5,.i v4)],[],[],[])) [.av (zan (zaf b v3.2))] [0,4,5,6] [] [] [] (hc (idx_ok zan h3) (hc (by decide:(128:Int)≠0) .nil)) (fun v4 hv=>?_)
     have hF:=zev hF hv
     refine LR0 ?_
     exact Nrnq [] hF ih2
    ·refine zbv rfl ?_
     have hF:=zaj hF dn2
     exact ze6 v3.1 [] hF
   ·intro v2 hF
    unfold R_NumberAt_J2 at hF
    obtain ⟨x,h0,hF⟩:=oE hF
    obtain ⟨h1,hF⟩:=aE hF
    obtain ⟨x1,h2,hF⟩:=lS hF
    refine DJ (.a (.call (.sl 1 (x.map zan))) (.g (fun (ga0:(decide (v2≤1000000000))=true)=>(R_Number_v1_ok (ite_t h0 ga0))) (.a (.xs ((zds b v1).map zan)) (.g (fun (ga0:(decide (v2≤1000000000))=true)=>(sl01_ok zan (h1 ga0))) (.a (.callB (.bool x1)) (.g (fun (ga0:(decide (v2≤1000000000))=true)=>(R_Same_ok h2)) .z)))))) ?_
    refine Nif hF ?_ ?_ <;> intro hb hF
    ·refine LR0 ?_
     have hF:=zc0 hF dn1
     cases hF
     exact Wz [] hfin
    ·refine LR0 ?_
     exact Nrnq [] hF ih1
  ·refine zbv rfl ?_
   have hF:=zaj hF dn1
   exact ze6 () [] hF
 ·intro v hF
  unfold R_NumberAt_J1 at hF
  refine LR0 ?_
  cases hF
  exact Wz [] hfin

/- tabularyref.CellCode -/
def zaw (c:Cell):Int:=
 if ((((decide (c.Row=([]:List UInt8)))||(decide (40<(c.Row.length:Int))))||(decide (40<(c.Col.length:Int))))||(decide (200<(c.Value.length:Int))))=true then
  8
 else
  if ((decide (c.Time<0))||(decide (1000000000<c.Time)))=true then
   3
  else
   if (c.Gone&&(!decide (c.Value=([]:List UInt8))))=true then
    5
   else
    0
theorem R_CellCode_ok {c r} (hF:zaw c=r):Pe Tryz.prog 127 S.none [.agg (c_Cell c)] (.i r) S.none:=by
 refine PT 39 [.tmp 2] [3] Tryz.func127 ?_
 intro Q g hfin
 unfold zaw at hF
 refine LR0 ?_
 refine LR0 ?_
 refine Nif hF ?_ ?_ <;> intro hb hF
 ·refine LR0 ?_
  cases hF
  exact Wz [] hfin
 ·refine LR0 ?_
  refine Nif hF ?_ ?_ <;> intro hb hF
  ·refine LR0 ?_
   cases hF
   exact Wz [] hfin
  ·refine LR0 ?_
   refine Nif hF ?_ ?_ <;> intro hb hF
   ·refine LR0 ?_
    cases hF
    exact Wz [] hfin
   ·refine LR0 ?_
    cases hF
    exact Wz [] hfin

/- tabularyref.CellAt -/
def R_CellAt_J1 (v:Cell×List (List UInt8)×List Int×Int):Option (Cell×Int):=
 zaq (0≤(0:Int)∧0<(v.2.1.length:Int)) <|
 zaq (0≤(0:Int)∧0<(v.2.1.length:Int)) <|
 zaq (0≤(1:Int)∧1<(v.2.1.length:Int)) <|
 zaq (0≤(1:Int)∧1<(v.2.1.length:Int)) <|
 zaq (0≤(0:Int)∧0<(v.2.2.1.length:Int)) <|
 zaq (0≤(0:Int)∧0<(v.2.2.1.length:Int)) <|
 zaq (0≤(1:Int)∧1<(v.2.2.1.length:Int)) <|
 zaq (0≤(1:Int)∧1<(v.2.2.1.length:Int)) <|
 zaq (0≤(2:Int)∧2<(v.2.1.length:Int)) <|
 zaq (0≤(2:Int)∧2<(v.2.1.length:Int)) <|
 zaq (0≤(1:Int)∧1<(v.2.2.1.length:Int)) <|
 zaq (0≤(1:Int)∧1<(v.2.2.1.length:Int)) <|
 lt (zaw (⟨(zaf v.2.1 0),(zaf v.2.1 1),(zaf v.2.2.1 0),decide ((zaf v.2.2.1 1)=1),(zaf v.2.1 2)⟩:Cell)) fun x=>
 if ((decide (1<(zaf v.2.2.1 1)))||(!decide (x=0)))=true then
  some ((⟨([]:List UInt8),([]:List UInt8),0,false,([]:List UInt8)⟩:Cell),0)
 else
  some ((⟨(zaf v.2.1 0),(zaf v.2.1 1),(zaf v.2.2.1 0),decide ((zaf v.2.2.1 1)=1),(zaf v.2.1 2)⟩:Cell),v.2.2.2)
def R_CellAt_J2 (v1:Cell×List (List UInt8)×List Int×Int×Int) (v2:Cell×List (List UInt8)×List Int×Int):Option ((Cell×List (List UInt8)×List Int×Int×Int)⊕(Cell×Int)):=
 some (Sum.inl (v2.1,v2.2.1,v2.2.2.1,v2.2.2.2,w64 (v1.2.2.2.2+1)))
def R_CellAt_B1 (b:List UInt8) (v1:Cell×List (List UInt8)×List Int×Int×Int):Option ((Cell×List (List UInt8)×List Int×Int×Int)⊕(Cell×Int)):=
 if (decide (v1.2.2.2.2<5))=true then
  zaq (0≤v1.2.2.2.1∧v1.2.2.2.1≤(b.length:Int)) <|
  ob (R_NumberAt (zdu b v1.2.2.2.1)) fun x1=>
  if (decide (x1.2=0))=true then
   some (Sum.inr ((⟨([]:List UInt8),([]:List UInt8),0,false,([]:List UInt8)⟩:Cell),0))
  else
   if ((decide (v1.2.2.2.2=2))||(decide (v1.2.2.2.2=3)))=true then
    zaq (((v1.2.2.1++([x1.1]:List Int)).length:Int)*8≤140737488351232) <|
    R_CellAt_J2 v1 (v1.1,v1.2.1,(v1.2.2.1++([x1.1]:List Int)),w64 (v1.2.2.2.1+x1.2))
   else
    if (decide ((w64 ((b.length:Int) - (w64 (v1.2.2.2.1+x1.2))))<x1.1))=true then
     some (Sum.inr ((⟨([]:List UInt8),([]:List UInt8),0,false,([]:List UInt8)⟩:Cell),0))
    else
     zaq (0≤w64 (v1.2.2.2.1+x1.2)∧w64 (v1.2.2.2.1+x1.2)≤w64 ((w64 (v1.2.2.2.1+x1.2))+x1.1)∧w64 ((w64 (v1.2.2.2.1+x1.2))+x1.1)≤(b.length:Int)) <|
     zaq (((v1.2.1++([(zdu (zds b (w64 ((w64 (v1.2.2.2.1+x1.2))+x1.1))) (w64 (v1.2.2.2.1+x1.2)))]:List (List UInt8))).length:Int)*16≤140737488351232) <|
     lt ((v1.2.1++([(zdu (zds b (w64 ((w64 (v1.2.2.2.1+x1.2))+x1.1))) (w64 (v1.2.2.2.1+x1.2)))]:List (List UInt8)))) fun v3=>
     R_CellAt_J2 v1 (v1.1,v3,v1.2.2.1,w64 ((w64 (v1.2.2.2.1+x1.2))+x1.1))
 else
  zem (R_CellAt_J1 (v1.1,v1.2.1,v1.2.2.1,v1.2.2.2.1))
def R_CellAt_L1 (b:List UInt8) (v0:Cell×List (List UInt8)×List Int×Int×Int):Option (Cell×Int):=
 zbc (fun y=>R_CellAt_B1 b y) v0
def R_CellAt (b:List UInt8):Option (Cell×Int):=
 R_CellAt_L1 b ((⟨([]:List UInt8),([]:List UInt8),0,false,([]:List UInt8)⟩:Cell),([]:List (List UInt8)),([]:List Int),0,0)
theorem R_CellAt_ok {b r} (hF:R_CellAt b=some r):Pe Tryz.prog 154 S.none [.sl 1 (b.map zan)] (.tup [.agg (c_Cell r.1),.i r.2]) S.none:=by
 refine PT 87 [.cell 2 53,.tmp 3] [53,3] Tryz.func154 ?_
 intro Q g hfin
 unfold R_CellAt at hF
 refine LR0 ?_
 refine LR0 ?_
 refine LR0 ?_
 refine LR0 ?_
 refine VR [] [0,2,4,5,6,7] [2] [] [] [(0,.sl 1 (b.map zan)),(2,.ptr 2 0),(4,.nils),(5,.nils),(6,.i 0),(7,.i 0)] [(2,[.str [],.str [],.i 0,.bool false,.str []])] [] [] .nil ?_
 refine NmQ (fun v=>R_CellAt_J1 v=some r) (fun v=>⟨[(2,.ptr 2 0),(4,.row 54 0),(5,.row 37 0),(6,.i v.2.2.2)],[(2,(c_Cell v.1))],[(37,.z 3 1 0 (v.2.2.1.map e_i64)),(54,.z 9 1 0 (v.2.1.map zej))],[],[]⟩) ?_ ?_
 ·refine zcb ?_
  unfold R_CellAt_L1 at hF
  refine zap 4 60000 9 1 rfl rfl rfl ?_
  refine zap 5 60001 3 1 rfl rfl rfl ?_
  refine zci (fs:=[0,2,4,5,6,7]) (bs:=[2]) (rs:=[60000,60001]) (ms:=[]) (aa:=[]) (nv:=[]) rfl ?_
  refine zat ⟨[],[(60000,54),(60001,37)],[],[]⟩ rfl ?_
  refine Nitr hF [] (fun v1=>⟨[(0,.sl 1 (b.map zan)),(2,.ptr 2 0),(4,.row 54 0),(5,.row 37 0),(6,.i v1.2.2.2.1),(7,.i v1.2.2.2.2)],[(2,(c_Cell v1.1))],[(37,.z 3 1 0 (v1.2.2.1.map e_i64)),(54,.z 9 1 0 (v1.2.1.map zej))],[],[]⟩) ?_
  intro n1 v1 y1 hF ih1 dn1
  unfold R_CellAt_B1 at hF
  refine LR0 ?_
  refine Nif hF ?_ ?_ <;> intro hb hF
  ·refine NmS (fun v2=>R_CellAt_J2 v1 v2=some y1) (fun Z v2=>Z.up [0,2,4,5,6,7] [2] [37,54] [] [(6,.i v2.2.2.2)] [(2,(c_Cell v2.1))] [(37,.z 3 1 0 (v2.2.2.1.map e_i64)),(54,.z 9 1 0 (v2.2.1.map zej))] []) ?_ ?_
   ·refine zcb ?_
    obtain ⟨h13,hF⟩:=aE hF
    obtain ⟨x1,h14,hF⟩:=oE hF
    refine RJ (.s10 zan h13 (.b (R_NumberAt_ok h14) .z)) ?_
    refine LR0 ?_
    refine Nif hF ?_ ?_ <;> intro hb hF
    ·refine LR0 ?_
     have hF:=zc0 hF dn1
     cases hF
     exact Wz [] hfin
    ·refine LR0 ?_
     refine LR0 ?_
     refine Nif hF ?_ ?_ <;> intro hb hF
     ·obtain ⟨h15,hF⟩:=aE hF
      refine RJ (.a (.sealed) (.p e_i64 h15 .z)) ?_
      refine zbv rfl ?_
      exact ze6 (v1.1,v1.2.1,(v1.2.2.1++([x1.1]:List Int)),w64 (v1.2.2.2.1+x1.2)) [(37,⟨0,true,true,false⟩)] hF
     ·refine RJ (.l zan b .z) ?_
      refine Nif hF ?_ ?_ <;> intro hb hF
      ·refine LR0 ?_
       have hF:=zc0 hF dn1
       cases hF
       exact Wz [] hfin
      ·obtain ⟨h16,hF⟩:=aE hF
       obtain ⟨h17,hF⟩:=aE hF
       obtain ⟨v3,hv,hF⟩:=lS hF
       refine RJ (.s11 zan h16 (.a (.str (zdu (zds b (w64 ((w64 (v1.2.2.2.1+x1.2))+x1.1))) (w64 (v1.2.2.2.1+x1.2)))) (.g (u8s_ok (zdu (zds b (w64 ((w64 (v1.2.2.2.1+x1.2))+x1.1))) (w64 (v1.2.2.2.1+x1.2)))) (.a (.sealed) (.pN zej hv h17 .z))))) ?_
       refine LR0 ?_
       exact ze6 (v1.1,v3,v1.2.2.1,w64 ((w64 (v1.2.2.2.1+x1.2))+x1.1)) [(54,⟨0,true,true,false⟩)] hF
   ·intro v2 hF
    unfold R_CellAt_J2 at hF
    refine LR0 ?_
    exact Nrnq [] hF ih1
  ·refine zbv rfl ?_
   have hF:=zaj hF dn1
   exact ze6 (v1.1,v1.2.1,v1.2.2.1,v1.2.2.2.1) [] hF
 ·intro v hF
  unfold R_CellAt_J1 at hF
  obtain ⟨h0,h1,h2,h3,hF⟩:=asrt4 hF
  obtain ⟨h4,h5,h6,h7,hF⟩:=asrt4 hF
  obtain ⟨h8,h9,hF⟩:=asrt2 hF
  refine DJ (.x zej h0 (.r zej h1 (.x zej h2 (.r zej h3 (.x e_i64 h4 (.r e_i64 h5 (.x e_i64 h6 (.r e_i64 h7 (.x zej h8 (.r zej h9 .z)))))))))) ?_
  obtain ⟨h10,h11,hF⟩:=asrt2 hF
  obtain ⟨x,h12,hF⟩:=lS hF
  refine RJ (.x e_i64 h10 (.r e_i64 h11 (.a (.callB (.i x)) (.g (fun (ga0:(!(decide (1<(zaf v.2.2.1 1))))=true)=>(R_CellCode_ok h12)) .z)))) ?_
  refine Nif hF ?_ ?_ <;> intro hb hF
  ·refine LR0 ?_
   cases hF
   exact Wz [] hfin
  ·refine LR0 ?_
   cases hF
   exact Wz [] hfin

/- tabularyref.Ahead -/
def zb2 (a0 b:Cell):Bool:=
 if (!decide (a0.Row=b.Row))=true then
  Op.bytesLess a0.Row b.Row
 else
  if (!decide (a0.Col=b.Col))=true then
   Op.bytesLess a0.Col b.Col
  else
   decide (b.Time<a0.Time)
theorem R_Ahead_ok {a0 b r} (hF:zb2 a0 b=r):Pe Tryz.prog 128 S.none [.agg (c_Cell a0),.agg (c_Cell b)] (.bool r) S.none:=by
 refine PT 30 [.tmp 4] [4] Tryz.func128 ?_
 intro Q g hfin
 unfold zb2 at hF
 refine LR0 ?_
 refine LR0 ?_
 refine Nif hF ?_ ?_ <;> intro hb hF
 ·refine LR0 ?_
  cases hF
  exact Wz [] hfin
 ·refine LR0 ?_
  refine Nif hF ?_ ?_ <;> intro hb hF
  ·refine LR0 ?_
   cases hF
   exact Wz [] hfin
  ·refine LR0 ?_
   cases hF
   exact Wz [] hfin

/- tabularyref.CellsFault -/
def R_CellsFault_J1 (v:Fault):Option Fault:=
 some (⟨0,0⟩:Fault)
def R_CellsFault_B1 (l:List Cell) (v1:Fault×Int):Option ((Fault×Int)⊕Fault):=
 if (decide (v1.2<(l.length:Int)))=true then
  zaq (0≤v1.2∧v1.2<(l.length:Int)) <|
  lt (zaw (⟨(zaf l v1.2).Row,(zaf l v1.2).Col,(zaf l v1.2).Time,(zaf l v1.2).Gone,(zaf l v1.2).Value⟩:Cell)) fun x1=>
  if (!decide (x1=0))=true then
   lt (R_F x1 v1.2) fun x2=>
   some (Sum.inr x2)
  else
   zaq ((decide (0<v1.2))=true→0≤w64 (v1.2 - 1)∧w64 (v1.2 - 1)<(l.length:Int)) <|
   zaq ((decide (0<v1.2))=true→0≤v1.2∧v1.2<(l.length:Int)) <|
   lt (zb2 (⟨(zaf l (w64 (v1.2 - 1))).Row,(zaf l (w64 (v1.2 - 1))).Col,(zaf l (w64 (v1.2 - 1))).Time,(zaf l (w64 (v1.2 - 1))).Gone,(zaf l (w64 (v1.2 - 1))).Value⟩:Cell) (⟨(zaf l v1.2).Row,(zaf l v1.2).Col,(zaf l v1.2).Time,(zaf l v1.2).Gone,(zaf l v1.2).Value⟩:Cell)) fun x3=>
   if ((decide (0<v1.2))&&(!x3))=true then
    lt (R_F 10 v1.2) fun x4=>
    some (Sum.inr x4)
   else
    some (Sum.inl (v1.1,w64 (v1.2+1)))
 else
  zem (R_CellsFault_J1 v1.1)
def R_CellsFault_L1 (l:List Cell) (v0:Fault×Int):Option Fault:=
 zbc (fun y=>R_CellsFault_B1 l y) v0
def R_CellsFault (l:List Cell):Option Fault:=
 if (decide (1000<(l.length:Int)))=true then
  lt (R_F 2 0) fun x=>
  some x
 else
  R_CellsFault_L1 l ((⟨0,0⟩:Fault),0)
theorem R_CellsFault_ok {l r} (hF:R_CellsFault l=some r):Pe Tryz.prog 82 S.none [.sl 5 (l.map zac)] (.agg (zad r)) S.none:=by
 refine PT 43 [.cell 2 35] [35] Tryz.func82 ?_
 intro Q g hfin
 unfold R_CellsFault at hF
 refine LR0 ?_
 refine RJ (.l zac l .z) ?_
 refine Nif hF ?_ ?_ <;> intro hb hF
 ·obtain ⟨x,h0,hF⟩:=lS hF
  refine RJ (.b (zeh h0) .z) ?_
  cases hF
  exact Wz [] hfin
 ·refine LR0 ?_
  refine NmS (fun v=>R_CellsFault_J1 v=some r) (fun Z v=>Z.up [2] [2] [] [] [] [(2,(zad v))] [] []) ?_ ?_
  ·refine zcb ?_
   unfold R_CellsFault_L1 at hF
   refine Nits hF [] (fun Z v1=>Z.up [0,2,3] [2] [] [] [(3,.i v1.2)] [(2,(zad v1.1))] [] []) ?_
   intro n1 v1 y1 hF ih1 dn1
   unfold R_CellsFault_B1 at hF
   refine RJ (.l zac l .z) ?_
   refine Nif hF ?_ ?_ <;> intro hb hF
   ·refine zcb ?_
    obtain ⟨h1,hF⟩:=aE hF
    obtain ⟨x1,h2,hF⟩:=lS hF
    refine RJ (.i zac h1 (.b (R_CellCode_ok h2) .z)) ?_
    refine LR0 ?_
    refine Nif hF ?_ ?_ <;> intro hb hF
    ·obtain ⟨x2,h3,hF⟩:=lS hF
     refine RJ (.b (zeh h3) .z) ?_
     have hF:=zc0 hF dn1
     cases hF
     exact Wz [] hfin
    ·obtain ⟨h4,hF⟩:=aE hF
     obtain ⟨h5,hF⟩:=aE hF
     obtain ⟨x3,h6,hF⟩:=lS hF
     refine DJ (.a (.av (zac (zaf l (w64 (v1.2 - 1))))) (.g (fun (ga0:(decide (0<v1.2))=true)=>(idx_ok zac (h4 ga0))) (.a (.av (zac (zaf l v1.2))) (.g (fun (ga0:(decide (0<v1.2))=true)=>(idx_ok zac (h5 ga0))) (.a (.callB (.bool x3)) (.g (fun (ga0:(decide (0<v1.2))=true)=>(R_Ahead_ok h6)) .z)))))) ?_
     refine Nif hF ?_ ?_ <;> intro hb hF
     ·obtain ⟨x4,h7,hF⟩:=lS hF
      refine RJ (.b (zeh h7) .z) ?_
      have hF:=zc0 hF dn1
      cases hF
      exact Wz [] hfin
     ·refine LR0 ?_
      exact Nrnq [] hF ih1
   ·refine zbv rfl ?_
    have hF:=zaj hF dn1
    exact ze6 v1.1 [] hF
  ·intro v hF
   unfold R_CellsFault_J1 at hF
   refine LR0 ?_
   cases hF
   exact Wz [] hfin

/- tabularyref.CellsOf -/
def R_CellsOf_J1 (v:Fault×List Cell):Option (List Cell×Fault):=
 ob (R_CellsFault v.2) fun x1=>
 if (!decide (x1.Code=0))=true then
  some (([]:List Cell),x1)
 else
  some (v.2,(⟨0,0⟩:Fault))
def R_CellsOf_B1 (v1:List UInt8×Fault×List Cell):Option ((List UInt8×Fault×List Cell)⊕(List Cell×Fault)):=
 if (decide (0<(v1.1.length:Int)))=true then
  ob (R_CellAt v1.1) fun x2=>
  if (decide (x2.2=0))=true then
   lt (R_F 5 (v1.2.2.length:Int)) fun x3=>
   some (Sum.inr (([]:List Cell),x3))
  else
   zaq (((v1.2.2++[x2.1]).length:Int)*64≤140737488351232) <|
   zaq (0≤x2.2∧x2.2≤(v1.1.length:Int)) <|
   some (Sum.inl ((zdu v1.1 x2.2),v1.2.1,(v1.2.2++[x2.1])))
 else
  zem (R_CellsOf_J1 (v1.2.1,v1.2.2))
def R_CellsOf_L1 (v0:List UInt8×Fault×List Cell):Option (List Cell×Fault):=
 zbc (fun y=>R_CellsOf_B1 y) v0
def R_CellsOf (b:List UInt8):Option (List Cell×Fault):=
 if (decide (60000<(b.length:Int)))=true then
  lt (R_F 8 0) fun x=>
  some (([]:List Cell),x)
 else
  R_CellsOf_L1 (b,(⟨0,0⟩:Fault),([]:List Cell))
theorem R_CellsOf_ok {b r} (hF:R_CellsOf b=some r):Pe Tryz.prog 126 (.w []) [.sl 1 (b.map zan)] (.tup [.row 28 0,.agg (zad r.2)]) ⟨[],[],[(28,.z 53 5 0 (r.1.map zac))],[],[]⟩:=by
 refine PT 40 [.tmp 2,.cell 3 35] [28,35] Tryz.func126 ?_
 intro Q g hfin
 unfold R_CellsOf at hF
 refine LR0 ?_
 refine RJ (.l zan b .z) ?_
 refine Nif hF ?_ ?_ <;> intro hb hF
 ·obtain ⟨x,h0,hF⟩:=lS hF
  refine VR [.callB (.agg (zad x))] [2,3] [3] [] [] [(2,.nils),(3,.ptr 3 0)] [(3,(zad x))] [] [] (hc (zeh h0) .nil) ?_
  cases hF
  refine zap 2 60000 53 5 rfl rfl rfl ?_
  refine zat ⟨[],[(60000,28)],[],[]⟩ rfl ?_
  exact Wz [] hfin
 ·refine VR [] [0,3,4] [3] [] [] [(0,.sl 1 (b.map zan)),(3,.ptr 3 0),(4,.nils)] [(3,[.i 0,.i 0])] [] [] .nil ?_
  refine NmQ (fun v=>R_CellsOf_J1 v=some r) (fun v=>⟨[(3,.ptr 3 0),(4,.row 28 0)],[(3,(zad v.1))],[(28,.z 53 5 0 (v.2.map zac))],[],[]⟩) ?_ ?_
  ·refine zcb ?_
   unfold R_CellsOf_L1 at hF
   refine zap 4 60002 53 5 rfl rfl rfl ?_
   refine zci (fs:=[0,3,4]) (bs:=[3]) (rs:=[60002]) (ms:=[]) (aa:=[]) (nv:=[]) rfl ?_
   refine zat ⟨[],[(60002,28)],[],[]⟩ rfl ?_
   refine Nitr hF [] (fun v1=>⟨[(0,.sl 1 (v1.1.map zan)),(3,.ptr 3 0),(4,.row 28 0)],[(3,(zad v1.2.1))],[(28,.z 53 5 0 (v1.2.2.map zac))],[],[]⟩) ?_
   intro n1 v1 y1 hF ih1 dn1
   unfold R_CellsOf_B1 at hF
   refine RJ (.l zan v1.1 .z) ?_
   refine Nif hF ?_ ?_ <;> intro hb hF
   ·refine zcb ?_
    obtain ⟨x2,h2,hF⟩:=oE hF
    refine RJ (.b (R_CellAt_ok h2) .z) ?_
    refine LR0 ?_
    refine Nif hF ?_ ?_ <;> intro hb hF
    ·obtain ⟨x3,h3,hF⟩:=lS hF
     refine VR [.nat (v1.2.2.length:Int),.callB (.agg (zad x3))] [2,3] [3] [] [] [(2,.nils),(3,.ptr 3 0)] [(3,(zad x3))] [] [] (hc (zdv zac v1.2.2) (hc (zeh h3) .nil)) ?_
     have hF:=zc0 hF dn1
     cases hF
     refine zap 2 60003 53 5 rfl rfl rfl ?_
     refine zat ⟨[],[(60003,28)],[],[]⟩ rfl ?_
     exact Wz [] hfin
    ·obtain ⟨h4,hF⟩:=aE hF
     refine RJ (.a (.sealed) (.p zac h4 .z)) ?_
     obtain ⟨h5,hF⟩:=aE hF
     refine RJ (.s10 zan h5 .z) ?_
     exact Nrnq [(28,⟨0,true,true,false⟩)] hF ih1
   ·refine zbv rfl ?_
    have hF:=zaj hF dn1
    exact ze6 (v1.2.1,v1.2.2) [] hF
  ·intro v hF
   unfold R_CellsOf_J1 at hF
   obtain ⟨x1,h1,hF⟩:=oE hF
   refine RJ (.b (R_CellsFault_ok h1) .z) ?_
   refine LR0 ?_
   refine Nif hF ?_ ?_ <;> intro hb hF
   ·refine VD [] [2,3] [3] [] [] [(2,.nils),(3,.ptr 3 0)] [(3,(zad x1))] [] [] .nil ?_
    cases hF
    refine zap 2 60001 53 5 rfl rfl rfl ?_
    refine zat ⟨[],[(60001,28)],[],[]⟩ rfl ?_
    exact Wz [] hfin
   ·refine LR0 ?_
    cases hF
    exact Wz [] hfin

/- tabularyref.NoteFault -/
def R_NoteFault (num:Note):Option Fault:=
 if ((decide (num.Seq<1))||(decide (1000000000<num.Seq)))=true then
  lt (R_F 3 (-1)) fun x=>
  some x
 else
  if ((decide ((num.Cells.length:Int)=0))||(decide (20<(num.Cells.length:Int))))=true then
   lt (R_F 2 (-1)) fun x1=>
   some x1
  else
   ob (R_CellsFault num.Cells) fun x2=>
   some x2
theorem R_NoteFault_ok {num r} (hF:R_NoteFault num=some r):Pe Tryz.prog 21 S.none [.agg (c_Note num)] (.agg (zad r)) S.none:=by
 refine PT 26 [.cell 2 35] [35] Tryz.func21 ?_
 intro Q g hfin
 unfold R_NoteFault at hF
 refine LR0 ?_
 refine LR0 ?_
 refine Nif hF ?_ ?_ <;> intro hb hF
 ·obtain ⟨x,h0,hF⟩:=lS hF
  refine RJ (.b (zeh h0) .z) ?_
  cases hF
  exact Wz [] hfin
 ·refine RJ (.l zac num.Cells (.a (.nat (num.Cells.length:Int)) (.g (fun (_:(!(decide ((num.Cells.length:Int)=0)))=true)=>(zdv zac num.Cells)) .z))) ?_
  refine Nif hF ?_ ?_ <;> intro hb hF
  ·obtain ⟨x1,h1,hF⟩:=lS hF
   refine RJ (.b (zeh h1) .z) ?_
   cases hF
   exact Wz [] hfin
  ·obtain ⟨x2,h2,hF⟩:=oE hF
   refine RJ (.b (R_CellsFault_ok h2) .z) ?_
   cases hF
   exact Wz [] hfin

/- tabularyref.NoteOf -/
def R_NoteOf (b:List UInt8):Option (Int×List Cell×Fault):=
 if (decide (60000<(b.length:Int)))=true then
  lt (R_F 8 0) fun x=>
  some (0,([]:List Cell),x)
 else
  ob (R_NumberAt b) fun x1=>
  if (decide (x1.2=0))=true then
   lt (R_F 5 (-1)) fun x2=>
   some (0,([]:List Cell),x2)
  else
   zaq (0≤x1.2∧x1.2≤(b.length:Int)) <|
   ob (R_CellsOf (zdu b x1.2)) fun x3=>
   if (!decide (x3.2.Code=0))=true then
    some (0,([]:List Cell),x3.2)
   else
    ob (R_NoteFault (⟨x1.1,x3.1⟩:Note)) fun x4=>
    if (!decide (x4.Code=0))=true then
     some (0,([]:List Cell),x4)
    else
     some (x1.1,x3.1,(⟨0,0⟩:Fault))
theorem R_NoteOf_ok {b r} (hF:R_NoteOf b=some r):Pe Tryz.prog 88 (.w []) [.sl 1 (b.map zan)] (.tup [.agg [.i r.1,.row 27 0],.agg (zad r.2.2)]) ⟨[],[],[(27,.z 53 5 0 (r.2.1.map zac))],[],[]⟩:=by
 refine PT 47 [.cell 2 50,.cell 3 35] [50,35] Tryz.func88 ?_
 intro Q g hfin
 unfold R_NoteOf at hF
 refine LR0 ?_
 refine RJ (.l zan b .z) ?_
 refine Nif hF ?_ ?_ <;> intro hb hF
 ·obtain ⟨x,h0,hF⟩:=lS hF
  refine VR [.callB (.agg (zad x))] [2,3] [2,3] [] [] [(2,.ptr 2 0),(3,.ptr 3 0)] [(2,[.i 0,.nils]),(3,(zad x))] [] [] (hc (zeh h0) .nil) ?_
  cases hF
  refine zar 2 1 60000 53 5 rfl rfl rfl rfl rfl ?_
  refine zat ⟨[],[(60000,27)],[],[]⟩ rfl ?_
  exact Wz [] hfin
 ·obtain ⟨x1,h1,hF⟩:=oE hF
  refine RJ (.b (R_NumberAt_ok h1) .z) ?_
  refine LR0 ?_
  refine Nif hF ?_ ?_ <;> intro hb hF
  ·obtain ⟨x2,h2,hF⟩:=lS hF
   refine VR [.callB (.agg (zad x2))] [2,3] [2,3] [] [] [(2,.ptr 2 0),(3,.ptr 3 0)] [(2,[.i 0,.nils]),(3,(zad x2))] [] [] (hc (zeh h2) .nil) ?_
   cases hF
   refine zar 2 1 60001 53 5 rfl rfl rfl rfl rfl ?_
   refine zat ⟨[],[(60001,27)],[],[]⟩ rfl ?_
   exact Wz [] hfin
  ·obtain ⟨h3,hF⟩:=aE hF
   obtain ⟨x3,h4,hF⟩:=oE hF
   have p5:=(Pe.ren (R_CellsOf_ok h4) ⟨[],[(28,27)],[],[]⟩)
   refine RJ (.s10 zan h3 (.e [] [] p5 .z)) ?_
   refine LR0 ?_
   refine Nif hF ?_ ?_ <;> intro hb hF
   ·refine VD [] [2,3] [2,3] [] [] [(2,.ptr 2 0),(3,.ptr 3 0)] [(2,[.i 0,.nils]),(3,(zad x3.2))] [] [] .nil ?_
    cases hF
    refine zar 2 1 60002 53 5 rfl rfl rfl rfl rfl ?_
    refine zat ⟨[],[(60002,27)],[],[]⟩ rfl ?_
    exact Wz [] hfin
   ·refine LR0 ?_
    obtain ⟨x4,h6,hF⟩:=oE hF
    refine RJ (.b (R_NoteFault_ok h6) .z) ?_
    refine LR0 ?_
    refine Nif hF ?_ ?_ <;> intro hb hF
    ·refine VD [] [2,3] [2,3] [] [] [(2,.ptr 2 0),(3,.ptr 3 0)] [(2,[.i 0,.nils]),(3,(zad x4))] [] [] .nil ?_
     cases hF
     refine zar 2 1 60003 53 5 rfl rfl rfl rfl rfl ?_
     refine zat ⟨[],[(60003,27)],[],[]⟩ rfl ?_
     exact Wz [] hfin
    ·refine LR0 ?_
     cases hF
     exact Wz [] hfin

/- tabularyref.Logged -/
def R_Logged_J1 (v:List Note×Int):Option (List Note×Int):=
 some (v.1,v.2)
def R_Logged_B1 (x:List (List UInt8)×Int) (v1:List Note×Int×Int):Option ((List Note×Int×Int)⊕(List Note×Int)):=
 if (decide (v1.2.2<(x.1.length:Int)))=true then
  zaq (0≤v1.2.2∧v1.2.2<(x.1.length:Int)) <|
  zaq (0≤v1.2.2∧v1.2.2<(x.1.length:Int)) <|
  ob (R_NoteOf (zaf x.1 v1.2.2)) fun x1=>
  zaq ((decide (0<v1.2.2))=true→(!(!decide (x1.2.2.Code=0)))=true→0≤w64 (v1.2.2 - 1)∧w64 (v1.2.2 - 1)<(v1.1.length:Int)) <|
  zaq ((decide (0<v1.2.2))=true→(!(!decide (x1.2.2.Code=0)))=true→0≤w64 (v1.2.2 - 1)∧w64 (v1.2.2 - 1)<(v1.1.length:Int)) <|
  if ((!decide (x1.2.2.Code=0))||((decide (0<v1.2.2))&&(!decide ((w64 (x1.1 - 1))=((zaf v1.1 (w64 (v1.2.2 - 1))).Seq)))))=true then
   zem (R_Logged_J1 (v1.1,v1.2.1))
  else
   zaq (((v1.1++[(⟨x1.1,x1.2.1⟩:Note)]).length:Int)*32≤140737488351232) <|
   zaq (0≤v1.2.2∧v1.2.2<(x.1.length:Int)) <|
   zaq (0≤v1.2.2∧v1.2.2<(x.1.length:Int)) <|
   some (Sum.inl ((v1.1++[(⟨x1.1,x1.2.1⟩:Note)]),w64 ((w64 (v1.2.1+6))+((zaf x.1 v1.2.2).length:Int)),w64 (v1.2.2+1)))
 else
  zem (R_Logged_J1 (v1.1,v1.2.1))
def R_Logged_L1 (x:List (List UInt8)×Int) (v0:List Note×Int×Int):Option (List Note×Int):=
 zbc (fun y=>R_Logged_B1 x y) v0
def R_Logged (b:List UInt8):Option (List Note×Int):=
 ob (R_Unframed b) fun x=>
 R_Logged_L1 x (([]:List Note),0,0)
theorem R_Logged_ok {b r} (hF:R_Logged b=some r):Pe Tryz.prog 32 (.w []) [.sl 1 (b.map zan)] (.tup [.row 52 0,.i r.2]) ⟨[],[],[(52,.z 50 2 0 (r.1.map zak))],[],[]⟩:=by
 refine PT 63 [.tmp 2,.tmp 3] [41,3] Tryz.func32 ?_
 intro Q g hfin
 unfold R_Logged at hF
 refine LR0 ?_
 obtain ⟨x,h0,hF⟩:=oE hF
 have p1:=(Pe.ren (R_Unframed_ok h0) ⟨[],[(56,13)],[],[]⟩)
 refine RJ (.e [] [] p1 .z) ?_
 refine LR0 ?_
 refine LR0 ?_
 refine VR [] [4,6,7,8] [] [13] [] [(4,.row 13 0),(6,.nils),(7,.i 0),(8,.i 0)] [] [(13,.z 22 1 0 (x.1.map zag))] [] .nil ?_
 refine NmQ (fun v=>R_Logged_J1 v=some r) (fun v=>⟨[(6,.row 52 0),(7,.i v.2)],[],[(52,.z 50 2 0 (v.1.map zak))],[],[]⟩) ?_ ?_
 ·refine zcb ?_
  unfold R_Logged_L1 at hF
  refine zap 6 60000 50 2 rfl rfl rfl ?_
  refine zci (fs:=[4,6,7,8]) (bs:=[]) (rs:=[13,60000]) (ms:=[]) (aa:=[]) (nv:=[]) rfl ?_
  refine zat ⟨[],[(60000,52)],[],[]⟩ rfl ?_
  refine Nitr hF [] (fun v1=>⟨[(4,.row 13 0),(6,.row 52 0),(7,.i v1.2.1),(8,.i v1.2.2)],[],[(13,.z 22 1 0 (x.1.map zag)),(52,.z 50 2 0 (v1.1.map zak))],[],[]⟩) ?_
  intro n1 v1 y1 hF ih1 dn1
  unfold R_Logged_B1 at hF
  refine RJ (.l zag x.1 .z) ?_
  refine Nif hF ?_ ?_ <;> intro hb hF
  ·refine zcb ?_
   obtain ⟨h2,h3,hF⟩:=asrt2 hF
   obtain ⟨x1,h4,hF⟩:=oE hF
   have p5:=(Pe.ren (R_NoteOf_ok h4) ⟨[],[],[],[]⟩)
   refine RJ (.x zag h2 (.r zag h3 (.e [] [] p5 .z))) ?_
   obtain ⟨h6,h7,hF⟩:=asrt2 hF
   refine DJ (.g (fun (ga0:(decide (0<v1.2.2))=true) (ga1:(!(!decide (x1.2.2.Code=0)))=true)=>(ixr_ok zak (h6 ga0 ga1))) (.a (.av (zak (zaf v1.1 (w64 (v1.2.2 - 1))))) (.g (fun (ga0:(decide (0<v1.2.2))=true) (ga1:(!(!decide (x1.2.2.Code=0)))=true)=>(ldr_ok zak (h7 ga0 ga1))) .z))) ?_
   refine Nif hF ?_ ?_ <;> intro hb hF
   ·refine zbv rfl ?_
    have hF:=zaj hF dn1
    exact ze6 (v1.1,v1.2.1) [] hF
   ·obtain ⟨h8,hF⟩:=aE hF
    refine RJ (.a (.sealed) (.p zak h8 .z)) ?_
    obtain ⟨h9,h10,hF⟩:=asrt2 hF
    refine RJ (.x zag h9 (.r zag h10 (.l zan (zaf x.1 v1.2.2) .z))) ?_
    refine LR0 ?_
    exact Nrnq [(52,⟨0,true,true,false⟩)] hF ih1
  ·refine zbv rfl ?_
   have hF:=zaj hF dn1
   exact ze6 (v1.1,v1.2.1) [] hF
 ·intro v hF
  unfold R_Logged_J1 at hF
  refine LR0 ?_
  cases hF
  exact Wz [] hfin

/- tabularyref.OpenedFile -/
def ze8 (x1:List (List UInt8)×Int) (v1:Fault×List Cell×List Int):Option (List Cell×List Int×Fault):=
 ob (R_CellsFault v1.2.1) fun x4=>
 if ((!decide (x4.Code=0))||(decide (500<(v1.2.1.length:Int))))=true then
  lt (R_F 5 2) fun x5=>
  some (([]:List Cell),([]:List Int),x5)
 else
  ob (R_FilterOf v1.2.1) fun x6=>
  zaq (0≤w64 ((w64 ((x1.1.length:Int) - 2))+1)∧w64 ((w64 ((x1.1.length:Int) - 2))+1)<(x1.1.length:Int)) <|
  zaq (0≤w64 ((w64 ((x1.1.length:Int) - 2))+1)∧w64 ((w64 ((x1.1.length:Int) - 2))+1)<(x1.1.length:Int)) <|
  lt (R_Same x6 (zaf x1.1 (w64 ((w64 ((x1.1.length:Int) - 2))+1)))) fun x7=>
  if (!x7)=true then
   lt (R_F 5 3) fun x8=>
   some (([]:List Cell),([]:List Int),x8)
  else
   some (v1.2.1,v1.2.2,(⟨0,0⟩:Fault))
def R_OpenedFile_B1 (x1:List (List UInt8)×Int) (v:Fault×List UInt8×List (List UInt8)) (v2:Fault×List Cell×List Int×Int):Option ((Fault×List Cell×List Int×Int)⊕(List Cell×List Int×Fault)):=
 if (decide (v2.2.2.2<(w64 ((x1.1.length:Int) - 2))))=true then
  zaq (0≤v2.2.2.2∧v2.2.2.2<(x1.1.length:Int)) <|
  zaq (0≤v2.2.2.2∧v2.2.2.2<(x1.1.length:Int)) <|
  ob (R_CellsOf (zaf x1.1 v2.2.2.2)) fun x9=>
  zaq ((!((!decide (x9.2.Code=0))||(decide ((x9.1.length:Int)=0))))=true→0≤(0:Int)∧0<(x9.1.length:Int)) <|
  zaq ((!((!decide (x9.2.Code=0))||(decide ((x9.1.length:Int)=0))))=true→0≤(0:Int)∧0<(x9.1.length:Int)) <|
  zaq ((!((!decide (x9.2.Code=0))||(decide ((x9.1.length:Int)=0))))=true→0≤v2.2.2.2∧v2.2.2.2<(v.2.2.length:Int)) <|
  zaq ((!((!decide (x9.2.Code=0))||(decide ((x9.1.length:Int)=0))))=true→0≤v2.2.2.2∧v2.2.2.2<(v.2.2.length:Int)) <|
  if (((!decide (x9.2.Code=0))||(decide ((x9.1.length:Int)=0)))||(!decide (((zaf x9.1 0).Row)=(zaf v.2.2 v2.2.2.2))))=true then
   lt (R_F 5 2) fun x10=>
   some (Sum.inr (([]:List Cell),([]:List Int),x10))
  else
   zaq (((v2.2.1++x9.1).length:Int)*64≤140737488351232) <|
   zaq (((v2.2.2.1++([(x9.1.length:Int)]:List Int)).length:Int)*8≤140737488351232) <|
   some (Sum.inl (v2.1,(v2.2.1++x9.1),(v2.2.2.1++([(x9.1.length:Int)]:List Int)),w64 (v2.2.2.2+1)))
 else
  zem (ze8 x1 (v2.1,v2.2.1,v2.2.2.1))
def R_OpenedFile_L1 (x1:List (List UInt8)×Int) (v:Fault×List UInt8×List (List UInt8)) (v0:Fault×List Cell×List Int×Int):Option (List Cell×List Int×Fault):=
 zbc (fun y=>R_OpenedFile_B1 x1 v y) v0
def R_OpenedFile_J1 (x1:List (List UInt8)×Int) (v:Fault×List UInt8×List (List UInt8)):Option (List Cell×List Int×Fault):=
 if (decide (0<(v.2.1.length:Int)))=true then
  lt (R_F 5 1) fun x3=>
  some (([]:List Cell),([]:List Int),x3)
 else
  R_OpenedFile_L1 x1 v (v.1,([]:List Cell),([]:List Int),0)
def zek (x1:List (List UInt8)×Int) (v3:Fault×List UInt8×List (List UInt8)×Int):Option ((Fault×List UInt8×List (List UInt8)×Int)⊕(List Cell×List Int×Fault)):=
 if (decide (v3.2.2.2<(w64 ((x1.1.length:Int) - 2))))=true then
  ob (R_NumberAt v3.2.1) fun x11=>
  if ((decide (x11.2=0))||(decide ((w64 ((v3.2.1.length:Int) - x11.2))<x11.1)))=true then
   lt (R_F 5 1) fun x12=>
   some (Sum.inr (([]:List Cell),([]:List Int),x12))
  else
   zaq (0≤x11.2∧x11.2≤w64 (x11.2+x11.1)∧w64 (x11.2+x11.1)≤(v3.2.1.length:Int)) <|
   zaq (((v3.2.2.1++([(zdu (zds v3.2.1 (w64 (x11.2+x11.1))) x11.2)]:List (List UInt8))).length:Int)*16≤140737488351232) <|
   lt ((v3.2.2.1++([(zdu (zds v3.2.1 (w64 (x11.2+x11.1))) x11.2)]:List (List UInt8)))) fun v4=>
   zaq (0≤w64 (x11.2+x11.1)∧w64 (x11.2+x11.1)≤(v3.2.1.length:Int)) <|
   ob (R_NumberAt (zdu v3.2.1 (w64 (x11.2+x11.1)))) fun x13=>
   zaq ((!(decide (x13.2=0)))=true→0≤v3.2.2.2∧v3.2.2.2<(x1.1.length:Int)) <|
   zaq ((!(decide (x13.2=0)))=true→0≤v3.2.2.2∧v3.2.2.2<(x1.1.length:Int)) <|
   if ((decide (x13.2=0))||(!decide (x13.1=((zaf x1.1 v3.2.2.2).length:Int))))=true then
    lt (R_F 5 1) fun x14=>
    some (Sum.inr (([]:List Cell),([]:List Int),x14))
   else
    zaq (0≤x13.2∧x13.2≤((zdu v3.2.1 (w64 (x11.2+x11.1))).length:Int)) <|
    some (Sum.inl (v3.1,(zdu (zdu v3.2.1 (w64 (x11.2+x11.1))) x13.2),v4,w64 (v3.2.2.2+1)))
 else
  zem (R_OpenedFile_J1 x1 (v3.1,v3.2.1,v3.2.2.1))
def R_OpenedFile_L2 (x1:List (List UInt8)×Int) (v0:Fault×List UInt8×List (List UInt8)×Int):Option (List Cell×List Int×Fault):=
 zbc (fun y=>zek x1 y) v0
def R_OpenedFile (b:List UInt8):Option (List Cell×List Int×Fault):=
 if (decide (60000<(b.length:Int)))=true then
  lt (R_F 8 0) fun x=>
  some (([]:List Cell),([]:List Int),x)
 else
  ob (R_Unframed b) fun x1=>
  zaq ((!((!decide (x1.2=(b.length:Int)))||(decide ((w64 ((x1.1.length:Int) - 2))<0))))=true→0≤w64 ((w64 ((x1.1.length:Int) - 2))+1)∧w64 ((w64 ((x1.1.length:Int) - 2))+1)<(x1.1.length:Int)) <|
  zaq ((!((!decide (x1.2=(b.length:Int)))||(decide ((w64 ((x1.1.length:Int) - 2))<0))))=true→0≤w64 ((w64 ((x1.1.length:Int) - 2))+1)∧w64 ((w64 ((x1.1.length:Int) - 2))+1)<(x1.1.length:Int)) <|
  if (((!decide (x1.2=(b.length:Int)))||(decide ((w64 ((x1.1.length:Int) - 2))<0)))||(decide (((zaf x1.1 (w64 ((w64 ((x1.1.length:Int) - 2))+1))).length:Int)=0)))=true then
   lt (R_F 5 0) fun x2=>
   some (([]:List Cell),([]:List Int),x2)
  else
   zaq (0≤w64 ((x1.1.length:Int) - 2)∧w64 ((x1.1.length:Int) - 2)<(x1.1.length:Int)) <|
   zaq (0≤w64 ((x1.1.length:Int) - 2)∧w64 ((x1.1.length:Int) - 2)<(x1.1.length:Int)) <|
   R_OpenedFile_L2 x1 ((⟨0,0⟩:Fault),(zaf x1.1 (w64 ((x1.1.length:Int) - 2))),([]:List (List UInt8)),0)
theorem R_OpenedFile_ok {b r} (hF:R_OpenedFile b=some r):Pe Tryz.prog 78 (.w []) [.sl 1 (b.map zan)] (.tup [.row 147 0,.row 152 0,.agg (zad r.2.2)]) ⟨[],[],[(147,⟨53,5,0,(r.1.map zac).length,0,true,0,[],(r.1.map zac)⟩),(152,.z 3 1 0 (r.2.1.map e_i64))],[],[]⟩:=by
 refine PT 176 [.tmp 2,.tmp 3,.cell 4 35] [28,117,35] Tryz.func78 ?_
 intro Q g hfin
 unfold R_OpenedFile at hF
 refine LR0 ?_
 refine RJ (.l zan b .z) ?_
 refine Nif hF ?_ ?_ <;> intro hb hF
 ·obtain ⟨x,h0,hF⟩:=lS hF
  refine VR [.callB (.agg (zad x))] [2,3,4] [4] [] [] [(2,.nils),(3,.nils),(4,.ptr 4 0)] [(4,(zad x))] [] [] (hc (zeh h0) .nil) ?_
  cases hF
  refine zap 2 60000 53 5 rfl rfl rfl ?_
  refine zap 3 60001 3 1 rfl rfl rfl ?_
  refine zat ⟨[],[(60000,147),(60001,152)],[],[]⟩ rfl ?_
  exact Wz [(147,⟨0,true,true,true⟩)] hfin
 ·obtain ⟨x1,h1,hF⟩:=oE hF
  have p2:=(Pe.ren (R_Unframed_ok h1) ⟨[],[(56,24)],[],[]⟩)
  refine RJ (.e [] [] p2 .z) ?_
  refine RJ (.l zag x1.1 .z) ?_
  obtain ⟨h3,h4,hF⟩:=asrt2 hF
  refine RJ (.l zan b (.g (fun (ga0:(!((!decide (x1.2=(b.length:Int)))||(decide ((w64 ((x1.1.length:Int) - 2))<0))))=true)=>(ixr_ok zag (h3 ga0))) (.a (.av (zag (zaf x1.1 (w64 ((w64 ((x1.1.length:Int) - 2))+1))))) (.g (fun (ga0:(!((!decide (x1.2=(b.length:Int)))||(decide ((w64 ((x1.1.length:Int) - 2))<0))))=true)=>(ldr_ok zag (h4 ga0))) (.a (.nat ((zaf x1.1 (w64 ((w64 ((x1.1.length:Int) - 2))+1))).length:Int)) (.g (fun (_:(!((!decide (x1.2=(b.length:Int)))||(decide ((w64 ((x1.1.length:Int) - 2))<0))))=true)=>(zdv zan (zaf x1.1 (w64 ((w64 ((x1.1.length:Int) - 2))+1))))) .z)))))) ?_
  refine Nif hF ?_ ?_ <;> intro hb hF
  ·obtain ⟨x2,h5,hF⟩:=lS hF
   refine VR [.callB (.agg (zad x2))] [2,3,4] [4] [] [] [(2,.nils),(3,.nils),(4,.ptr 4 0)] [(4,(zad x2))] [] [] (hc (zeh h5) .nil) ?_
   cases hF
   refine zap 2 60002 53 5 rfl rfl rfl ?_
   refine zap 3 60003 3 1 rfl rfl rfl ?_
   refine zat ⟨[],[(60002,147),(60003,152)],[],[]⟩ rfl ?_
   exact Wz [(147,⟨0,true,true,true⟩)] hfin
  ·obtain ⟨h6,hF⟩:=aE hF
   obtain ⟨h7,hF⟩:=aE hF
   refine RJ (.x zag h6 (.r zag h7 .z)) ?_
   refine LR0 ?_
   refine VR [] [4,5,7,8,9,10] [4] [24] [] [(4,.ptr 4 0),(5,.row 24 0),(7,.i (w64 ((x1.1.length:Int) - 2))),(8,.sl 1 ((zaf x1.1 (w64 ((x1.1.length:Int) - 2))).map zan)),(9,.nils),(10,.i 0)] [(4,[.i 0,.i 0])] [(24,.z 22 1 0 (x1.1.map zag))] [] .nil ?_
   refine NmS (fun v=>R_OpenedFile_J1 x1 v=some r) (fun Z v=>Z.up [4,5,7,8,9] [4] [24,82] [] [(8,.sl 1 (v.2.1.map zan)),(9,.row 82 0)] [(4,(zad v.1))] [(82,.z 9 1 0 (v.2.2.map zej))] []) ?_ ?_
   ·refine zcb ?_
    unfold R_OpenedFile_L2 at hF
    refine zap 9 60014 9 1 rfl rfl rfl ?_
    refine zci (fs:=[4,5,7,8,9,10]) (bs:=[4]) (rs:=[24,60014]) (ms:=[]) (aa:=[]) (nv:=[]) rfl ?_
    refine zat ⟨[],[(60014,82)],[],[]⟩ rfl ?_
    refine Nitr hF [] (fun v3=>⟨[(4,.ptr 4 0),(5,.row 24 0),(7,.i (w64 ((x1.1.length:Int) - 2))),(8,.sl 1 (v3.2.1.map zan)),(9,.row 82 0),(10,.i v3.2.2.2)],[(4,(zad v3.1))],[(24,.z 22 1 0 (x1.1.map zag)),(82,.z 9 1 0 (v3.2.2.1.map zej))],[],[]⟩) ?_
    intro n1 v3 y1 hF ih1 dn1
    unfold zek at hF
    refine LR0 ?_
    refine Nif hF ?_ ?_ <;> intro hb hF
    ·refine zcb ?_
     obtain ⟨x11,h28,hF⟩:=oE hF
     refine RJ (.b (R_NumberAt_ok h28) .z) ?_
     refine RJ (.a (.nat (v3.2.1.length:Int)) (.g (fun (_:(!(decide (x11.2=0)))=true)=>(zdv zan v3.2.1)) .z)) ?_
     refine Nif hF ?_ ?_ <;> intro hb hF
     ·obtain ⟨x12,h29,hF⟩:=lS hF
      refine VR [.callB (.agg (zad x12))] [2,3,4] [4] [] [] [(2,.nils),(3,.nils),(4,.ptr 4 0)] [(4,(zad x12))] [] [] (hc (zeh h29) .nil) ?_
      have hF:=zc0 hF dn1
      cases hF
      refine zap 2 60015 53 5 rfl rfl rfl ?_
      refine zap 3 60016 3 1 rfl rfl rfl ?_
      refine zat ⟨[],[(60015,147),(60016,152)],[],[]⟩ rfl ?_
      exact Wz [(147,⟨0,true,true,true⟩)] hfin
     ·obtain ⟨h30,hF⟩:=aE hF
      obtain ⟨h31,hF⟩:=aE hF
      obtain ⟨v4,hv,hF⟩:=lS hF
      refine RJ (.s11 zan h30 (.a (.str (zdu (zds v3.2.1 (w64 (x11.2+x11.1))) x11.2)) (.g (u8s_ok (zdu (zds v3.2.1 (w64 (x11.2+x11.1))) x11.2)) (.a (.sealed) (.pN zej hv h31 .z))))) ?_
      obtain ⟨h32,hF⟩:=aE hF
      refine RJ (.s10 zan h32 .z) ?_
      obtain ⟨x13,h33,hF⟩:=oE hF
      refine RJ (.b (R_NumberAt_ok h33) .z) ?_
      obtain ⟨h34,h35,hF⟩:=asrt2 hF
      refine RJ (.g (fun (ga0:(!(decide (x13.2=0)))=true)=>(ixr_ok zag (h34 ga0))) (.a (.av (zag (zaf x1.1 v3.2.2.2))) (.g (fun (ga0:(!(decide (x13.2=0)))=true)=>(ldr_ok zag (h35 ga0))) (.a (.nat ((zaf x1.1 v3.2.2.2).length:Int)) (.g (fun (_:(!(decide (x13.2=0)))=true)=>(zdv zan (zaf x1.1 v3.2.2.2))) .z))))) ?_
      refine Nif hF ?_ ?_ <;> intro hb hF
      ·obtain ⟨x14,h36,hF⟩:=lS hF
       refine VR [.callB (.agg (zad x14))] [2,3,4] [4] [] [] [(2,.nils),(3,.nils),(4,.ptr 4 0)] [(4,(zad x14))] [] [] (hc (zeh h36) .nil) ?_
       have hF:=zc0 hF dn1
       cases hF
       refine zap 2 60017 53 5 rfl rfl rfl ?_
       refine zap 3 60018 3 1 rfl rfl rfl ?_
       refine zat ⟨[],[(60017,147),(60018,152)],[],[]⟩ rfl ?_
       exact Wz [(147,⟨0,true,true,true⟩)] hfin
      ·obtain ⟨h37,hF⟩:=aE hF
       refine RJ (.s10 zan h37 .z) ?_
       refine LR0 ?_
       exact Nrnq [(82,⟨0,true,true,false⟩)] hF ih1
    ·refine zbv rfl ?_
     have hF:=zaj hF dn1
     exact ze6 (v3.1,v3.2.1,v3.2.2.1) [] hF
   ·intro v hF
    unfold R_OpenedFile_J1 at hF
    refine RJ (.l zan v.2.1 .z) ?_
    refine Nif hF ?_ ?_ <;> intro hb hF
    ·obtain ⟨x3,h8,hF⟩:=lS hF
     refine VR [.callB (.agg (zad x3))] [2,3,4] [4] [] [] [(2,.nils),(3,.nils),(4,.ptr 4 0)] [(4,(zad x3))] [] [] (hc (zeh h8) .nil) ?_
     cases hF
     refine zap 2 60004 53 5 rfl rfl rfl ?_
     refine zap 3 60005 3 1 rfl rfl rfl ?_
     refine zat ⟨[],[(60004,147),(60005,152)],[],[]⟩ rfl ?_
     exact Wz [(147,⟨0,true,true,true⟩)] hfin
    ·refine LR0 ?_
     refine LR0 ?_
     refine VR [] [4,5,7,9,13,14,15] [4] [24,82] [] [(4,.ptr 4 0),(5,.row 24 0),(7,.i (w64 ((x1.1.length:Int) - 2))),(9,.row 82 0),(13,.nils),(14,.nils),(15,.i 0)] [(4,(zad v.1))] [(24,.z 22 1 0 (x1.1.map zag)),(82,.z 9 1 0 (v.2.2.map zej))] [] .nil ?_
     refine NmS (fun v1=>ze8 x1 v1=some r) (fun Z v1=>Z.up [4,5,7,13,14] [4] [24,147,152] [] [(13,.row 147 0),(14,.row 152 0)] [(4,(zad v1.1))] [(147,.z 53 5 0 (v1.2.1.map zac)),(152,.z 3 1 0 (v1.2.2.map e_i64))] []) ?_ ?_
     ·refine zcb ?_
      unfold R_OpenedFile_L1 at hF
      refine zap 13 60010 53 5 rfl rfl rfl ?_
      refine zap 14 60011 3 1 rfl rfl rfl ?_
      refine zci (fs:=[4,5,7,9,13,14,15]) (bs:=[4]) (rs:=[24,82,60010,60011]) (ms:=[]) (aa:=[]) (nv:=[]) rfl ?_
      refine zat ⟨[],[(60010,147),(60011,152)],[],[]⟩ rfl ?_
      refine Nitr hF [] (fun v2=>⟨[(4,.ptr 4 0),(5,.row 24 0),(7,.i (w64 ((x1.1.length:Int) - 2))),(9,.row 82 0),(13,.row 147 0),(14,.row 152 0),(15,.i v2.2.2.2)],[(4,(zad v2.1))],[(24,.z 22 1 0 (x1.1.map zag)),(82,.z 9 1 0 (v.2.2.map zej)),(147,.z 53 5 0 (v2.2.1.map zac)),(152,.z 3 1 0 (v2.2.2.1.map e_i64))],[],[]⟩) ?_
      intro n1 v2 y1 hF ih1 dn1
      unfold R_OpenedFile_B1 at hF
      refine LR0 ?_
      refine Nif hF ?_ ?_ <;> intro hb hF
      ·refine zcb ?_
       obtain ⟨h17,h18,hF⟩:=asrt2 hF
       obtain ⟨x9,h19,hF⟩:=oE hF
       have p20:=(Pe.ren (R_CellsOf_ok h19) ⟨[],[(28,122)],[],[]⟩)
       refine RJ (.x zag h17 (.r zag h18 (.e [] [] p20 .z))) ?_
       obtain ⟨h21,h22,h23,h24,hF⟩:=asrt4 hF
       refine DJ (.a (.nat (x9.1.length:Int)) (.g (fun (_:(!(!decide (x9.2.Code=0)))=true)=>(zdv zac x9.1)) (.g (fun (ga0:(!((!decide (x9.2.Code=0))||(decide ((x9.1.length:Int)=0))))=true)=>(ixr_ok zac (h21 ga0))) (.a (.av (zac (zaf x9.1 0))) (.g (fun (ga0:(!((!decide (x9.2.Code=0))||(decide ((x9.1.length:Int)=0))))=true)=>(ldr_ok zac (h22 ga0))) (.g (fun (ga0:(!((!decide (x9.2.Code=0))||(decide ((x9.1.length:Int)=0))))=true)=>(ixr_ok zej (h23 ga0))) (.a (.av (zej (zaf v.2.2 v2.2.2.2))) (.g (fun (ga0:(!((!decide (x9.2.Code=0))||(decide ((x9.1.length:Int)=0))))=true)=>(ldr_ok zej (h24 ga0))) .z)))))))) ?_
       refine Nif hF ?_ ?_ <;> intro hb hF
       ·obtain ⟨x10,h25,hF⟩:=lS hF
        refine VR [.callB (.agg (zad x10))] [2,3,4] [4] [] [] [(2,.nils),(3,.nils),(4,.ptr 4 0)] [(4,(zad x10))] [] [] (hc (zeh h25) .nil) ?_
        have hF:=zc0 hF dn1
        cases hF
        refine zap 2 60012 53 5 rfl rfl rfl ?_
        refine zap 3 60013 3 1 rfl rfl rfl ?_
        refine zat ⟨[],[(60012,147),(60013,152)],[],[]⟩ rfl ?_
        exact Wz [(147,⟨0,true,true,true⟩)] hfin
       ·obtain ⟨h26,hF⟩:=aE hF
        refine RJ (.p zac h26 .z) ?_
        obtain ⟨h27,hF⟩:=aE hF
        refine RJ (.l zac x9.1 (.a (.sealed) (.p e_i64 h27 .z))) ?_
        refine LR0 ?_
        exact Nrnq [(147,⟨0,true,true,false⟩),(152,⟨0,true,true,false⟩)] hF ih1
      ·refine zbv rfl ?_
       have hF:=zaj hF dn1
       exact ze6 (v2.1,v2.2.1,v2.2.2.1) [] hF
     ·intro v1 hF
      unfold ze8 at hF
      obtain ⟨x4,h9,hF⟩:=oE hF
      refine RJ (.b (R_CellsFault_ok h9) (.a (.nat (v1.2.1.length:Int)) (.g (fun (_:(!(!decide (x4.Code=0)))=true)=>(zdv zac v1.2.1)) .z))) ?_
      refine Nif hF ?_ ?_ <;> intro hb hF
      ·obtain ⟨x5,h10,hF⟩:=lS hF
       refine VR [.callB (.agg (zad x5))] [2,3,4] [4] [] [] [(2,.nils),(3,.nils),(4,.ptr 4 0)] [(4,(zad x5))] [] [] (hc (zeh h10) .nil) ?_
       cases hF
       refine zap 2 60006 53 5 rfl rfl rfl ?_
       refine zap 3 60007 3 1 rfl rfl rfl ?_
       refine zat ⟨[],[(60006,147),(60007,152)],[],[]⟩ rfl ?_
       exact Wz [(147,⟨0,true,true,true⟩)] hfin
      ·obtain ⟨x6,h11,hF⟩:=oE hF
       have p12:=(Pe.ren (R_FilterOf_ok h11) ⟨[],[(46,164)],[],[]⟩)
       obtain ⟨h13,h14,hF⟩:=asrt2 hF
       obtain ⟨x7,h15,hF⟩:=lS hF
       refine DJ (.e [] [] p12 (.x zag h13 (.r zag h14 (.b (R_Same_ok h15) .z)))) ?_
       refine Nif hF ?_ ?_ <;> intro hb hF
       ·obtain ⟨x8,h16,hF⟩:=lS hF
        refine VR [.callB (.agg (zad x8))] [2,3,4] [4] [] [] [(2,.nils),(3,.nils),(4,.ptr 4 0)] [(4,(zad x8))] [] [] (hc (zeh h16) .nil) ?_
        cases hF
        refine zap 2 60008 53 5 rfl rfl rfl ?_
        refine zap 3 60009 3 1 rfl rfl rfl ?_
        refine zat ⟨[],[(60008,147),(60009,152)],[],[]⟩ rfl ?_
        exact Wz [(147,⟨0,true,true,true⟩)] hfin
       ·refine LR0 ?_
        cases hF
        exact Wz [] hfin

/- tabularyref.Above -/
def R_Above_J1 (v:List Note):Option (List Note):=
 some v
def R_Above_B1 (l:List Note) (num:Int) (v1:List Note×Int):Option ((List Note×Int)⊕(List Note)):=
 if (decide (v1.2<(l.length:Int)))=true then
  zaq (0≤v1.2∧v1.2<(l.length:Int)) <|
  ob (
   if (decide (num<((zaf l v1.2).Seq)))=true then
    zaq (0≤v1.2∧v1.2<(l.length:Int)) <|
    zaq (((v1.1++[(⟨(zaf l v1.2).Seq,(zaf l v1.2).Cells⟩:Note)]).length:Int)*32≤140737488351232) <|
    some (v1.1++[(⟨(zaf l v1.2).Seq,(zaf l v1.2).Cells⟩:Note)])
   else
    some v1.1) fun v2=>
  some (Sum.inl (v2,w64 (v1.2+1)))
 else
  zem (R_Above_J1 v1.1)
def R_Above_L1 (l:List Note) (num:Int) (v0:List Note×Int):Option (List Note):=
 zbc (fun y=>R_Above_B1 l num y) v0
def R_Above (l:List Note) (num:Int):Option (List Note):=
 R_Above_L1 l num (([]:List Note),0)
theorem R_Above_ok {l num r} (hF:R_Above l num=some r):Pe Tryz.prog 39 (.w []) [.sl 2 (l.map zak),.i num] (.row 26 0) ⟨[],[],[(26,.z 50 2 0 (r.map zak))],[],[]⟩:=by
 refine PT 28 [.tmp 4] [41] Tryz.func39 ?_
 intro Q g hfin
 unfold R_Above at hF
 refine LR0 ?_
 refine LR0 ?_
 refine NR [] [0,1,5,6] [] [] [(0,.sl 2 (l.map zak)),(1,.i num),(5,.nils),(6,.i 0)] .nil ?_
 refine NmQ (fun v=>R_Above_J1 v=some r) (fun v=>⟨[(5,.row 26 0)],[],[(26,.z 50 2 0 (v.map zak))],[],[]⟩) ?_ ?_
 ·refine zcb ?_
  unfold R_Above_L1 at hF
  refine zap 5 60000 50 2 rfl rfl rfl ?_
  refine zci (fs:=[0,1,5,6]) (bs:=[]) (rs:=[60000]) (ms:=[]) (aa:=[]) (nv:=[]) rfl ?_
  refine zat ⟨[],[(60000,26)],[],[]⟩ rfl ?_
  refine Nitr hF [] (fun v1=>⟨[(0,.sl 2 (l.map zak)),(1,.i num),(5,.row 26 0),(6,.i v1.2)],[],[(26,.z 50 2 0 (v1.1.map zak))],[],[]⟩) ?_
  intro n1 v1 y1 hF ih1 dn1
  unfold R_Above_B1 at hF
  refine RJ (.l zak l .z) ?_
  refine Nif hF ?_ ?_ <;> intro hb hF
  ·refine zcb ?_
   obtain ⟨h0,hF⟩:=aE hF
   refine RJ (.i zak h0 .z) ?_
   obtain ⟨v2,hv,hF⟩:=oE hF
   refine NmT (fun Z=>Z.up [0,1,5,6] [] [26] [] [] [] [(26,.z 50 2 0 (v2.map zak))] []) ?_ ?_
   ·have hF:=hv
    refine Nif hF ?_ ?_ <;> intro hb hF
    ·obtain ⟨h1,hF⟩:=aE hF
     obtain ⟨h2,hF⟩:=aE hF
     refine RJ (.i zak h1 (.a (.sealed) (.p zak h2 .z))) ?_
     cases hF
     exact met' [(26,⟨0,true,true,false⟩)]
    ·cases hF
     exact met' []
   ·refine LR0 ?_
    exact Nrnq [] hF ih1
  ·refine zbv rfl ?_
   have hF:=zaj hF dn1
   exact ze6 v1.1 [] hF
 ·intro v hF
  unfold R_Above_J1 at hF
  refine LR0 ?_
  cases hF
  exact Wz [] hfin

/- tabularyref.PutCell -/
def R_PutCell_J1 (l:List Cell) (v:Cell×Int):Option (List Cell):=
 zaq ((decide (v.2<(l.length:Int)))=true→0≤v.2∧v.2<(l.length:Int)) <|
 lt (zb2 v.1 (⟨(zaf l v.2).Row,(zaf l v.2).Col,(zaf l v.2).Time,(zaf l v.2).Gone,(zaf l v.2).Value⟩:Cell)) fun x=>
 if ((decide (v.2<(l.length:Int)))&&(!x))=true then
  zaq ((l.length:Int)*64≤140737488351232) <|
  zaq (0≤v.2∧v.2<(l.length:Int)) <|
  zaq (0≤v.2∧v.2<(l.length:Int)) <|
  some (lset l v.2 v.1)
 else
  zaq (0≤v.2∧v.2≤(l.length:Int)) <|
  zaq (((zds l v.2).length:Int)*64≤140737488351232) <|
  zaq ((((zds l v.2)++[v.1]).length:Int)*64≤140737488351232) <|
  zaq (0≤v.2∧v.2≤(l.length:Int)) <|
  zaq (((((zds l v.2)++[v.1])++(zdu l v.2)).length:Int)*64≤140737488351232) <|
  some (((zds l v.2)++[v.1])++(zdu l v.2))
def R_PutCell_B1 (l:List Cell) (v1:Cell×Int):Option ((Cell×Int)⊕(List Cell)):=
 zaq ((decide (v1.2<(l.length:Int)))=true→0≤v1.2∧v1.2<(l.length:Int)) <|
 lt (zb2 (⟨(zaf l v1.2).Row,(zaf l v1.2).Col,(zaf l v1.2).Time,(zaf l v1.2).Gone,(zaf l v1.2).Value⟩:Cell) v1.1) fun x1=>
 if ((decide (v1.2<(l.length:Int)))&&x1)=true then
  some (Sum.inl (v1.1,w64 (v1.2+1)))
 else
  zem (R_PutCell_J1 l (v1.1,v1.2))
def R_PutCell_L1 (l:List Cell) (v0:Cell×Int):Option (List Cell):=
 zbc (fun y=>R_PutCell_B1 l y) v0
def R_PutCell (l:List Cell) (c:Cell):Option (List Cell):=
 R_PutCell_L1 l (c,0)
theorem R_PutCell_ok {l c r} (hF:R_PutCell l c=some r):Pe Tryz.prog 86 (.w []) [.sl 5 (l.map zac),.agg (c_Cell c)] (.row 35 0) ⟨[],[],[(35,.z 53 5 0 (r.map zac))],[],[]⟩:=by
 refine PT 52 [.tmp 4] [28] Tryz.func86 ?_
 intro Q g hfin
 unfold R_PutCell at hF
 refine LR0 ?_
 refine LR0 ?_
 refine NmS (fun v=>R_PutCell_J1 l v=some r) (fun Z v=>Z.up [0,3,5] [3] [] [] [(5,.i v.2)] [(3,(c_Cell v.1))] [] []) ?_ ?_
 ·refine zcb ?_
  unfold R_PutCell_L1 at hF
  refine Nits hF [] (fun Z v1=>Z.up [0,3,5] [3] [] [] [(5,.i v1.2)] [(3,(c_Cell v1.1))] [] []) ?_
  intro n1 v1 y1 hF ih1 dn1
  unfold R_PutCell_B1 at hF
  obtain ⟨h10,hF⟩:=aE hF
  obtain ⟨x1,h11,hF⟩:=lS hF
  refine DJ (.l zac l (.a (.av (zac (zaf l v1.2))) (.g (fun (ga0:(decide (v1.2<(l.length:Int)))=true)=>(idx_ok zac (h10 ga0))) (.a (.callB (.bool x1)) (.g (fun (ga0:(decide (v1.2<(l.length:Int)))=true)=>(R_Ahead_ok h11)) .z))))) ?_
  refine Nif hF ?_ ?_ <;> intro hb hF
  ·refine zcb ?_
   refine LR0 ?_
   exact Nrnq [] hF ih1
  ·refine zbv rfl ?_
   have hF:=zaj hF dn1
   exact ze6 (v1.1,v1.2) [] hF
 ·intro v hF
  unfold R_PutCell_J1 at hF
  obtain ⟨h0,hF⟩:=aE hF
  obtain ⟨x,h1,hF⟩:=lS hF
  refine DJ (.l zac l (.a (.av (zac (zaf l v.2))) (.g (fun (ga0:(decide (v.2<(l.length:Int)))=true)=>(idx_ok zac (h0 ga0))) (.a (.callB (.bool x)) (.g (fun (ga0:(decide (v.2<(l.length:Int)))=true)=>(R_Ahead_ok h1)) .z))))) ?_
  refine Nif hF ?_ ?_ <;> intro hb hF
  ·obtain ⟨h2,hF⟩:=aE hF
   refine RJ (.p0 zac h2 .z) ?_
   obtain ⟨h3,h4,hF⟩:=asrt2 hF
   refine RJ (.x zac h3 (.w zac h4 v.1 .z)) ?_
   refine LR0 ?_
   cases hF
   exact Wz [(35,⟨0,true,true,false⟩)] hfin
  ·obtain ⟨h5,hF⟩:=aE hF
   obtain ⟨h6,h7,h8,h9,hF⟩:=asrt4 hF
   refine VD [.xs ((zds l v.2).map zac),.xs ((zds l v.2).map zac),.sealed,.xs (((zds l v.2)++[v.1]).map zac),.xs ((zdu l v.2).map zac),.xs ((((zds l v.2)++[v.1])++(zdu l v.2)).map zac)] [4] [] [44] [] [(4,.row 44 3)] [] [(44,.z 53 5 3 ((((zds l v.2)++[v.1])++(zdu l v.2)).map zac))] [] (hc (sl01_ok zac h5) (hc (app0_ok zac (zds l v.2)) (hc (appl_ok zac h6) (hc (app_ok zac (zds l v.2) [v.1]) (hc (appl_ok zac h7) (hc (sl10_ok zac h8) (hc (app_ok zac ((zds l v.2)++[v.1]) (zdu l v.2)) (hc (appl_ok zac h9) .nil)))))))) ?_
   cases hF
   refine zat ⟨[],[(44,35)],[],[]⟩ rfl ?_
   exact Wz [(35,⟨0,true,true,false⟩)] hfin

/- tabularyref.PutCells -/
def R_PutCells_J1 (v:List Cell):Option (List Cell):=
 some v
def R_PutCells_B1 (m:List Cell) (v1:List Cell×Int):Option ((List Cell×Int)⊕(List Cell)):=
 if (decide (v1.2<(m.length:Int)))=true then
  zaq (0≤v1.2∧v1.2<(m.length:Int)) <|
  ob (R_PutCell v1.1 (⟨(zaf m v1.2).Row,(zaf m v1.2).Col,(zaf m v1.2).Time,(zaf m v1.2).Gone,(zaf m v1.2).Value⟩:Cell)) fun x=>
  some (Sum.inl (x,w64 (v1.2+1)))
 else
  zem (R_PutCells_J1 v1.1)
def R_PutCells_L1 (m:List Cell) (v0:List Cell×Int):Option (List Cell):=
 zbc (fun y=>R_PutCells_B1 m y) v0
def R_PutCells (l m:List Cell):Option (List Cell):=
 R_PutCells_L1 m (l,0)
theorem R_PutCells_ok {l m r} (hF:R_PutCells l m=some r):Pe Tryz.prog 25 S.none [.sl 5 (l.map zac),.sl 5 (m.map zac)] (.sl 5 (r.map zac)) S.none:=by
 refine PT 19 [.tmp 4] [28] Tryz.func25 ?_
 intro Q g hfin
 unfold R_PutCells at hF
 refine LR0 ?_
 refine LR0 ?_
 refine NmQ (fun v=>R_PutCells_J1 v=some r) (fun v=>⟨[(0,.sl 5 (v.map zac))],[],[],[],[]⟩) ?_ ?_
 ·refine zcb ?_
  unfold R_PutCells_L1 at hF
  refine Nits hF [] (fun Z v1=>Z.up [0,1,5] [] [] [] [(0,.sl 5 (v1.1.map zac)),(5,.i v1.2)] [] [] []) ?_
  intro n1 v1 y1 hF ih1 dn1
  unfold R_PutCells_B1 at hF
  refine RJ (.l zac m .z) ?_
  refine Nif hF ?_ ?_ <;> intro hb hF
  ·refine zcb ?_
   obtain ⟨h0,hF⟩:=aE hF
   obtain ⟨x,h1,hF⟩:=oE hF
   have p2:=(Pe.ren (R_PutCell_ok h1) ⟨[],[(35,17)],[],[]⟩)
   refine RJ (.i zac h0 (.e [] [] p2 .z)) ?_
   refine VR [] [0,1,5] [] [17] [] [(0,.row 17 0),(1,.sl 5 (m.map zac)),(5,.i (w64 (v1.2+1)))] [] [(17,.z 53 5 0 (x.map zac))] [] .nil ?_
   refine Wk_sealX [] 0 rfl rfl ?_
   exact Nrnq [] hF ih1
  ·refine zbv rfl ?_
   have hF:=zaj hF dn1
   exact ze6 v1.1 [] hF
 ·intro v hF
  unfold R_PutCells_J1 at hF
  refine LR0 ?_
  cases hF
  exact Wz [] hfin

/- tabularyref.PutNotes -/
def R_PutNotes_J1 (v:List Cell):Option (List Cell):=
 some v
def R_PutNotes_B1 (notes:List Note) (v1:List Cell×Int):Option ((List Cell×Int)⊕(List Cell)):=
 if (decide (v1.2<(notes.length:Int)))=true then
  zaq (0≤v1.2∧v1.2<(notes.length:Int)) <|
  ob (R_PutCells v1.1 ((zaf notes v1.2).Cells)) fun x=>
  some (Sum.inl (x,w64 (v1.2+1)))
 else
  zem (R_PutNotes_J1 v1.1)
def R_PutNotes_L1 (notes:List Note) (v0:List Cell×Int):Option (List Cell):=
 zbc (fun y=>R_PutNotes_B1 notes y) v0
def R_PutNotes (l:List Cell) (notes:List Note):Option (List Cell):=
 R_PutNotes_L1 notes (l,0)
theorem R_PutNotes_ok {l notes r} (hF:R_PutNotes l notes=some r):Pe Tryz.prog 79 S.none [.sl 5 (l.map zac),.sl 2 (notes.map zak)] (.sl 5 (r.map zac)) S.none:=by
 refine PT 20 [.tmp 4] [28] Tryz.func79 ?_
 intro Q g hfin
 unfold R_PutNotes at hF
 refine LR0 ?_
 refine LR0 ?_
 refine NmQ (fun v=>R_PutNotes_J1 v=some r) (fun v=>⟨[(0,.sl 5 (v.map zac))],[],[],[],[]⟩) ?_ ?_
 ·refine zcb ?_
  unfold R_PutNotes_L1 at hF
  refine Nits hF [] (fun Z v1=>Z.up [0,1,5] [] [] [] [(0,.sl 5 (v1.1.map zac)),(5,.i v1.2)] [] [] []) ?_
  intro n1 v1 y1 hF ih1 dn1
  unfold R_PutNotes_B1 at hF
  refine RJ (.l zak notes .z) ?_
  refine Nif hF ?_ ?_ <;> intro hb hF
  ·refine zcb ?_
   obtain ⟨h0,hF⟩:=aE hF
   obtain ⟨x,h1,hF⟩:=oE hF
   refine RJ (.i zak h0 (.c (R_PutCells_ok h1) .z)) ?_
   refine LR0 ?_
   exact Nrnq [] hF ih1
  ·refine zbv rfl ?_
   have hF:=zaj hF dn1
   exact ze6 v1.1 [] hF
 ·intro v hF
  unfold R_PutNotes_J1 at hF
  refine LR0 ?_
  cases hF
  exact Wz [] hfin

/- tabularyref.Together -/
def R_Together_J1 (v:List Cell):Option (List Cell):=
 some v
def R_Together_B1 (l:List (List Cell)) (v1:List Cell×Int):Option ((List Cell×Int)⊕(List Cell)):=
 if (decide (0<v1.2))=true then
  zaq (0≤w64 (v1.2 - 1)∧w64 (v1.2 - 1)<(l.length:Int)) <|
  ob (R_PutCells v1.1 (zaf l (w64 (v1.2 - 1)))) fun x=>
  some (Sum.inl (x,w64 (v1.2 - 1)))
 else
  zem (R_Together_J1 v1.1)
def R_Together_L1 (l:List (List Cell)) (v0:List Cell×Int):Option (List Cell):=
 zbc (fun y=>R_Together_B1 l y) v0
def R_Together (l:List (List Cell)):Option (List Cell):=
 R_Together_L1 l (([]:List Cell),(l.length:Int))
theorem R_Together_ok {l r} (hF:R_Together l=some r):Pe Tryz.prog 53 S.none [.sl 1 (l.map zas)] (.sl 5 (r.map zac)) S.none:=by
 refine PT 19 [.tmp 2] [28] Tryz.func53 ?_
 intro Q g hfin
 unfold R_Together at hF
 refine LR0 ?_
 refine LR0 ?_
 refine NR [.nat (l.length:Int)] [0,3,4] [] [] [(0,.sl 1 (l.map zas)),(3,.nils),(4,.i (l.length:Int))] (hc (zdv zas l) .nil) ?_
 refine NmQ (fun v=>R_Together_J1 v=some r) (fun v=>⟨[(3,.sl 5 (v.map zac))],[],[],[],[]⟩) ?_ ?_
 ·refine zcb ?_
  unfold R_Together_L1 at hF
  refine Wk_coe 3 (.sl 5 (([]:List Cell).map zac)) rfl (.cell rfl (CoeS.nils 5)) ?_
  refine Nitr hF [] (fun v1=>⟨[(0,.sl 1 (l.map zas)),(3,.sl 5 (v1.1.map zac)),(4,.i v1.2)],[],[],[],[]⟩) ?_
  intro n1 v1 y1 hF ih1 dn1
  unfold R_Together_B1 at hF
  refine LR0 ?_
  refine Nif hF ?_ ?_ <;> intro hb hF
  ·refine zcb ?_
   obtain ⟨h0,hF⟩:=aE hF
   obtain ⟨x,h1,hF⟩:=oE hF
   refine RJ (.i zas h0 (.c (R_PutCells_ok h1) .z)) ?_
   refine LR0 ?_
   exact Nrnq [] hF ih1
  ·refine zbv rfl ?_
   have hF:=zaj hF dn1
   exact ze6 v1.1 [] hF
 ·intro v hF
  unfold R_Together_J1 at hF
  refine LR0 ?_
  cases hF
  exact Wz [] hfin

/- tabularyref.Heavy -/
def R_Heavy (x:Inside):Fault:=
 if (decide (500<(x.Mem.length:Int)))=true then
  lt (R_F 9 (-2)) fun x1=>
  x1
 else
  if (decide (1000<(x.All.length:Int)))=true then
   lt (R_F 9 (-1)) fun x2=>
   x2
  else
   (⟨0,0⟩:Fault)
theorem R_Heavy_ok {x r} (hF:R_Heavy x=r):Pe Tryz.prog 26 S.none [.agg (zdj x)] (.agg (zad r)) S.none:=by
 refine PT 14 [.cell 2 35] [35] Tryz.func26 ?_
 intro Q g hfin
 unfold R_Heavy at hF
 refine LR0 ?_
 refine RJ (.l zac x.Mem .z) ?_
 refine Nif hF ?_ ?_ <;> intro hb hF
 ·obtain ⟨x1,h0,hF⟩:=lS hF
  refine RJ (.b (zeh h0) .z) ?_
  cases hF
  exact Wz [] hfin
 ·refine RJ (.l zac x.All .z) ?_
  refine Nif hF ?_ ?_ <;> intro hb hF
  ·obtain ⟨x2,h1,hF⟩:=lS hF
   refine RJ (.b (zeh h1) .z) ?_
   cases hF
   exact Wz [] hfin
  ·refine LR0 ?_
   cases hF
   exact Wz [] hfin

/- tabularyref.InsideOf -/
/- tabularyref.InsideOf -/
def R_InsideOf_v1_J2 (x4:List Note×Int) (v:Tablet×Inside×Fault×Int) (v1:Tablet×Inside×Fault×List (List Cell)):Option (Inside×Fault):=
 ob (R_Above x4.1 v1.1.Done) fun x6=>
 ob (R_PutNotes ([]:List Cell) x6) fun x7=>
 zaq (((([x7]:List (List Cell))++v1.2.2.2).length:Int)*24≤140737488351232) <|
 ob (R_Together (([x7]:List (List Cell))++v1.2.2.2)) fun x8=>
 lt (R_Heavy (⟨x4.1,v.2.2.2,x7,v1.2.2.2,x8⟩:Inside)) fun x9=>
 some ((⟨x4.1,v.2.2.2,x7,v1.2.2.2,x8⟩:Inside),x9)
def R_InsideOf_v1_B1 (x4:List Note×Int) (v:Tablet×Inside×Fault×Int) (v2:Tablet×Inside×Fault×List (List Cell)×Int):Option ((Tablet×Inside×Fault×List (List Cell)×Int)⊕(Inside×Fault)):=
 if (decide (v2.2.2.2.2<(v2.1.Files.length:Int)))=true then
  zaq (0≤v2.2.2.2.2∧v2.2.2.2.2<(v2.1.Files.length:Int)) <|
  ob (R_OpenedFile (zaf v2.1.Files v2.2.2.2.2)) fun x10=>
  if (!decide (x10.2.2.Code=0))=true then
   lt (R_F x10.2.2.Code v2.2.2.2.2) fun x11=>
   some (Sum.inr ((⟨([]:List Note),0,([]:List Cell),([]:List (List Cell)),([]:List Cell)⟩:Inside),x11))
  else
   zaq (((v2.2.2.2.1++([x10.1]:List (List Cell))).length:Int)*24≤140737488351232) <|
   some (Sum.inl (v2.1,v2.2.1,v2.2.2.1,(v2.2.2.2.1++([x10.1]:List (List Cell))),w64 (v2.2.2.2.2+1)))
 else
  zem (R_InsideOf_v1_J2 x4 v (v2.1,v2.2.1,v2.2.2.1,v2.2.2.2.1))
def R_InsideOf_v1_L1 (x4:List Note×Int) (v:Tablet×Inside×Fault×Int) (v0:Tablet×Inside×Fault×List (List Cell)×Int):Option (Inside×Fault):=
 zbc (fun y=>R_InsideOf_v1_B1 x4 v y) v0
def R_InsideOf_v1_J1 (x4:List Note×Int) (v:Tablet×Inside×Fault×Int):Option (Inside×Fault):=
 R_InsideOf_v1_L1 x4 v (v.1,v.2.1,v.2.2.1,([]:List (List Cell)),0)
def R_InsideOf_v1 (t0:Tablet):Option (Inside×Fault):=
 if ((((decide (t0.Done<0))||(decide (1000000000<t0.Done)))||(decide (t0.Since<0)))||(decide (1000000000<t0.Since)))=true then
  lt (R_F 3 0) fun x=>
  some ((⟨([]:List Note),0,([]:List Cell),([]:List (List Cell)),([]:List Cell)⟩:Inside),x)
 else
  if (decide (10<(t0.Files.length:Int)))=true then
   lt (R_F 2 (-1)) fun x1=>
   some ((⟨([]:List Note),0,([]:List Cell),([]:List (List Cell)),([]:List Cell)⟩:Inside),x1)
  else
   lt (R_DiskFault t0.Log) fun x2=>
   if (!decide (x2.Code=0))=true then
    lt (R_F x2.Code (-2)) fun x3=>
    some ((⟨([]:List Note),0,([]:List Cell),([]:List (List Cell)),([]:List Cell)⟩:Inside),x3)
   else
    ob (R_Logged t0.Log.Bytes) fun x4=>
    if (!decide (x4.2=(t0.Log.Bytes.length:Int)))=true then
     lt (R_F 11 (-2)) fun x5=>
     some ((⟨([]:List Note),0,([]:List Cell),([]:List (List Cell)),([]:List Cell)⟩:Inside),x5)
    else
     if (decide (0<(x4.1.length:Int)))=true then
      zaq (0≤w64 ((x4.1.length:Int) - 1)∧w64 ((x4.1.length:Int) - 1)<(x4.1.length:Int)) <|
      zaq (0≤w64 ((x4.1.length:Int) - 1)∧w64 ((x4.1.length:Int) - 1)<(x4.1.length:Int)) <|
      zaq (0≤(0:Int)∧0<(x4.1.length:Int)) <|
      zaq (0≤(0:Int)∧0<(x4.1.length:Int)) <|
      if ((decide (t0.Done<(w64 (((zaf x4.1 0).Seq) - 1))))||(decide (((zaf x4.1 (w64 ((x4.1.length:Int) - 1))).Seq)<t0.Done)))=true then
       lt (R_F 11 (-2)) fun x12=>
       some ((⟨([]:List Note),0,([]:List Cell),([]:List (List Cell)),([]:List Cell)⟩:Inside),x12)
      else
       R_InsideOf_v1_J1 x4 (t0,(⟨([]:List Note),0,([]:List Cell),([]:List (List Cell)),([]:List Cell)⟩:Inside),(⟨0,0⟩:Fault),(zaf x4.1 (w64 ((x4.1.length:Int) - 1))).Seq)
     else
      R_InsideOf_v1_J1 x4 (t0,(⟨([]:List Note),0,([]:List Cell),([]:List (List Cell)),([]:List Cell)⟩:Inside),(⟨0,0⟩:Fault),t0.Done)
theorem R_InsideOf_v1_ok {t0 r} (hF:R_InsideOf_v1 t0=some r):Pe Tryz.prog 18 S.none [.agg (zae t0)] (.tup [.agg (zdj r.1),.agg (zad r.2)]) S.none:=by
 refine PT 143 [.cell 2 44,.cell 3 35] [44,35] Tryz.func18 ?_
 intro Q g hfin
 unfold R_InsideOf_v1 at hF
 refine LR0 ?_
 refine LR0 ?_
 refine Nif hF ?_ ?_ <;> intro hb hF
 ·obtain ⟨x,h0,hF⟩:=lS hF
  refine RJ (.b (zeh h0) .z) ?_
  cases hF
  exact Wz [] hfin
 ·refine RJ (.l zag t0.Files .z) ?_
  refine Nif hF ?_ ?_ <;> intro hb hF
  ·obtain ⟨x1,h1,hF⟩:=lS hF
   refine RJ (.b (zeh h1) .z) ?_
   cases hF
   exact Wz [] hfin
  ·obtain ⟨x2,h2,hF⟩:=lS hF
   refine RJ (.b (R_DiskFault_ok h2) .z) ?_
   refine LR0 ?_
   refine Nif hF ?_ ?_ <;> intro hb hF
   ·obtain ⟨x3,h3,hF⟩:=lS hF
    refine RJ (.b (zeh h3) .z) ?_
    cases hF
    exact Wz [] hfin
   ·obtain ⟨x4,h4,hF⟩:=oE hF
    have p5:=(Pe.ren (R_Logged_ok h4) ⟨[],[],[],[]⟩)
    refine RJ (.e [] [] p5 .z) ?_
    refine RJ (.l zan t0.Log.Bytes .z) ?_
    refine Nif hF ?_ ?_ <;> intro hb hF
    ·obtain ⟨x5,h6,hF⟩:=lS hF
     refine RJ (.b (zeh h6) .z) ?_
     cases hF
     exact Wz [] hfin
    ·refine LR0 ?_
     refine VR [.nat (x4.1.length:Int)] [1,2,3,5,7,69] [1,2,3,7] [52] [] [(1,.ptr 1 0),(2,.ptr 2 0),(3,.ptr 3 0),(5,.row 52 0),(7,.ptr 7 0),(69,.bool (decide (0<(x4.1.length:Int))))] [(1,(zae t0)),(2,[.nils,.i 0,.nils,.nils,.nils]),(3,[.i 0,.i 0]),(7,[.row 52 0,.i t0.Done,.nils,.nils,.nils])] [(52,.z 50 2 0 (x4.1.map zak))] [] (hc (zdv zak x4.1) .nil) ?_
     refine NmS (fun v=>R_InsideOf_v1_J1 x4 v=some r) (fun Z v=>Z.up [1,2,3,5,7] [1,2,3,7] [52] [] [] [(1,(zae v.1)),(2,(zdj v.2.1)),(3,(zad v.2.2.1)),(7,[.row 52 0,.i v.2.2.2,.nils,.nils,.nils])] [] []) ?_ ?_
     ·refine Nif hF ?_ ?_ <;> intro hb hF
      ·obtain ⟨h18,hF⟩:=aE hF
       obtain ⟨h19,hF⟩:=aE hF
       refine RJ (.l zak x4.1 (.x zak h18 (.r zak h19 .z))) ?_
       obtain ⟨h20,h21,hF⟩:=asrt2 hF
       refine VD [.av (zak (zaf x4.1 0))] [1,2,3,5,7,92] [1,2,3,7] [52] [] [(1,.ptr 1 0),(2,.ptr 2 0),(3,.ptr 3 0),(5,.row 52 0),(7,.ptr 7 0),(92,.bool ((decide (t0.Done<(w64 (((zaf x4.1 0).Seq) - 1))))||(decide (((zaf x4.1 (w64 ((x4.1.length:Int) - 1))).Seq)<t0.Done))))] [(1,(zae t0)),(2,[.nils,.i 0,.nils,.nils,.nils]),(3,[.i 0,.i 0]),(7,[.row 52 0,.i ((zaf x4.1 (w64 ((x4.1.length:Int) - 1))).Seq),.nils,.nils,.nils])] [(52,.z 50 2 0 (x4.1.map zak))] [] (hc (ixr_ok zak h20) (hc (ldr_ok zak h21) .nil)) ?_
       refine Nif hF ?_ ?_ <;> intro hb hF
       ·obtain ⟨x12,h22,hF⟩:=lS hF
        refine RJ (.b (zeh h22) .z) ?_
        cases hF
        exact Wz [] hfin
       ·refine Wk_coeB 2 [.sl 2 (([]:List Note).map zak),.i 0,.sl 5 (([]:List Cell).map zac),.sl 1 (([]:List (List Cell)).map zas),.sl 5 (([]:List Cell).map zac)] rfl (.cons (CoeS.nils 2) (.cons (CoeS.refl _) (.cons (CoeS.nils 5) (.cons (CoeS.nils 1) (.cons (CoeS.nils 5) .nil))))) ?_
        exact ze6 (t0,(⟨([]:List Note),0,([]:List Cell),([]:List (List Cell)),([]:List Cell)⟩:Inside),(⟨0,0⟩:Fault),(zaf x4.1 (w64 ((x4.1.length:Int) - 1))).Seq) [] hF
      ·refine Wk_coeB 2 [.sl 2 (([]:List Note).map zak),.i 0,.sl 5 (([]:List Cell).map zac),.sl 1 (([]:List (List Cell)).map zas),.sl 5 (([]:List Cell).map zac)] rfl (.cons (CoeS.nils 2) (.cons (CoeS.refl _) (.cons (CoeS.nils 5) (.cons (CoeS.nils 1) (.cons (CoeS.nils 5) .nil))))) ?_
       exact ze6 (t0,(⟨([]:List Note),0,([]:List Cell),([]:List (List Cell)),([]:List Cell)⟩:Inside),(⟨0,0⟩:Fault),t0.Done) [] hF
     ·intro v hF
      unfold R_InsideOf_v1_J1 at hF
      refine VR [] [1,2,3,5,7,8] [1,2,3,7] [52] [] [(1,.ptr 1 0),(2,.ptr 2 0),(3,.ptr 3 0),(5,.row 52 0),(7,.ptr 7 0),(8,.i 0)] [(1,(zae v.1)),(2,(zdj v.2.1)),(3,(zad v.2.2.1)),(7,[.row 52 0,.i v.2.2.2,.nils,.nils,.nils])] [(52,.z 50 2 0 (x4.1.map zak))] [] .nil ?_
      refine NmS (fun v1=>R_InsideOf_v1_J2 x4 v v1=some r) (fun Z v1=>Z.up [1,2,3,5,7] [1,2,3,7] [52,124] [] [] [(1,(zae v1.1)),(2,(zdj v1.2.1)),(3,(zad v1.2.2.1)),(7,[.row 52 0,.i v.2.2.2,.nils,.row 124 0,.nils])] [(124,.z 28 1 0 (v1.2.2.2.map zas))] []) ?_ ?_
      ·refine zcb ?_
       unfold R_InsideOf_v1_L1 at hF
       refine zar 7 3 60000 28 1 rfl rfl rfl rfl rfl ?_
       refine zci (fs:=[1,2,3,5,7,8]) (bs:=[1,2,3,7]) (rs:=[52,60000]) (ms:=[]) (aa:=[]) (nv:=[]) rfl ?_
       refine zat ⟨[],[(60000,124)],[],[]⟩ rfl ?_
       refine Nitr hF [] (fun v2=>⟨[(1,.ptr 1 0),(2,.ptr 2 0),(3,.ptr 3 0),(5,.row 52 0),(7,.ptr 7 0),(8,.i v2.2.2.2.2)],[(1,(zae v2.1)),(2,(zdj v2.2.1)),(3,(zad v2.2.2.1)),(7,[.row 52 0,.i v.2.2.2,.nils,.row 124 0,.nils])],[(52,.z 50 2 0 (x4.1.map zak)),(124,.z 28 1 0 (v2.2.2.2.1.map zas))],[],[]⟩) ?_
       intro n1 v2 y1 hF ih1 dn1
       unfold R_InsideOf_v1_B1 at hF
       refine RJ (.l zag v2.1.Files .z) ?_
       refine Nif hF ?_ ?_ <;> intro hb hF
       ·refine zcb ?_
        obtain ⟨h13,hF⟩:=aE hF
        obtain ⟨x10,h14,hF⟩:=oE hF
        have p15:=(Pe.ren (R_OpenedFile_ok h14) ⟨[],[(147,108),(152,20108)],[],[]⟩)
        refine RJ (.i zag h13 (.e [] [] p15 .z)) ?_
        refine LR0 ?_
        refine Nif hF ?_ ?_ <;> intro hb hF
        ·obtain ⟨x11,h16,hF⟩:=lS hF
         refine RJ (.b (zeh h16) .z) ?_
         have hF:=zc0 hF dn1
         cases hF
         exact Wz [] hfin
        ·obtain ⟨h17,hF⟩:=aE hF
         refine RJ (.a (.sealed) (.p zas h17 .z)) ?_
         refine LR0 ?_
         exact Nrnq [(124,⟨0,true,true,false⟩)] hF ih1
       ·refine zbv rfl ?_
        have hF:=zaj hF dn1
        exact ze6 (v2.1,v2.2.1,v2.2.2.1,v2.2.2.2.1) [] hF
      ·intro v1 hF
       unfold R_InsideOf_v1_J2 at hF
       obtain ⟨x6,h7,hF⟩:=oE hF
       have p8:=(Pe.ren (R_Above_ok h7) ⟨[],[(26,129)],[],[]⟩)
       obtain ⟨x7,h9,hF⟩:=oE hF
       refine RJ (.e [] [] p8 (.c (R_PutNotes_ok h9) .z)) ?_
       obtain ⟨h10,hF⟩:=aE hF
       obtain ⟨x8,h11,hF⟩:=oE hF
       refine RJ (.p zas h10 (.c (R_Together_ok h11) .z)) ?_
       obtain ⟨x9,h12,hF⟩:=lS hF
       refine DJ (.b (R_Heavy_ok h12) .z) ?_
       cases hF
       exact Wz [] hfin

/- tabularyref.SameDisk -/
def R_SameDisk (a0 b:Disk):Bool:=
 lt (R_Same a0.Bytes b.Bytes) fun x=>
 (decide (a0.Kept=b.Kept))&&x
theorem R_SameDisk_ok {a0 b r} (hF:R_SameDisk a0 b=r):Pe Tryz.prog 80 S.none [.agg (c_Disk a0),.agg (c_Disk b)] (.bool r) S.none:=by
 refine PT 17 [.tmp 4] [4] Tryz.func80 ?_
 intro Q g hfin
 unfold R_SameDisk at hF
 refine LR0 ?_
 obtain ⟨x,h0,hF⟩:=lS hF
 refine RJ (.a (.callB (.bool x)) (.g (fun (ga0:(decide (a0.Kept=b.Kept))=true)=>(R_Same_ok h0)) .z)) ?_
 cases hF
 exact Wz [] hfin

/- tabularyref.SameBodies -/
def R_SameBodies_J1 (v:Unit):Option Bool:=
 some true
def R_SameBodies_B1 (a0 b:List (List UInt8)) (v1:Int):Option (Int⊕Bool):=
 if (decide (v1<(a0.length:Int)))=true then
  zaq (0≤v1∧v1<(a0.length:Int)) <|
  zaq (0≤v1∧v1<(b.length:Int)) <|
  lt (R_Same (zaf a0 v1) (zaf b v1)) fun x=>
  if (!x)=true then
   some (Sum.inr false)
  else
   some (Sum.inl (w64 (v1+1)))
 else
  zem (R_SameBodies_J1 ())
def R_SameBodies_L1 (a0 b:List (List UInt8)) (v0:Int):Option Bool:=
 zbc (fun y=>R_SameBodies_B1 a0 b y) v0
def R_SameBodies (a0 b:List (List UInt8)):Option Bool:=
 if (!decide ((a0.length:Int)=(b.length:Int)))=true then
  some false
 else
  R_SameBodies_L1 a0 b 0
theorem R_SameBodies_ok {a0 b r} (hF:R_SameBodies a0 b=some r):Pe Tryz.prog 81 S.none [.sl 1 (a0.map zag),.sl 1 (b.map zag)] (.bool r) S.none:=by
 refine PT 27 [.tmp 4] [4] Tryz.func81 ?_
 intro Q g hfin
 unfold R_SameBodies at hF
 refine LR0 ?_
 refine RJ (.l zag a0 (.l zag b .z)) ?_
 refine Nif hF ?_ ?_ <;> intro hb hF
 ·refine LR0 ?_
  cases hF
  exact Wz [] hfin
 ·refine LR0 ?_
  refine NmQ (fun v=>R_SameBodies_J1 v=some r) (fun v=>(.w [])) ?_ ?_
  ·refine zcb ?_
   unfold R_SameBodies_L1 at hF
   refine Nits hF [] (fun Z v1=>Z.up [0,1,5] [] [] [] [(5,.i v1)] [] [] []) ?_
   intro n1 v1 y1 hF ih1 dn1
   unfold R_SameBodies_B1 at hF
   refine RJ (.l zag a0 .z) ?_
   refine Nif hF ?_ ?_ <;> intro hb hF
   ·refine zcb ?_
    obtain ⟨h0,h1,hF⟩:=asrt2 hF
    obtain ⟨x,h2,hF⟩:=lS hF
    refine DJ (.i zag h0 (.i zag h1 (.b (R_Same_ok h2) .z))) ?_
    refine Nif hF ?_ ?_ <;> intro hb hF
    ·refine LR0 ?_
     have hF:=zc0 hF dn1
     cases hF
     exact Wz [] hfin
    ·refine LR0 ?_
     exact Nrnq [] hF ih1
   ·refine zbv rfl ?_
    have hF:=zaj hF dn1
    exact ze6 () [] hF
  ·intro v hF
   unfold R_SameBodies_J1 at hF
   refine LR0 ?_
   cases hF
   exact Wz [] hfin

/- tabularyref.SameTablet -/
def zbb (a0 b:Tablet):Option Bool:=
 lt (R_SameDisk a0.Log b.Log) fun x=>
 ob (if x=true then (R_SameBodies a0.Files b.Files) else some default) fun x1=>
 lt (((x&&x1)&&(decide (a0.Done=b.Done)))&&(decide (a0.Since=b.Since))) fun v=>
 some v
theorem zc3 {a0 b r} (hF:zbb a0 b=some r):Pe Tryz.prog 19 S.none [.agg (zae a0),.agg (zae b)] (.bool r) S.none:=by
 refine PT 31 [.tmp 4] [4] Tryz.func19 ?_
 intro Q g hfin
 unfold zbb at hF
 refine LR0 ?_
 obtain ⟨x,h0,hF⟩:=lS hF
 obtain ⟨x1,h1,hF⟩:=oE hF
 refine NRL (((x&&x1)&&(decide (a0.Done=b.Done)))&&(decide (a0.Since=b.Since))) (fun v:Bool=>([(4,.bool v)],[],[],[])) [.callB (.bool x),.callB (.bool x1)] [4] [] [] [] (hc (R_SameDisk_ok h0) (hc (fun (ga0:x=true)=>(R_SameBodies_ok (ite_t h1 ga0))) .nil)) (fun v hv=>?_)
 have hF:=zev hF hv
 cases hF
 exact Wz [] hfin

/- tabularyref.SameCells -/
def R_SameCells_J1 (v:Unit):Option Bool:=
 some true
def R_SameCells_B1 (a0 b:List Cell) (v1:Int):Option (Int⊕Bool):=
 if (decide (v1<(a0.length:Int)))=true then
  zaq (0≤v1∧v1<(a0.length:Int)) <|
  zaq (0≤v1∧v1<(b.length:Int)) <|
  if (!(decide ((zaf a0 v1).Row=(zaf b v1).Row)&&(decide ((zaf a0 v1).Col=(zaf b v1).Col)&&(decide ((zaf a0 v1).Time=(zaf b v1).Time)&&((((zaf a0 v1).Gone) == ((zaf b v1).Gone))&&(decide ((zaf a0 v1).Value=(zaf b v1).Value)&&true))))))=true then
   some (Sum.inr false)
  else
   some (Sum.inl (w64 (v1+1)))
 else
  zem (R_SameCells_J1 ())
def R_SameCells_L1 (a0 b:List Cell) (v0:Int):Option Bool:=
 zbc (fun y=>R_SameCells_B1 a0 b y) v0
def R_SameCells (a0 b:List Cell):Option Bool:=
 if (!decide ((a0.length:Int)=(b.length:Int)))=true then
  some false
 else
  R_SameCells_L1 a0 b 0
theorem R_SameCells_ok {a0 b r} (hF:R_SameCells a0 b=some r):Pe Tryz.prog 20 S.none [.sl 5 (a0.map zac),.sl 5 (b.map zac)] (.bool r) S.none:=by
 refine PT 26 [.tmp 4] [4] Tryz.func20 ?_
 intro Q g hfin
 unfold R_SameCells at hF
 refine LR0 ?_
 refine RJ (.l zac a0 (.l zac b .z)) ?_
 refine Nif hF ?_ ?_ <;> intro hb hF
 ·refine LR0 ?_
  cases hF
  exact Wz [] hfin
 ·refine LR0 ?_
  refine NmQ (fun v=>R_SameCells_J1 v=some r) (fun v=>(.w [])) ?_ ?_
  ·refine zcb ?_
   unfold R_SameCells_L1 at hF
   refine Nits hF [] (fun Z v1=>Z.up [0,1,5] [] [] [] [(5,.i v1)] [] [] []) ?_
   intro n1 v1 y1 hF ih1 dn1
   unfold R_SameCells_B1 at hF
   refine RJ (.l zac a0 .z) ?_
   refine Nif hF ?_ ?_ <;> intro hb hF
   ·refine zcb ?_
    obtain ⟨h0,h1,hF⟩:=asrt2 hF
    refine DJ (.i zac h0 (.i zac h1 .z)) ?_
    refine Nif hF ?_ ?_ <;> intro hb hF
    ·refine LR0 ?_
     have hF:=zc0 hF dn1
     cases hF
     exact Wz [] hfin
    ·refine LR0 ?_
     exact Nrnq [] hF ih1
   ·refine zbv rfl ?_
    have hF:=zaj hF dn1
    exact ze6 () [] hF
  ·intro v hF
   unfold R_SameCells_J1 at hF
   refine LR0 ?_
   cases hF
   exact Wz [] hfin

/- tabularyref.NoteBytes -/
def R_NoteBytes_J1 (v:List UInt8):Option (List UInt8):=
 some v
def R_NoteBytes_B1 (v1:Note×List UInt8×Int):Option ((Note×List UInt8×Int)⊕(List UInt8)):=
 if (decide (v1.2.2<(v1.1.Cells.length:Int)))=true then
  zaq (0≤v1.2.2∧v1.2.2<(v1.1.Cells.length:Int)) <|
  ob (R_CellBytes (⟨(zaf v1.1.Cells v1.2.2).Row,(zaf v1.1.Cells v1.2.2).Col,(zaf v1.1.Cells v1.2.2).Time,(zaf v1.1.Cells v1.2.2).Gone,(zaf v1.1.Cells v1.2.2).Value⟩:Cell)) fun x1=>
  zaq (((v1.2.1++x1).length:Int)*1≤140737488351232) <|
  some (Sum.inl (v1.1,(v1.2.1++x1),w64 (v1.2.2+1)))
 else
  zem (R_NoteBytes_J1 v1.2.1)
def R_NoteBytes_L1 (v0:Note×List UInt8×Int):Option (List UInt8):=
 zbc (fun y=>R_NoteBytes_B1 y) v0
def R_NoteBytes (num:Note):Option (List UInt8):=
 ob (R_Number num.Seq) fun x=>
 R_NoteBytes_L1 (num,x,0)
theorem R_NoteBytes_ok {num r} (hF:R_NoteBytes num=some r):Pe Tryz.prog 24 (.w []) [.agg (c_Note num)] (.row 7 0) ⟨[],[],[(7,.z 5 1 0 (r.map zan))],[],[]⟩:=by
 refine PT 24 [.tmp 2] [22] Tryz.func24 ?_
 intro Q g hfin
 unfold R_NoteBytes at hF
 refine LR0 ?_
 obtain ⟨x,h0,hF⟩:=oE hF
 have p1:=(Pe.ren (R_Number_ok h0) ⟨[],[],[],[]⟩)
 refine RJ (.e [] [] p1 .z) ?_
 refine LR0 ?_
 refine NmS (fun v=>R_NoteBytes_J1 v=some r) (fun Z v=>Z.up [3] [] [7] [] [] [] [(7,.z 5 1 0 (v.map zan))] []) ?_ ?_
 ·refine zcb ?_
  unfold R_NoteBytes_L1 at hF
  refine Nits hF [] (fun Z v1=>Z.up [1,3,4] [1] [7] [] [(4,.i v1.2.2)] [(1,(c_Note v1.1))] [(7,.z 5 1 0 (v1.2.1.map zan))] []) ?_
  intro n1 v1 y1 hF ih1 dn1
  unfold R_NoteBytes_B1 at hF
  refine RJ (.l zac v1.1.Cells .z) ?_
  refine Nif hF ?_ ?_ <;> intro hb hF
  ·refine zcb ?_
   obtain ⟨h2,hF⟩:=aE hF
   obtain ⟨x1,h3,hF⟩:=oE hF
   have p4:=(Pe.ren (R_CellBytes_ok h3) ⟨[],[(6,21)],[],[]⟩)
   obtain ⟨h5,hF⟩:=aE hF
   refine RJ (.i zac h2 (.e [] [] p4 (.p zan h5 .z))) ?_
   refine LR0 ?_
   exact Nrnq [(7,⟨0,true,true,false⟩)] hF ih1
  ·refine zbv rfl ?_
   have hF:=zaj hF dn1
   exact ze6 v1.2.1 [] hF
 ·intro v hF
  unfold R_NoteBytes_J1 at hF
  refine LR0 ?_
  cases hF
  exact Wz [] hfin

/- tabularyref.NoteBytes -/
def R_NoteBytes_v1_J1 (v:List UInt8):Option (List UInt8):=
 some v
def R_NoteBytes_v1_B1 (v1:Note×List UInt8×Int):Option ((Note×List UInt8×Int)⊕(List UInt8)):=
 if (decide (v1.2.2<(v1.1.Cells.length:Int)))=true then
  zaq (0≤v1.2.2∧v1.2.2<(v1.1.Cells.length:Int)) <|
  ob (R_CellBytes (⟨(zaf v1.1.Cells v1.2.2).Row,(zaf v1.1.Cells v1.2.2).Col,(zaf v1.1.Cells v1.2.2).Time,(zaf v1.1.Cells v1.2.2).Gone,(zaf v1.1.Cells v1.2.2).Value⟩:Cell)) fun x1=>
  zaq (((v1.2.1++x1).length:Int)*1≤140737488351232) <|
  some (Sum.inl (v1.1,(v1.2.1++x1),w64 (v1.2.2+1)))
 else
  zem (R_NoteBytes_v1_J1 v1.2.1)
def R_NoteBytes_v1_L1 (v0:Note×List UInt8×Int):Option (List UInt8):=
 zbc (fun y=>R_NoteBytes_v1_B1 y) v0
def R_NoteBytes_v1 (num:Note):Option (List UInt8):=
 ob (R_Number num.Seq) fun x=>
 R_NoteBytes_v1_L1 (num,x,0)
theorem R_NoteBytes_v1_ok {num r} (hF:R_NoteBytes_v1 num=some r):Pe Tryz.prog 24 S.none [.agg (c_Note num)] (.sl 1 (r.map zan)) S.none:=by
 refine PT 24 [.tmp 2] [22] Tryz.func24 ?_
 intro Q g hfin
 unfold R_NoteBytes_v1 at hF
 refine LR0 ?_
 obtain ⟨x,h0,hF⟩:=oE hF
 have p1:=(Pe.ren (R_Number_ok h0) ⟨[],[],[],[]⟩)
 refine RJ (.e [] [] p1 .z) ?_
 refine LR0 ?_
 refine NmS (fun v=>R_NoteBytes_v1_J1 v=some r) (fun Z v=>Z.up [3] [] [7] [] [] [] [(7,.z 5 1 0 (v.map zan))] []) ?_ ?_
 ·refine zcb ?_
  unfold R_NoteBytes_v1_L1 at hF
  refine Nits hF [] (fun Z v1=>Z.up [1,3,4] [1] [7] [] [(4,.i v1.2.2)] [(1,(c_Note v1.1))] [(7,.z 5 1 0 (v1.2.1.map zan))] []) ?_
  intro n1 v1 y1 hF ih1 dn1
  unfold R_NoteBytes_v1_B1 at hF
  refine RJ (.l zac v1.1.Cells .z) ?_
  refine Nif hF ?_ ?_ <;> intro hb hF
  ·refine zcb ?_
   obtain ⟨h2,hF⟩:=aE hF
   obtain ⟨x1,h3,hF⟩:=oE hF
   have p4:=(Pe.ren (R_CellBytes_ok h3) ⟨[],[(6,21)],[],[]⟩)
   obtain ⟨h5,hF⟩:=aE hF
   refine RJ (.i zac h2 (.e [] [] p4 (.p zan h5 .z))) ?_
   refine LR0 ?_
   exact Nrnq [(7,⟨0,true,true,false⟩)] hF ih1
  ·refine zbv rfl ?_
   have hF:=zaj hF dn1
   exact ze6 v1.2.1 [] hF
 ·intro v hF
  unfold R_NoteBytes_v1_J1 at hF
  refine LR0 ?_
  cases hF
  exact Wz [] hfin

/- tabularyref.Framed -/
def R_Framed_v1 (body:List UInt8):Option (List UInt8):=
 zaq (((([zd1 (w64 (Int.tdiv (body.length:Int) 256)),zd1 (Int.tmod (body.length:Int) 256)]:List UInt8)++body).length:Int)*1≤140737488351232) <|
 lt ((([zd1 (w64 (Int.tdiv (body.length:Int) 256)),zd1 (Int.tmod (body.length:Int) 256)]:List UInt8)++body)) fun v=>
 ob (R_Rest v) fun x=>
 zaq (((v++([zd1 (IntKind.u32.wrap (Int.tdiv x 16777216)),zd1 (Int.tmod (IntKind.u32.wrap (Int.tdiv x 65536)) 256),zd1 (Int.tmod (IntKind.u32.wrap (Int.tdiv x 256)) 256),zd1 (Int.tmod x 256)]:List UInt8)).length:Int)*1≤140737488351232) <|
 lt ((v++([zd1 (IntKind.u32.wrap (Int.tdiv x 16777216)),zd1 (Int.tmod (IntKind.u32.wrap (Int.tdiv x 65536)) 256),zd1 (Int.tmod (IntKind.u32.wrap (Int.tdiv x 256)) 256),zd1 (Int.tmod x 256)]:List UInt8))) fun v1=>
 some v1
theorem R_Framed_v1_ok {body r} (hF:R_Framed_v1 body=some r):Pe Tryz.prog 23 S.none [.sl 1 (body.map zan)] (.sl 1 (r.map zan)) S.none:=by
 refine PT 35 [.tmp 2] [22] Tryz.func23 ?_
 intro Q g hfin
 unfold R_Framed_v1 at hF
 refine LR0 ?_
 obtain ⟨h0,hF⟩:=aE hF
 obtain ⟨v,hv,hF⟩:=lS hF
 refine RJ (.l zan body (.g (by decide:(256:Int)≠0) (.l zan body (.g (by decide:(256:Int)≠0) (.pN zan hv h0 .z))))) ?_
 obtain ⟨x,h1,hF⟩:=oE hF
 refine RJ (.b (R_Rest_ok h1) .z) ?_
 obtain ⟨h2,hF⟩:=aE hF
 obtain ⟨v1,hv,hF⟩:=lS hF
 refine RJ (.g (by decide:(16777216:Int)≠0) (.g (by decide:(65536:Int)≠0) (.g (by decide:(256:Int)≠0) (.g (by decide:(256:Int)≠0) (.g (by decide:(256:Int)≠0) (.g (by decide:(256:Int)≠0) (.a (.sealed) (.pN zan hv h2 .z)))))))) ?_
 cases hF
 exact Wz [] hfin

/- tabularylaw.TabletDoes$1 -/
def law_TabletDoes_1_v1 (box:Tablet) (box1:List UInt8) (box2:Tablet):Option (Tablet×List UInt8×Int×List (List UInt8)×Int×Int):=
 ob (law_ownBytes box.Log.Bytes) fun x=>
 zaq (((x++box1).length:Int)*1≤140737488351232) <|
 some ((⟨(⟨(x++box1),box.Log.Kept⟩:Disk),box2.Files,box2.Done,box2.Since⟩:Tablet),(x++box1),box.Log.Kept,box2.Files,box2.Done,box2.Since)
theorem law_TabletDoes_1_v1_ok {box box1 box2 r} (hF:law_TabletDoes_1_v1 box box1 box2=some r):Pe Tryz.prog 28 ⟨[],[(100000,(zae box)),(100001,[.sl 1 (box1.map zan)]),(100002,(zae box2))],[],[],[]⟩ [.ptr 100000 0,.ptr 100001 0,.ptr 100002 0] (.agg (zae r.1)) ⟨[],[(100000,(zae box)),(100001,[.sl 1 (box1.map zan)]),(100002,[.row 7 2,.i r.2.2.1,.sl 1 (r.2.2.2.1.map zag),.i r.2.2.2.2.1,.i r.2.2.2.2.2])],[(7,⟨5,1,2,(r.2.1.map zan).length,0,true,0,[],(r.2.1.map zan)⟩)],[],[]⟩:=by
 refine PT 16 [.cell 3 27] [27] Tryz.func28 ?_
 intro Q g hfin
 unfold law_TabletDoes_1_v1 at hF
 refine LR0 ?_
 obtain ⟨x,h0,hF⟩:=oE hF
 have p1:=(Pe.ren (law_ownBytes_ok h0) ⟨[],[(4,7)],[],[]⟩)
 obtain ⟨h2,hF⟩:=aE hF
 refine DJ (.e [] [] p1 (.p zan h2 .z)) ?_
 refine VR [] [3] [3,100000,100001,100002] [7] [] [(3,.ptr 3 0)] [(3,[.row 7 2,.i box.Log.Kept,.sl 1 (box2.Files.map zag),.i box2.Done,.i box2.Since]),(100000,(zae box)),(100001,[.sl 1 (box1.map zan)]),(100002,[.row 7 2,.i box.Log.Kept,.sl 1 (box2.Files.map zag),.i box2.Done,.i box2.Since])] [(7,.z 5 1 2 ((x++box1).map zan))] [] .nil ?_
 refine Wk_sealBX [] 3 rfl rfl ?_
 cases hF
 exact Wz [] hfin

/- tabularylaw.tabletAs -/
def law_tabletAs (t0:Tablet) (f w0:Fault) (box:Tablet) (box1:List UInt8) (box2:Tablet):Option (Bool×List UInt8×Int×List (List UInt8)×Int×Int):=
 if (!(decide (f.Code=w0.Code)&&(decide (f.At=w0.At)&&true)))=true then
  some (false,box2.Log.Bytes,box2.Log.Kept,box2.Files,box2.Done,box2.Since)
 else
  if (!decide (w0.Code=0))=true then
   ob (zbb t0 (⟨(⟨([]:List UInt8),0⟩:Disk),([]:List (List UInt8)),0,0⟩:Tablet)) fun x=>
   some (x,box2.Log.Bytes,box2.Log.Kept,box2.Files,box2.Done,box2.Since)
  else
   ob (law_TabletDoes_1_v1 box box1 box2) fun x1=>
   ob (zbb t0 x1.1) fun x2=>
   some (x2,x1.2.1,x1.2.2.1,x1.2.2.2.1,x1.2.2.2.2.1,x1.2.2.2.2.2)
theorem law_tabletAs_ok {t0 f w0 box box1 box2 r} (hF:law_tabletAs t0 f w0 box box1 box2=some r):Pe Tryz.prog 27 ⟨[],[(100000,(zae box)),(100001,[.sl 1 (box1.map zan)]),(100002,(zae box2))],[],[],[]⟩ [.agg (zae t0),.agg (zad f),.agg (zad w0),.fn 28 [.ptr 100000 0,.ptr 100001 0,.ptr 100002 0]] (.bool r.1) ⟨[],[(100000,(zae box)),(100001,[.sl 1 (box1.map zan)]),(100002,[.sl 1 (r.2.1.map zan),.i r.2.2.1,.sl 1 (r.2.2.2.1.map zag),.i r.2.2.2.2.1,.i r.2.2.2.2.2])],[],[],[]⟩:=by
 refine PT 22 [.tmp 8] [4] Tryz.func27 ?_
 intro Q g hfin
 unfold law_tabletAs at hF
 refine LR0 ?_
 refine LR0 ?_
 refine Nif hF ?_ ?_ <;> intro hb hF
 ·refine LR0 ?_
  cases hF
  exact Wz [] hfin
 ·refine LR0 ?_
  refine Nif hF ?_ ?_ <;> intro hb hF
  ·obtain ⟨x,h0,hF⟩:=oE hF
   refine RJ (.b (zc3 h0) .z) ?_
   cases hF
   exact Wz [] hfin
  ·obtain ⟨x1,h1,hF⟩:=oE hF
   have p2:=(Pe.ren (law_TabletDoes_1_v1_ok h1) ⟨[],[(7,20)],[],[]⟩)
   obtain ⟨x2,h3,hF⟩:=oE hF
   refine VD [cE [100000,100001,100002] [] [] [] p2,.callB (.bool x2)] [8] [100000,100001,100002] [20] [] [(8,.bool x2)] [(100000,(zae box)),(100001,[.sl 1 (box1.map zan)]),(100002,[.row 20 2,.i x1.2.2.1,.sl 1 (x1.2.2.2.1.map zag),.i x1.2.2.2.2.1,.i x1.2.2.2.2.2])] [(20,⟨5,1,2,(x1.2.1.map zan).length,0,true,0,[],(x1.2.1.map zan)⟩)] [] (hc p2 (hc (zc3 h3) .nil)) ?_
   cases hF
   refine Wk_sealBX [] 100002 rfl rfl ?_
   exact Wz [] hfin

/- tabularylaw.TabletDoes$2 -/
def law_TabletDoes_2 (box box1:Tablet):Tablet×Tablet:=
 ((⟨(⟨box.Log.Bytes,(box.Log.Bytes.length:Int)⟩:Disk),box1.Files,box1.Done,box1.Since⟩:Tablet),(⟨(⟨box.Log.Bytes,(box.Log.Bytes.length:Int)⟩:Disk),box1.Files,box1.Done,box1.Since⟩:Tablet))
theorem law_TabletDoes_2_ok {box box1 r} (hF:law_TabletDoes_2 box box1=r):Pe Tryz.prog 30 ⟨[],[(100000,(zae box)),(100001,(zae box1))],[],[],[]⟩ [.ptr 100000 0,.ptr 100001 0] (.agg (zae r.1)) ⟨[],[(100000,(zae box)),(100001,(zae r.2))],[],[],[]⟩:=by
 refine PT 13 [.cell 2 27] [27] Tryz.func30 ?_
 intro Q g hfin
 unfold law_TabletDoes_2 at hF
 refine LR0 ?_
 refine RJ (.l zan box.Log.Bytes .z) ?_
 refine LR0 ?_
 cases hF
 exact Wz [] hfin

/- tabularylaw.tabletAs -/
def law_tabletAs_v1 (t0:Tablet) (f w0:Fault) (box box1:Tablet):Option (Bool×Tablet):=
 if (!(decide (f.Code=w0.Code)&&(decide (f.At=w0.At)&&true)))=true then
  some (false,box1)
 else
  if (!decide (w0.Code=0))=true then
   ob (zbb t0 (⟨(⟨([]:List UInt8),0⟩:Disk),([]:List (List UInt8)),0,0⟩:Tablet)) fun x=>
   some (x,box1)
  else
   lt (law_TabletDoes_2 box box1) fun x1=>
   ob (zbb t0 x1.1) fun x2=>
   some (x2,x1.2)
theorem law_tabletAs_v1_ok {t0 f w0 box box1 r} (hF:law_tabletAs_v1 t0 f w0 box box1=some r):Pe Tryz.prog 27 ⟨[],[(100000,(zae box)),(100001,(zae box1))],[],[],[]⟩ [.agg (zae t0),.agg (zad f),.agg (zad w0),.fn 30 [.ptr 100000 0,.ptr 100001 0]] (.bool r.1) ⟨[],[(100000,(zae box)),(100001,(zae r.2))],[],[],[]⟩:=by
 refine PT 22 [.tmp 8] [4] Tryz.func27 ?_
 intro Q g hfin
 unfold law_tabletAs_v1 at hF
 refine LR0 ?_
 refine LR0 ?_
 refine Nif hF ?_ ?_ <;> intro hb hF
 ·refine LR0 ?_
  cases hF
  exact Wz [] hfin
 ·refine LR0 ?_
  refine Nif hF ?_ ?_ <;> intro hb hF
  ·obtain ⟨x,h0,hF⟩:=oE hF
   refine RJ (.b (zc3 h0) .z) ?_
   cases hF
   exact Wz [] hfin
  ·obtain ⟨x1,h1,hF⟩:=lS hF
   have p2:=(Pe.ren (law_TabletDoes_2_ok h1) ⟨[],[],[],[]⟩)
   obtain ⟨x2,h3,hF⟩:=oE hF
   refine DJ (.e [100000,100001] [] p2 (.b (zc3 h3) .z)) ?_
   cases hF
   exact Wz [] hfin

/- tabularyref.Logged -/
def R_Logged_v1_J1 (v:List Note×Int):Option (List Note×Int):=
 some (v.1,v.2)
def R_Logged_v1_B1 (x:List (List UInt8)×Int) (v1:List Note×Int×Int):Option ((List Note×Int×Int)⊕(List Note×Int)):=
 if (decide (v1.2.2<(x.1.length:Int)))=true then
  zaq (0≤v1.2.2∧v1.2.2<(x.1.length:Int)) <|
  zaq (0≤v1.2.2∧v1.2.2<(x.1.length:Int)) <|
  ob (R_NoteOf (zaf x.1 v1.2.2)) fun x1=>
  zaq ((decide (0<v1.2.2))=true→(!(!decide (x1.2.2.Code=0)))=true→0≤w64 (v1.2.2 - 1)∧w64 (v1.2.2 - 1)<(v1.1.length:Int)) <|
  zaq ((decide (0<v1.2.2))=true→(!(!decide (x1.2.2.Code=0)))=true→0≤w64 (v1.2.2 - 1)∧w64 (v1.2.2 - 1)<(v1.1.length:Int)) <|
  if ((!decide (x1.2.2.Code=0))||((decide (0<v1.2.2))&&(!decide ((w64 (x1.1 - 1))=((zaf v1.1 (w64 (v1.2.2 - 1))).Seq)))))=true then
   zem (R_Logged_v1_J1 (v1.1,v1.2.1))
  else
   zaq (((v1.1++[(⟨x1.1,x1.2.1⟩:Note)]).length:Int)*32≤140737488351232) <|
   zaq (0≤v1.2.2∧v1.2.2<(x.1.length:Int)) <|
   zaq (0≤v1.2.2∧v1.2.2<(x.1.length:Int)) <|
   some (Sum.inl ((v1.1++[(⟨x1.1,x1.2.1⟩:Note)]),w64 ((w64 (v1.2.1+6))+((zaf x.1 v1.2.2).length:Int)),w64 (v1.2.2+1)))
 else
  zem (R_Logged_v1_J1 (v1.1,v1.2.1))
def R_Logged_v1_L1 (x:List (List UInt8)×Int) (v0:List Note×Int×Int):Option (List Note×Int):=
 zbc (fun y=>R_Logged_v1_B1 x y) v0
def R_Logged_v1 (b:List UInt8):Option (List Note×Int):=
 ob (R_Unframed b) fun x=>
 R_Logged_v1_L1 x (([]:List Note),0,0)
theorem R_Logged_v1_ok {b r} (hF:R_Logged_v1 b=some r):Pe Tryz.prog 32 S.none [.sl 1 (b.map zan)] (.tup [.sl 2 (r.1.map zak),.i r.2]) S.none:=by
 refine PT 63 [.tmp 2,.tmp 3] [41,3] Tryz.func32 ?_
 intro Q g hfin
 unfold R_Logged_v1 at hF
 refine LR0 ?_
 obtain ⟨x,h0,hF⟩:=oE hF
 have p1:=(Pe.ren (R_Unframed_ok h0) ⟨[],[(56,13)],[],[]⟩)
 refine RJ (.e [] [] p1 .z) ?_
 refine LR0 ?_
 refine LR0 ?_
 refine VR [] [4,6,7,8] [] [13] [] [(4,.row 13 0),(6,.nils),(7,.i 0),(8,.i 0)] [] [(13,.z 22 1 0 (x.1.map zag))] [] .nil ?_
 refine NmQ (fun v=>R_Logged_v1_J1 v=some r) (fun v=>⟨[(6,.row 52 0),(7,.i v.2)],[],[(52,.z 50 2 0 (v.1.map zak))],[],[]⟩) ?_ ?_
 ·refine zcb ?_
  unfold R_Logged_v1_L1 at hF
  refine zap 6 60000 50 2 rfl rfl rfl ?_
  refine zci (fs:=[4,6,7,8]) (bs:=[]) (rs:=[13,60000]) (ms:=[]) (aa:=[]) (nv:=[]) rfl ?_
  refine zat ⟨[],[(60000,52)],[],[]⟩ rfl ?_
  refine Nitr hF [] (fun v1=>⟨[(4,.row 13 0),(6,.row 52 0),(7,.i v1.2.1),(8,.i v1.2.2)],[],[(13,.z 22 1 0 (x.1.map zag)),(52,.z 50 2 0 (v1.1.map zak))],[],[]⟩) ?_
  intro n1 v1 y1 hF ih1 dn1
  unfold R_Logged_v1_B1 at hF
  refine RJ (.l zag x.1 .z) ?_
  refine Nif hF ?_ ?_ <;> intro hb hF
  ·refine zcb ?_
   obtain ⟨h2,h3,hF⟩:=asrt2 hF
   obtain ⟨x1,h4,hF⟩:=oE hF
   have p5:=(Pe.ren (R_NoteOf_ok h4) ⟨[],[],[],[]⟩)
   refine RJ (.x zag h2 (.r zag h3 (.e [] [] p5 .z))) ?_
   obtain ⟨h6,h7,hF⟩:=asrt2 hF
   refine DJ (.g (fun (ga0:(decide (0<v1.2.2))=true) (ga1:(!(!decide (x1.2.2.Code=0)))=true)=>(ixr_ok zak (h6 ga0 ga1))) (.a (.av (zak (zaf v1.1 (w64 (v1.2.2 - 1))))) (.g (fun (ga0:(decide (0<v1.2.2))=true) (ga1:(!(!decide (x1.2.2.Code=0)))=true)=>(ldr_ok zak (h7 ga0 ga1))) .z))) ?_
   refine Nif hF ?_ ?_ <;> intro hb hF
   ·refine zbv rfl ?_
    have hF:=zaj hF dn1
    exact ze6 (v1.1,v1.2.1) [] hF
   ·obtain ⟨h8,hF⟩:=aE hF
    refine RJ (.a (.sealed) (.p zak h8 .z)) ?_
    obtain ⟨h9,h10,hF⟩:=asrt2 hF
    refine RJ (.x zag h9 (.r zag h10 (.l zan (zaf x.1 v1.2.2) .z))) ?_
    refine LR0 ?_
    exact Nrnq [(52,⟨0,true,true,false⟩)] hF ih1
  ·refine zbv rfl ?_
   have hF:=zaj hF dn1
   exact ze6 (v1.1,v1.2.1) [] hF
 ·intro v hF
  unfold R_Logged_v1_J1 at hF
  refine LR0 ?_
  cases hF
  exact Wz [] hfin

end
end G
end Go.Proofs.YticbfakiihfgmaaGreat
