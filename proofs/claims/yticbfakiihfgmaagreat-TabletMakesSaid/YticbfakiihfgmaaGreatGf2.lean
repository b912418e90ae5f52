/- The program's functions as plain functions, and that they are these. Written by a program (dec2.py). -/
import Derived.Test.YticbfakiihfgmaaGreatGf1
namespace Go.Proofs.YticbfakiihfgmaaGreat
open Go Go.Dm
set_option linter.unusedVariables false
set_option linter.unusedSimpArgs false
set_option maxRecDepth 100000
namespace G
noncomputable section
/- tablet.Put$1 -/
def zlo (box:B8)(box1:Int)(box2:B9)(box3 box4:Int)(box5 box8:Int)(row:List Note)(row1:Cs)(row2:List Cs)(v:Tablet×Fault×Note):Option (Fault×B8×Int×B9×Int×Int×List Note×Int×Cs×Tablet×Int):=
 ob (zm6 v.2.2) fun x1=>
 ob (zpi v.1.Log x1) fun x2=>
 if (!decide (x2.2.2.Code=0))=true then
  some (x2.2.2,box,box1,box2,box3,box4,row,box5,row1,v.1,box8)
 else
  zao (((row++[v.2.2]).length:Int)*32<=140737488351232) <|
  ob (zgm x2.2.1 box2 box3 box4 box5 x2.1 (row++[v.2.2]) row1 row2) fun x3=>
  some (x3.1,x2.1,x3.2.1,x3.2.2.1,x3.2.2.2.1,x3.2.2.2.2.1,x3.2.2.2.2.2.1,x3.2.2.2.2.2.2.1,x3.2.2.2.2.2.2.2,v.1,v.2.2.Seq)
def ziy (box:B8)(box1:Int)(box2:B9)(box3 box4 box5:Int)(box6:Cs)(box8:Int)(row:List Note)(row1:Cs)(row2:List Cs)(v1:Tablet×Fault×Note×Int):Option ((Tablet×Fault×Note×Int)⊕(Fault×B8×Int×B9×Int×Int×List Note×Int×Cs×Tablet×Int)):=
 if (decide (v1.2.2.2<(box6.length:Int)))=true then
  zao (0<=v1.2.2.2/\v1.2.2.2<(box6.length:Int)) <|
  if (decide (((zad box6 v1.2.2.2).Time)<v1.1.Since))=true then
   lt (zce 12 v1.2.2.2) fun x4=>
   some (Sum.inr (x4,box,box1,box2,box3,box4,row,box5,row1,v1.1,box8))
  else
   some (Sum.inl (v1.1,v1.2.1,v1.2.2.1,w64 (v1.2.2.2+1)))
 else
  zev (zlo box box1 box2 box3 box4 box5 box8 row row1 row2 (v1.1,v1.2.1,v1.2.2.1))
def zot (box:B8)(box1:Int)(box2:B9)(box3 box4 box5:Int)(box6:Cs)(box8:Int)(row:List Note)(row1:Cs)(row2:List Cs)(v0:Tablet×Fault×Note×Int):Option (Fault×B8×Int×B9×Int×Int×List Note×Int×Cs×Tablet×Int):=
 zbg (fun y=>ziy box box1 box2 box3 box4 box5 box6 box8 row row1 row2 y) v0
def zm2 (box:B8)(box1:Int)(box2:B9)(box3 box4 box5:Int)(box6:Cs)(box7:Tablet)(box8:Int)(row:List Note)(row1:Cs)(row2:List Cs):Option (Fault×B8×Int×B9×Int×Int×List Note×Int×Cs×Tablet×Int):=
 ob (zq9 (⟨w64 (box5+1),box6⟩:Note)) fun x=>
 if (!decide (x.Code=0))=true then
  some (x,box,box1,box2,box3,box4,row,box5,row1,box7,box8)
 else
  zot box box1 box2 box3 box4 box5 box6 box8 row row1 row2 (box7,(⟨0,0⟩:Fault),(⟨w64 (box5+1),box6⟩:Note),0)
theorem tablet_Put_1_ok (rk rc:Nat)(rn:Bool)(rk1 rc1:Nat)(rn1:Bool)(rk2 rc2:Nat)(rn2:Bool){box box1 box2 box3 box4 box5 box6 box7 box8 row row1 row2 r}(hF:zm2 box box1 box2 box3 box4 box5 box6 box7 box8 row row1 row2=some r):Pe Tryz.prog 63 ⟨[],[(100000,[.sl 1 (box.map zas),.i box1,.sl 1 (box2.map zaf),.i box3,.i box4,.row 100000 0,.i box5,.row 100001 0,.row 100002 0]),(100001,[.sl 5 (box6.map zab)]),(100002,(zag box7)),(100003,[.i box8])],[(100000,.q 50 2 0 rk rc rn (row.map zar)),(100001,.q 53 5 0 rk1 rc1 rn1 (row1.map zab)),(100002,.q 28 1 0 rk2 rc2 rn2 (row2.map zal))],[],[]⟩ [.ptr 100000 0,.ptr 100001 0,.ptr 100002 0,.ptr 100003 0] (.agg (zae r.1)) ⟨[],[(100000,[.sl 1 (r.2.1.map zas),.i r.2.2.1,.sl 1 (r.2.2.2.1.map zaf),.i r.2.2.2.2.1,.i r.2.2.2.2.2.1,.row 100000 1,.i r.2.2.2.2.2.2.2.1,.sl 5 (r.2.2.2.2.2.2.2.2.1.map zab),.row 100002 0]),(100001,[.sl 5 (box6.map zab)]),(100002,(zag r.2.2.2.2.2.2.2.2.2.1)),(100003,[.i r.2.2.2.2.2.2.2.2.2.2])],[(100000,⟨50,2,1,(r.2.2.2.2.2.2.1.map zar).length,rc,rn,0,[],(r.2.2.2.2.2.2.1.map zar)⟩),(100001,⟨53,5,0,((row1).map zab).length,rc1,rn1,0,[],(row1.map zab)⟩),(100002,.q 28 1 0 rk2 rc2 rn2 (row2.map zal))],[],[]⟩:=by
 refine PT 71 [.cell 5 35] [35] Tryz.func63 ?_
 intro Q g hfin
 unfold zm2 at hF
 refine LR0 ?_
 refine LD0 ?_
 have⟨x,h0,hF⟩:=oE hF
 refine RJ (.b (wal_Check_ok h0) .z) ?_
 refine LR0 ?_
 refine Nif hF ?_ ?_ <;> intro hb hF
 ·refine VR [] [5] [5,100000,100001,100002,100003] [100000,100001,100002] [] [(5,.ptr 5 0)] [(5,(zae x)),(100000,[.sl 1 (box.map zas),.i box1,.sl 1 (box2.map zaf),.i box3,.i box4,.row 100000 0,.i box5,.row 100001 0,.row 100002 0]),(100001,[.sl 5 (box6.map zab)]),(100002,(zag box7)),(100003,[.i box8])] [(100000,.q 50 2 0 rk rc rn (row.map zar)),(100001,.q 53 5 0 rk1 rc1 rn1 (row1.map zab)),(100002,.q 28 1 0 rk2 rc2 rn2 (row2.map zal))] [] .nil ?_
  cases hF
  refine zo1 [100000,100002] 100000 rfl rfl ?_
  exact Wz [(100000,⟨1,true,true,true⟩),(100001,⟨0,true,true,true⟩)] hfin
 ·refine RJ (.l zab box6 .z) ?_
  refine NmS (fun v=>zlo box box1 box2 box3 box4 box5 box8 row row1 row2 v=some r) (fun Z v=>Z.up [0,2,3,5,6] [5,6,100000,100001,100002,100003] [100000,100001,100002] [] [] [(5,(zae v.2.1)),(6,(c_Note v.2.2)),(100002,(zag v.1))] [] []) ?_ ?_
  ·refine zb5 ?_
   unfold zot at hF
   refine zoy hF [] (fun Z v1=>Z.up [0,2,3,5,6,25,26,27] [5,6,100000,100001,100002,100003] [100000,100001,100002] [] [(27,.i v1.2.2.2)] [(5,(zae v1.2.1)),(6,(c_Note v1.2.2.1)),(100002,(zag v1.1))] [] []) ?_
   intro n1 v1 y1 hF ih1 dn1
   unfold ziy at hF
   refine LR0 ?_
   refine Nif hF ?_ ?_ <;> intro hb hF
   ·refine zb5 ?_
    have⟨h8,hF⟩:=aE hF
    refine RJ (.i zab h8 .z) ?_
    refine LR0 ?_
    refine Nif hF ?_ ?_ <;> intro hb hF
    ·have⟨x4,h9,hF⟩:=lS hF
     refine VR [.callB (.agg (zae x4))] [5] [5,100000,100001,100002,100003] [100000,100001,100002] [] [(5,.ptr 5 0)] [(5,(zae x4)),(100000,[.sl 1 (box.map zas),.i box1,.sl 1 (box2.map zaf),.i box3,.i box4,.row 100000 0,.i box5,.row 100001 0,.row 100002 0]),(100001,[.sl 5 (box6.map zab)]),(100002,(zag v1.1)),(100003,[.i box8])] [(100000,.q 50 2 0 rk rc rn (row.map zar)),(100001,.q 53 5 0 rk1 rc1 rn1 (row1.map zab)),(100002,.q 28 1 0 rk2 rc2 rn2 (row2.map zal))] [] (hc (za2 h9) .nil) ?_
     have hF:=zcr hF dn1
     cases hF
     refine zo1 [100000,100002] 100000 rfl rfl ?_
     exact Wz [(100000,⟨1,true,true,true⟩),(100001,⟨0,true,true,true⟩)] hfin
    ·refine LR0 ?_
     exact zgb [] hF ih1
   ·refine zbm rfl ?_
    have hF:=zaj hF dn1
    exact ze4 (v1.1,v1.2.1,v1.2.2.1) [] hF
  ·intro v hF
   unfold zlo at hF
   have⟨x1,h1,hF⟩:=oE hF
   have p2:=(Pe.ren (wal_Frame_v1_ok h1) ⟨[],[(8,44)],[],[]⟩)
   have⟨x2,h3,hF⟩:=oE hF
   have p4:=(Pe.ren (disk_Append_ok h3) ⟨[],[(27,45)],[],[]⟩)
   refine DJ (.a (.raw [0]) (.a (cE [] [] [] [] p2) (.g p2 (.e [] [] p4 .z)))) ?_
   refine LR0 ?_
   refine Nif hF ?_ ?_ <;> intro hb hF
   ·refine VR [] [5] [5,100000,100001,100002,100003] [100000,100001,100002] [] [(5,.ptr 5 0)] [(5,(zae x2.2.2)),(100000,[.sl 1 (box.map zas),.i box1,.sl 1 (box2.map zaf),.i box3,.i box4,.row 100000 0,.i box5,.row 100001 0,.row 100002 0]),(100001,[.sl 5 (box6.map zab)]),(100002,(zag v.1)),(100003,[.i box8])] [(100000,.q 50 2 0 rk rc rn (row.map zar)),(100001,.q 53 5 0 rk1 rc1 rn1 (row1.map zab)),(100002,.q 28 1 0 rk2 rc2 rn2 (row2.map zal))] [] .nil ?_
    cases hF
    refine zo1 [100000,100002] 100000 rfl rfl ?_
    exact Wz [(100000,⟨1,true,true,true⟩),(100001,⟨0,true,true,true⟩)] hfin
   ·have⟨h5,hF⟩:=aE hF
    refine DJ (.a (.sealed) (.p zar h5 .z)) ?_
    have⟨x3,h6,hF⟩:=oE hF
    have p7:=(Pe.ren (tablet_tab_fill_v1_ok 0 0 false rk rc rn rk1 rc1 rn1 rk2 rc2 rn2 h6) ⟨[],[(100000,45),(100001,100000),(100002,100001),(100003,100002),(22,70)],[],[(100001,1)]⟩)
    refine VR [cE [100000] [45,100000,100001,100002] [] [] p7] [5] [5,100000,100001,100002,100003] [45,70,100000,100001,100002] [] [(5,.ptr 5 0)] [(5,(zae x3.1)),(100000,[.row 45 0,.i x3.2.1,.sl 1 (x3.2.2.1.map zaf),.i x3.2.2.2.1,.i x3.2.2.2.2.1,.row 100000 1,.i x3.2.2.2.2.2.2.1,.row 70 0,.row 100002 0]),(100001,[.sl 5 (box6.map zab)]),(100002,(zag v.1)),(100003,[.i v.2.2.Seq])] [(45,.o 5 1 0 (x2.1.map zas)),(70,⟨53,5,0,(x3.2.2.2.2.2.2.2.map zab).length,0,false,0,[],(x3.2.2.2.2.2.2.2.map zab)⟩),(100000,⟨50,2,1,(x3.2.2.2.2.2.1.map zar).length,rc,rn,0,[],(x3.2.2.2.2.2.1.map zar)⟩),(100001,.q 53 5 0 rk1 rc1 rn1 (row1.map zab)),(100002,.q 28 1 0 rk2 rc2 rn2 (row2.map zal))] [] (hc p7 .nil) ?_
    cases hF
    refine zo1 [100000,100002] 100000 rfl rfl ?_
    exact Wz [(100001,⟨0,true,true,true⟩)] hfin

/- disk.Copy -/
def disk_Copy (d:Disk):Option (B8×Int):=
 ob (zck d.Bytes) fun x=>
 some (x,d.Kept)
theorem disk_Copy_ok {d r}(hF:disk_Copy d=some r):Pe Tryz.prog 139 (.w []) [.agg (c_Disk d)] (.agg [.row 5 0,.i r.2]) ⟨[],[],[(5,.o 5 1 0 (r.1.map zas))],[],[]⟩:=by
 refine PT 9 [.cell 2 24] [24] Tryz.func139 ?_
 intro Q g hfin
 unfold disk_Copy at hF
 refine LR0 ?_
 have⟨x,h0,hF⟩:=oE hF
 have p1:=(Pe.ren (zez h0) ⟨[],[],[],[]⟩)
 refine DJ (.e [] [] p1 .z) ?_
 cases hF
 exact Wz [] hfin

/- tablet.own -/
def znt (x:B8×Int)(v:B9×Int×Int×Tablet×B9):Option (B8×Int×B9×Int×Int):=
 some (x.1,x.2,v.2.2.2.2,v.2.1,v.2.2.1)
def zoc (x:B8×Int)(v1:B9×Int×Int×Tablet×B9×B9×Int×Int):Option ((B9×Int×Int×Tablet×B9×B9×Int×Int)⊕(B8×Int×B9×Int×Int)):=
 if (decide (v1.2.2.2.2.2.2.2<v1.2.2.2.2.2.2.1))=true then
  zao (0<=v1.2.2.2.2.2.2.2/\v1.2.2.2.2.2.2.2<(v1.2.2.2.2.2.1.length:Int)) <|
  ob (zck (zad v1.2.2.2.2.2.1 v1.2.2.2.2.2.2.2)) fun x1=>
  zao (((v1.2.2.2.2.1++([x1]:B9)).length:Int)*24<=140737488351232) <|
  some (Sum.inl (v1.1,v1.2.1,v1.2.2.1,v1.2.2.2.1,(v1.2.2.2.2.1++([x1]:B9)),v1.2.2.2.2.2.1,v1.2.2.2.2.2.2.1,w64 (v1.2.2.2.2.2.2.2+1)))
 else
  zev (znt x (v1.1,v1.2.1,v1.2.2.1,v1.2.2.2.1,v1.2.2.2.2.1))
def zsu (x:B8×Int)(v0:B9×Int×Int×Tablet×B9×B9×Int×Int):Option (B8×Int×B9×Int×Int):=
 zbg (fun y=>zoc x y) v0
def zh9 (t0:Tablet):Option (B8×Int×B9×Int×Int):=
 ob (disk_Copy t0.Log) fun x=>
 zao (0<=(0:Int)/\0<=(t0.Files.length:Int)/\(t0.Files.length:Int)*24<=140737488351232) <|
 zsu x (t0.Files,t0.Done,t0.Since,(⟨(⟨([]:B8),0⟩:Disk),([]:B9),0,0⟩:Tablet),(List.replicate (0:Int).toNat (([]:B8):B8)),t0.Files,(t0.Files.length:Int),0)
theorem zlz {t0 r}(hF:zh9 t0=some r):Pe Tryz.prog 106 (.w []) [.agg (zag t0)] (.agg [.row 8 0,.i r.2.1,.row 13 0,.i r.2.2.2.1,.i r.2.2.2.2]) ⟨[],[],[(8,.o 5 1 0 (r.1.map zas)),(13,.o 22 1 0 (r.2.2.1.map zaf))],[],[]⟩:=by
 refine PT 30 [.cell 2 27] [27] Tryz.func106 ?_
 intro Q g hfin
 unfold zh9 at hF
 refine LR0 ?_
 have⟨x,h0,hF⟩:=oE hF
 have p1:=(Pe.ren (disk_Copy_ok h0) ⟨[],[(5,8)],[],[]⟩)
 refine RJ (.e [] [] p1 .z) ?_
 have⟨h2,hF⟩:=aE hF
 refine RJ (.l zaf t0.Files (.a (.xs ((List.replicate (0:Int).toNat (([]:B8):B8)).map zaf)) (.g (mk_ok h2) (.g (rep_ok zaf 0 (([]:B8):B8)) .z)))) ?_
 refine VR [.nat (t0.Files.length:Int)] [1,2,3,15,16,17] [1,2] [8,13] [] [(1,.ptr 1 0),(2,.ptr 2 0),(3,.row 13 0),(15,.sl 1 (t0.Files.map zaf)),(16,.i (t0.Files.length:Int)),(17,.i 0)] [(1,[.row 8 0,.i x.2,.sl 1 (t0.Files.map zaf),.i t0.Done,.i t0.Since]),(2,[.nils,.i 0,.nils,.i 0,.i 0])] [(8,.o 5 1 0 (x.1.map zas)),(13,.o 22 1 0 ((List.replicate (0:Int).toNat (([]:B8):B8)).map zaf))] [] (hc (zc5 zaf t0.Files) .nil) ?_
 refine NmS (fun v=>znt x v=some r) (fun Z v=>Z.up [1,2,3] [1,2] [8,13] [] [] [(1,[.row 8 0,.i x.2,.sl 1 (v.1.map zaf),.i v.2.1,.i v.2.2.1]),(2,(zag v.2.2.2.1))] [(13,.o 22 1 0 (v.2.2.2.2.map zaf))] []) ?_ ?_
 ·refine zb5 ?_
  unfold zsu at hF
  refine znk 2 [.sl 1 (([]:B8).map zas),.i 0,.sl 1 (([]:B9).map zaf),.i 0,.i 0] rfl (.cons (CoeS.nils 1) (.cons (CoeS.refl _) (.cons (CoeS.nils 1) (.cons (CoeS.refl _) (.cons (CoeS.refl _) .nil))))) ?_
  refine zrv hF [] (fun v1=>⟨[(1,.ptr 1 0),(2,.ptr 2 0),(3,.row 13 0),(15,.sl 1 (v1.2.2.2.2.2.1.map zaf)),(16,.i v1.2.2.2.2.2.2.1),(17,.i v1.2.2.2.2.2.2.2)],[(1,[.row 8 0,.i x.2,.sl 1 (v1.1.map zaf),.i v1.2.1,.i v1.2.2.1]),(2,(zag v1.2.2.2.1))],[(8,.o 5 1 0 (x.1.map zas)),(13,.o 22 1 0 (v1.2.2.2.2.1.map zaf))],[],[]⟩) ?_
  intro n1 v1 y1 hF ih1 dn1
  unfold zoc at hF
  refine LR0 ?_
  refine Nif hF ?_ ?_ <;> intro hb hF
  ·refine zb5 ?_
   have⟨h3,hF⟩:=aE hF
   refine RJ (.i zaf h3 .z) ?_
   have⟨x1,h4,hF⟩:=oE hF
   have p5:=(Pe.ren (zez h4) ⟨[],[(5,23)],[],[]⟩)
   have⟨h6,hF⟩:=aE hF
   refine RJ (.e [] [] p5 (.a (.sealed) (.p zaf h6 .z))) ?_
   refine LR0 ?_
   exact zgb [(13,⟨0,true,true,false⟩)] hF ih1
  ·refine zbm rfl ?_
   have hF:=zaj hF dn1
   exact ze4 (v1.1,v1.2.1,v1.2.2.1,v1.2.2.2.1,v1.2.2.2.2.1) [] hF
 ·intro v hF
  unfold znt at hF
  refine LR0 ?_
  refine LR0 ?_
  cases hF
  exact Wz [] hfin

/- tablet.with -/
def zs6 (t0:Tablet)(box:Cs)(box1:Tablet)(box2:Int):Option (B8×Int×B9×Int×Int×Fault×Tablet×Int):=
 ob (zf1 t0) fun x=>
 sm x (fun (x:Fault)=>
  if (!decide (x.Code=0))=true then
   some (([]:B8),0,([]:B9),0,0,x,box1,box2)
  else
   none) (fun (x:B8×Int×B9×Int×Int×List Note×Int×Cs×List Cs×Fault)=>
  if (!decide (x.2.2.2.2.2.2.2.2.2.Code=0))=true then
   some (([]:B8),0,([]:B9),0,0,x.2.2.2.2.2.2.2.2.2,box1,box2)
  else
   ob (zm2 x.1 x.2.1 x.2.2.1 x.2.2.2.1 x.2.2.2.2.1 x.2.2.2.2.2.2.1 box box1 box2 x.2.2.2.2.2.1 x.2.2.2.2.2.2.2.1 x.2.2.2.2.2.2.2.2.1) fun x1=>
   if (!decide (x1.1.Code=0))=true then
    some (([]:B8),0,([]:B9),0,0,x1.1,x1.2.2.2.2.2.2.2.2.2.1,x1.2.2.2.2.2.2.2.2.2.2)
   else
    ob (zh9 (⟨(⟨x1.2.1,x1.2.2.1⟩:Disk),x1.2.2.2.1,x1.2.2.2.2.1,x1.2.2.2.2.2.1⟩:Tablet)) fun x2=>
    some (x2.1,x2.2.1,x2.2.2.1,x2.2.2.2.1,x2.2.2.2.2,x1.1,x1.2.2.2.2.2.2.2.2.2.1,x1.2.2.2.2.2.2.2.2.2.2))
theorem tablet_with_ok {t0 box box1 box2 r}(hF:zs6 t0 box box1 box2=some r):Pe Tryz.prog 62 ⟨[],[(100000,[.sl 5 (box.map zab)]),(100001,(zag box1)),(100002,[.i box2])],[],[],[]⟩ [.agg (zag t0),.fn 63 [.ptr 100000 0,.ptr 100001 0,.ptr 100002 0]] (.tup [.agg [.row 30 0,.i r.2.1,.row 20030 0,.i r.2.2.2.1,.i r.2.2.2.2.1],.agg (zae r.2.2.2.2.2.1)]) ⟨[],[(100000,[.sl 5 (box.map zab)]),(100001,(zag r.2.2.2.2.2.2.1)),(100002,[.i r.2.2.2.2.2.2.2])],[(30,.o 5 1 0 (r.1.map zas)),(20030,.o 22 1 0 (r.2.2.1.map zaf))],[],[]⟩:=by
 refine PT 32 [.cell 4 27,.cell 5 35] [27,35] Tryz.func62 ?_
 intro Q g hfin
 unfold zs6 at hF
 refine LR0 ?_
 have⟨x,h0,hF⟩:=oE hF
 rcases x with x | x
 ·have hF:=sm_l hF
  refine RJ (.b (zi2 h0) .z) ?_
  refine LR0 ?_
  refine Nif hF ?_ ?_ <;> intro hb hF
  ·refine VD [] [4,5] [4,5,100000,100001,100002] [] [] [(4,.ptr 4 0),(5,.ptr 5 0)] [(4,[.nils,.i 0,.nils,.i 0,.i 0]),(5,(zae x)),(100000,[.sl 5 (box.map zab)]),(100001,(zag box1)),(100002,[.i box2])] [] [] .nil ?_
   cases hF
   refine zav 4 0 60000 5 1 rfl rfl rfl rfl rfl ?_
   refine zav 4 2 60001 22 1 rfl rfl rfl rfl rfl ?_
   refine zau ⟨[],[(60000,30),(60001,20030)],[],[]⟩ rfl ?_
   exact Wz [(30,⟨0,true,false,false⟩),(20030,⟨0,true,false,false⟩)] hfin
  ·cases hF
 ·have hF:=sm_r hF
  have p1:=(Pe.ren (zi6 h0) ⟨[(49,10)],[(54,10),(143,20010),(149,40010)],[],[]⟩)
  refine RJ (.e [] [] p1 .z) ?_
  refine LR0 ?_
  refine Nif hF ?_ ?_ <;> intro hb hF
  ·refine VD [] [4,5] [4,5,100000,100001,100002] [] [] [(4,.ptr 4 0),(5,.ptr 5 0)] [(4,[.nils,.i 0,.nils,.i 0,.i 0]),(5,(zae x.2.2.2.2.2.2.2.2.2)),(100000,[.sl 5 (box.map zab)]),(100001,(zag box1)),(100002,[.i box2])] [] [] .nil ?_
   cases hF
   refine zav 4 0 60002 5 1 rfl rfl rfl rfl rfl ?_
   refine zav 4 2 60003 22 1 rfl rfl rfl rfl rfl ?_
   refine zau ⟨[],[(60002,30),(60003,20030)],[],[]⟩ rfl ?_
   exact Wz [(30,⟨0,true,false,false⟩),(20030,⟨0,true,false,false⟩)] hfin
  ·have⟨x1,h2,hF⟩:=oE hF
   have p3:=(Pe.ren (tablet_Put_1_ok ((x.2.2.2.2.2.1.map zar).length) 0 true ((x.2.2.2.2.2.2.2.1.map zab).length) 0 false 0 0 true h2) ⟨[(100000,10),(100001,100000),(100002,100001),(100003,100002)],[(100000,10),(100001,40010),(100002,20010)],[],[]⟩)
   refine RJ (.e [10,100000,100001,100002] [10,40010,20010] p3 .z) ?_
   refine LR0 ?_
   refine Nif hF ?_ ?_ <;> intro hb hF
   ·refine VD [] [4,5] [4,5,100000,100001,100002] [] [] [(4,.ptr 4 0),(5,.ptr 5 0)] [(4,[.nils,.i 0,.nils,.i 0,.i 0]),(5,(zae x1.1)),(100000,[.sl 5 (box.map zab)]),(100001,(zag x1.2.2.2.2.2.2.2.2.2.1)),(100002,[.i x1.2.2.2.2.2.2.2.2.2.2])] [] [] .nil ?_
    cases hF
    refine zav 4 0 60004 5 1 rfl rfl rfl rfl rfl ?_
    refine zav 4 2 60005 22 1 rfl rfl rfl rfl rfl ?_
    refine zau ⟨[],[(60004,30),(60005,20030)],[],[]⟩ rfl ?_
    exact Wz [(30,⟨0,true,false,false⟩),(20030,⟨0,true,false,false⟩)] hfin
   ·have⟨x2,h4,hF⟩:=oE hF
    have p5:=(Pe.ren (zlz h4) ⟨[],[(8,30),(13,20030)],[],[]⟩)
    refine DJ (.e [] [] p5 .z) ?_
    cases hF
    exact Wz [] hfin

/- tablet.Put -/
/- tablet.Put -/
def zlf (t0:Tablet)(l:Cs):Option (Tablet×Int×Fault):=
 ob (zs6 t0 l t0 0) fun x=>
 if (!decide (x.2.2.2.2.2.1.Code=0))=true then
  some ((⟨(⟨x.1,x.2.1⟩:Disk),x.2.2.1,x.2.2.2.1,x.2.2.2.2.1⟩:Tablet),0,x.2.2.2.2.2.1)
 else
  some ((⟨(⟨x.1,x.2.1⟩:Disk),x.2.2.1,x.2.2.2.1,x.2.2.2.2.1⟩:Tablet),x.2.2.2.2.2.2.2,x.2.2.2.2.2.1)
theorem tablet_Put_v1_ok {t0 l r}(hF:zlf t0 l=some r):Pe Tryz.prog 13 S.none [.agg (zag t0),.sl 5 (l.map zab)] (.tup [.agg (zag r.1),.i r.2.1,.agg (zae r.2.2)]) S.none:=by
 refine PT 24 [.cell 4 27,.tmp 5,.cell 6 35] [27,3,35] Tryz.func13 ?_
 intro Q g hfin
 unfold zlf at hF
 refine LR0 ?_
 refine LR0 ?_
 have⟨x,h0,hF⟩:=oE hF
 have p1:=(Pe.ren (tablet_with_ok h0) ⟨[(100000,3),(100001,2),(100002,7)],[(30,13),(20030,20013)],[],[]⟩)
 refine RJ (.e [3,2,7] [] p1 .z) ?_
 refine LR0 ?_
 refine Nif hF ?_ ?_ <;> intro hb hF
 ·refine LD0 ?_
  cases hF
  exact Wz [] hfin
 ·refine LD0 ?_
  cases hF
  exact Wz [] hfin

/- tablet.sized -/
def zfo (size:Int):Fault:=
 if ((decide (size<50))||(decide (4000<size)))=true then
  lt (zce 3 (-1)) fun x=>
  x
 else
  (⟨0,0⟩:Fault)
theorem zhc {size r}(hF:zfo size=r):Pe Tryz.prog 74 S.none [.i size] (.agg (zae r)) S.none:=by
 refine PT 11 [.cell 2 35] [35] Tryz.func74 ?_
 intro Q g hfin
 unfold zfo at hF
 refine LR0 ?_
 refine LR0 ?_
 refine Nif hF ?_ ?_ <;> intro hb hF
 ·have⟨x,h0,hF⟩:=lS hF
  refine RJ (.b (za2 h0) .z) ?_
  cases hF
  exact Wz [] hfin
 ·refine LR0 ?_
  cases hF
  exact Wz [] hfin

/- tablet.Flush$1 -/
def zqp (box:Int)(box1:Tablet):Option Fault:=
 lt (zfo box) fun x=>
 if (!decide (x.Code=0))=true then
  some x
 else
  none
theorem tablet_Flush_1_ok {box box1 r}(hF:zqp box box1=some r):Pe Tryz.prog 73 ⟨[],[(100000,[.i box]),(100001,(zag box1))],[],[],[]⟩ [.nilp,.ptr 100000 0,.ptr 100001 0] (.agg (zae r)) ⟨[],[(100000,[.i box]),(100001,(zag box1))],[],[],[]⟩:=by
 refine PT 54 [.cell 4 35] [35] Tryz.func73 ?_
 intro Q g hfin
 unfold zqp at hF
 refine LR0 ?_
 have⟨x,h0,hF⟩:=lS hF
 refine RJ (.b (zhc h0) .z) ?_
 refine LR0 ?_
 refine Nif hF ?_ ?_ <;> intro hb hF
 ·refine LR0 ?_
  cases hF
  exact Wz [] hfin
 ·cases hF

/- file.blocks -/
def zqu (v:B9×B9):Option (B9×B9):=
 some (v.1,v.2)
def zgr (l:Cs)(size:Int)(v1:B9×B9×B8×Int):Option ((B9×B9×B8×Int)⊕(B9×B9)):=
 if (decide (v1.2.2.2<(l.length:Int)))=true then
  zao (0<=v1.2.2.2/\v1.2.2.2<(l.length:Int)) <|
  ob (
   if (decide (v1.2.2.1.length=0))=true then
    zao (((v1.2.1++([(zad l v1.2.2.2).Row]:B9)).length:Int)*16<=140737488351232) <|
    some ((v1.2.1++([(zad l v1.2.2.2).Row]:B9)),(⟨(zad l v1.2.2.2).Row,(zad l v1.2.2.2).Col,(zad l v1.2.2.2).Time,(zad l v1.2.2.2).Gone,(zad l v1.2.2.2).Value⟩:Cell))
   else
    some (v1.2.1,(⟨(zad l v1.2.2.2).Row,(zad l v1.2.2.2).Col,(zad l v1.2.2.2).Time,(zad l v1.2.2.2).Gone,(zad l v1.2.2.2).Value⟩:Cell))) fun v2=>
  ob (zmr v2.2 v1.2.2.1) fun x=>
  ob (
   if ((decide (size<=(x.length:Int)))||(decide (v1.2.2.2=(w64 ((l.length:Int) - 1)))))=true then
    zao (((v1.1++([x]:B9)).length:Int)*24<=140737488351232) <|
    some ((v1.1++([x]:B9)),([]:B8))
   else
    some (v1.1,x)) fun v3=>
  some (Sum.inl (v3.1,v2.1,v3.2,w64 (v1.2.2.2+1)))
 else
  zev (zqu (v1.1,v1.2.1))
def zqk (l:Cs)(size:Int)(v0:B9×B9×B8×Int):Option (B9×B9):=
 zbg (fun y=>zgr l size y) v0
def zpe (l:Cs)(size:Int):Option (B9×B9):=
 zqk l size (([]:B9),([]:B9),([]:B8),0)
theorem file_blocks_ok {l size r}(hF:zpe l size=some r):Pe Tryz.prog 121 (.w []) [.sl 5 (l.map zab),.i size] (.tup [.row 40 0,.row 22 0]) ⟨[],[],[(22,.z 9 1 0 (r.2.map ze5)),(40,.z 22 1 0 (r.1.map zaf))],[],[]⟩:=by
 refine PT 44 [.tmp 4,.tmp 5] [25,86] Tryz.func121 ?_
 intro Q g hfin
 unfold zpe at hF
 refine LR0 ?_
 refine LR0 ?_
 refine NR [.nat (l.length:Int)] [0,1,4,5,6,9,10,11] [] [] [(0,.sl 5 (l.map zab)),(1,.i size),(4,.nils),(5,.nils),(6,.nils),(9,.sl 5 (l.map zab)),(10,.i (l.length:Int)),(11,.i 0)] (hc (zc5 zab l) .nil) ?_
 refine NmQ (fun v=>zqu v=some r) (fun v=>⟨[(4,.row 40 0),(5,.row 22 0)],[],[(22,.z 9 1 0 (v.2.map ze5)),(40,.z 22 1 0 (v.1.map zaf))],[],[]⟩) ?_ ?_
 ·refine zb5 ?_
  unfold zqk at hF
  refine zap 4 60000 22 1 rfl rfl rfl ?_
  refine zap 5 60001 9 1 rfl rfl rfl ?_
  refine zap 6 60002 5 1 rfl rfl rfl ?_
  refine zcj (fs:=[0,1,4,5,6,9,10,11]) (bs:=[]) (rs:=[60000,60001,60002]) (ms:=[]) (aa:=[]) (nv:=[]) rfl ?_
  refine zau ⟨[],[(60000,40),(60001,22),(60002,25)],[],[]⟩ rfl ?_
  refine zrv hF [] (fun v1=>⟨[(0,.sl 5 (l.map zab)),(1,.i size),(4,.row 40 0),(5,.row 22 0),(6,.row 25 0),(9,.sl 5 (l.map zab)),(10,.i (l.length:Int)),(11,.i v1.2.2.2)],[],[(22,.z 9 1 0 (v1.2.1.map ze5)),(25,.z 5 1 0 (v1.2.2.1.map zas)),(40,.z 22 1 0 (v1.1.map zaf))],[],[]⟩) ?_
  intro n1 v1 y1 hF ih1 dn1
  unfold zgr at hF
  refine LR0 ?_
  refine Nif hF ?_ ?_ <;> intro hb hF
  ·refine zb5 ?_
   have⟨h0,hF⟩:=aE hF
   refine RJ (.i zab h0 .z) ?_
   refine RJ (.a (.bo (decide (v1.2.2.1.length=0))) (.g (nil_ok zas v1.2.2.1) .z)) ?_
   have⟨v2,hv,hF⟩:=oE hF
   refine NmT (fun Z=>Z.up [0,1,4,5,6,7,8,9,10,11] [8] [22,25,40] [] [] [(8,(zg9 v2.2))] [(22,.z 9 1 0 (v2.1.map ze5))] []) ?_ ?_
   ·have hF:=hv
    refine Nif hF ?_ ?_ <;> intro hb hF
    ·have⟨h1,hF⟩:=aE hF
     refine RJ (.a (.sealed) (.p ze5 h1 .z)) ?_
     cases hF
     exact zgt [(22,⟨0,true,true,false⟩)]
    ·cases hF
     exact zgt []
   ·have⟨x,h2,hF⟩:=oE hF
    have p3:=(Pe.ren (cell_Add_v1_ok 0 0 true h2) ⟨[],[(100000,25)],[],[]⟩)
    refine RJ (.e [] [25] p3 .z) ?_
    refine RJ (.l zas x (.a (.nat (l.length:Int)) (.g (fun (_:(!(decide (size<=(x.length:Int))))=true)=>(zc5 zab l)) .z))) ?_
    have⟨v3,hv,hF⟩:=oE hF
    refine NmT (fun Z=>Z.up [0,1,4,5,6,9,10,11] [] [22,25,40] [] [(6,.row 25 0)] [] [(25,.z 5 1 0 (v3.2.map zas)),(40,.z 22 1 0 (v3.1.map zaf))] []) ?_ ?_
    ·have hF:=hv
     refine Nif hF ?_ ?_ <;> intro hb hF
     ·have⟨h4,hF⟩:=aE hF
      refine VR [.sealed,.xs ((v1.1++([x]:B9)).map zaf)] [0,1,4,5,6,9,10,11] [] [22,40] [] [(0,.sl 5 (l.map zab)),(1,.i size),(4,.row 40 1),(5,.row 22 0),(6,.nils),(9,.sl 5 (l.map zab)),(10,.i (l.length:Int)),(11,.i v1.2.2.2)] [] [(22,.z 9 1 0 (v2.1.map ze5)),(40,.z 22 1 1 ((v1.1++([x]:B9)).map zaf))] [] (hc (app_ok zaf v1.1 ([x]:B9)) (hc (zqv zaf h4) .nil)) ?_
      refine zap 6 60003 5 1 rfl rfl rfl ?_
      refine zcj (fs:=[0,1,4,5,6,9,10,11]) (bs:=[]) (rs:=[22,40,60003]) (ms:=[]) (aa:=[]) (nv:=[]) rfl ?_
      refine zau ⟨[],[(60003,25)],[],[]⟩ rfl ?_
      cases hF
      exact zgt [(40,⟨0,true,true,false⟩)]
     ·cases hF
      exact zgt [(25,⟨0,true,true,false⟩)]
    ·refine LR0 ?_
     exact zgb [] hF ih1
  ·refine zbm rfl ?_
   have hF:=zaj hF dn1
   exact ze4 (v1.1,v1.2.1) [] hF
 ·intro v hF
  unfold zqu at hF
  refine LR0 ?_
  cases hF
  exact Wz [] hfin

/- wire.AddFrame -/
def zgc (body row:B8):Option B8:=
 zao (((row++([zew (Int.fdiv (body.length:Int) (2 ^ (min (8:Int).toNat 64))),zew (body.length:Int)]:B8)).length:Int)*1<=140737488351232) <|
 lt ((row++([zew (Int.fdiv (body.length:Int) (2 ^ (min (8:Int).toNat 64))),zew (body.length:Int)]:B8))) fun v=>
 zao (((v++body).length:Int)*1<=140737488351232) <|
 zao (0<=(row.length:Int)/\(row.length:Int)<=((v++body).length:Int)) <|
 ob (zqc (zc1 (v++body) (row.length:Int))) fun x=>
 zao ((((v++body)++([zew (Int.fdiv x (2 ^ (min (24:Int).toNat 32))),zew (Int.fdiv x (2 ^ (min (16:Int).toNat 32))),zew (Int.fdiv x (2 ^ (min (8:Int).toNat 32))),zew x]:B8)).length:Int)*1<=140737488351232) <|
 lt (((v++body)++([zew (Int.fdiv x (2 ^ (min (24:Int).toNat 32))),zew (Int.fdiv x (2 ^ (min (16:Int).toNat 32))),zew (Int.fdiv x (2 ^ (min (8:Int).toNat 32))),zew x]:B8))) fun v1=>
 some v1
theorem zpo (rk rc:Nat)(rn:Bool){body row r}(hF:zgc body row=some r):Pe Tryz.prog 112 (.w [(100000,.q 5 1 0 rk rc rn (row.map zas))]) [.row 100000 0,.sl 1 (body.map zas)] (.row 100000 3) ⟨[],[],[(100000,⟨5,1,3,(r.map zas).length,rc,rn,0,[],(r.map zas)⟩)],[],[]⟩:=by
 refine PT 40 [.tmp 4] [22] Tryz.func112 ?_
 intro Q g hfin
 unfold zgc at hF
 refine LR0 ?_
 refine RJ (.l zas row .z) ?_
 have⟨h0,hF⟩:=aE hF
 have⟨v,hv,hF⟩:=lS hF
 refine RJ (.l zas body (.g (by decide:(0:Int)<=8) (.l zas body (.a (.sealed) (.pN zas hv h0 .z))))) ?_
 have⟨h1,hF⟩:=aE hF
 refine RJ (.p zas h1 .z) ?_
 have⟨h2,hF⟩:=aE hF
 have⟨x,h3,hF⟩:=oE hF
 refine RJ (.s10 zas h2 (.b (zow h3) .z)) ?_
 have⟨h4,hF⟩:=aE hF
 have⟨v1,hv,hF⟩:=lS hF
 refine RJ (.g (by decide:(0:Int)<=24) (.g (by decide:(0:Int)<=16) (.g (by decide:(0:Int)<=8) (.a (.sealed) (.pN zas hv h4 .z))))) ?_
 cases hF
 exact Wz [(100000,⟨3,true,true,true⟩)] hfin

/- file.Make -/
def file_Make_J2 (v1:Fault×B8):Option (B8×Fault):=
 some (v1.2,(⟨0,0⟩:Fault))
def ziw (x3:B9×B9)(v:Fault×B8)(x4:B8)(v2:Fault×B8×Int):Option ((Fault×B8×Int)⊕(B8×Fault)):=
 lt (decide (v2.2.2<((x3.1++([v.2,x4]:B9)).length:Int))) fun v3=>
 if v3=true then
  zao (0<=v2.2.2/\v2.2.2<((x3.1++([v.2,x4]:B9)).length:Int)) <|
  zao (0<=v2.2.2/\v2.2.2<((x3.1++([v.2,x4]:B9)).length:Int)) <|
  if (decide (60000<(w64 ((w64 ((v2.2.1.length:Int)+((zad (x3.1++([v.2,x4]:B9)) v2.2.2).length:Int)))+6))))=true then
   lt (zg2 9 0) fun x5=>
   some (Sum.inr (([]:B8),x5))
  else
   ob (zgc (zad (x3.1++([v.2,x4]:B9)) v2.2.2) v2.2.1) fun x6=>
   some (Sum.inl (v2.1,x6,w64 (v2.2.2+1)))
 else
  zev (file_Make_J2 (v2.1,v2.2.1))
def zqa (x3:B9×B9)(v:Fault×B8)(x4:B8)(v0:Fault×B8×Int):Option (B8×Fault):=
 zbg (fun y=>ziw x3 v x4 y) v0
def znd (l:Cs)(x3:B9×B9)(v:Fault×B8):Option (B8×Fault):=
 ob (zkn l) fun x4=>
 zao (((x3.1++([v.2,x4]:B9)).length:Int)*24<=140737488351232) <|
 zqa x3 v x4 (v.1,([]:B8),0)
def zi7 (l:Cs)(x3:B9×B9)(v4:Fault×B8×Int):Option ((Fault×B8×Int)⊕(B8×Fault)):=
 if (decide (v4.2.2<(x3.1.length:Int)))=true then
  zao (0<=v4.2.2/\v4.2.2<(x3.1.length:Int)) <|
  zao (0<=v4.2.2/\v4.2.2<(x3.1.length:Int)) <|
  zao (0<=v4.2.2/\v4.2.2<(x3.2.length:Int)) <|
  zao (0<=v4.2.2/\v4.2.2<(x3.2.length:Int)) <|
  ob (ze6 (zad x3.2 v4.2.2) v4.2.1) fun x7=>
  ob (zfm ((zad x3.1 v4.2.2).length:Int) x7) fun x8=>
  some (Sum.inl (v4.1,x8,w64 (v4.2.2+1)))
 else
  zev (znd l x3 (v4.1,v4.2.1))
def zpy (l:Cs)(x3:B9×B9)(v0:Fault×B8×Int):Option (B8×Fault):=
 zbg (fun y=>zi7 l x3 y) v0
def zo6 (l:Cs)(size:Int):Option (B8×Fault):=
 ob (zje l) fun x=>
 if (!decide (x.Code=0))=true then
  some (([]:B8),x)
 else
  if (decide (500<(l.length:Int)))=true then
   lt (zg2 2 (-1)) fun x1=>
   some (([]:B8),x1)
  else
   if ((decide (size<50))||(decide (4000<size)))=true then
    lt (zg2 3 (-1)) fun x2=>
    some (([]:B8),x2)
   else
    ob (zpe l size) fun x3=>
    zpy l x3 ((⟨0,0⟩:Fault),([]:B8),0)
theorem file_Make_ok {l size r}(hF:zo6 l size=some r):Pe Tryz.prog 75 (.w []) [.sl 5 (l.map zab),.i size] (.tup [.row 76 0,.agg (zae r.2)]) ⟨[],[],[(76,⟨5,1,0,(r.1.map zas).length,0,true,0,[],(r.1.map zas)⟩)],[],[]⟩:=by
 refine PT 80 [.tmp 4,.cell 5 35] [22,35] Tryz.func75 ?_
 intro Q g hfin
 unfold zo6 at hF
 refine LR0 ?_
 have⟨x,h0,hF⟩:=oE hF
 refine RJ (.b (zk3 h0) .z) ?_
 refine LR0 ?_
 refine Nif hF ?_ ?_ <;> intro hb hF
 ·refine VD [] [4,5] [5] [] [] [(4,.nils),(5,.ptr 5 0)] [(5,(zae x))] [] [] .nil ?_
  cases hF
  refine zap 4 60000 5 1 rfl rfl rfl ?_
  refine zau ⟨[],[(60000,76)],[],[]⟩ rfl ?_
  exact Wz [(76,⟨0,true,true,true⟩)] hfin
 ·refine RJ (.l zab l .z) ?_
  refine Nif hF ?_ ?_ <;> intro hb hF
  ·have⟨x1,h1,hF⟩:=lS hF
   refine VR [.callB (.agg (zae x1))] [4,5] [5] [] [] [(4,.nils),(5,.ptr 5 0)] [(5,(zae x1))] [] [] (hc (zfj h1) .nil) ?_
   cases hF
   refine zap 4 60001 5 1 rfl rfl rfl ?_
   refine zau ⟨[],[(60001,76)],[],[]⟩ rfl ?_
   exact Wz [(76,⟨0,true,true,true⟩)] hfin
  ·refine LR0 ?_
   refine Nif hF ?_ ?_ <;> intro hb hF
   ·have⟨x2,h2,hF⟩:=lS hF
    refine VR [.callB (.agg (zae x2))] [4,5] [5] [] [] [(4,.nils),(5,.ptr 5 0)] [(5,(zae x2))] [] [] (hc (zfj h2) .nil) ?_
    cases hF
    refine zap 4 60002 5 1 rfl rfl rfl ?_
    refine zau ⟨[],[(60002,76)],[],[]⟩ rfl ?_
    exact Wz [(76,⟨0,true,true,true⟩)] hfin
   ·have⟨x3,h3,hF⟩:=oE hF
    have p4:=(Pe.ren (file_blocks_ok h3) ⟨[],[(22,35),(40,20035)],[],[]⟩)
    refine RJ (.e [] [] p4 .z) ?_
    refine LR0 ?_
    refine VR [.nat (x3.1.length:Int)] [0,5,7,8,9,38,39,40] [5] [35,20035] [] [(0,.sl 5 (l.map zab)),(5,.ptr 5 0),(7,.row 20035 0),(8,.row 35 0),(9,.nils),(38,.row 20035 0),(39,.i (x3.1.length:Int)),(40,.i 0)] [(5,[.i 0,.i 0])] [(35,.z 9 1 0 (x3.2.map ze5)),(20035,.z 22 1 0 (x3.1.map zaf))] [] (hc (zc5 zaf x3.1) .nil) ?_
    refine NmS (fun v=>znd l x3 v=some r) (fun Z v=>Z.up [0,5,7,9] [5] [50,20035] [] [(9,.row 50 0)] [(5,(zae v.1))] [(50,.z 5 1 0 (v.2.map zas))] []) ?_ ?_
    ·refine zb5 ?_
     unfold zpy at hF
     refine zap 9 60005 5 1 rfl rfl rfl ?_
     refine zcj (fs:=[0,5,7,8,9,38,39,40]) (bs:=[5]) (rs:=[35,20035,60005]) (ms:=[]) (aa:=[]) (nv:=[]) rfl ?_
     refine zau ⟨[],[(60005,50)],[],[]⟩ rfl ?_
     refine zrv hF [] (fun v4=>⟨[(0,.sl 5 (l.map zab)),(5,.ptr 5 0),(7,.row 20035 0),(8,.row 35 0),(9,.row 50 0),(38,.row 20035 0),(39,.i (x3.1.length:Int)),(40,.i v4.2.2)],[(5,(zae v4.1))],[(35,.z 9 1 0 (x3.2.map ze5)),(50,.z 5 1 0 (v4.2.1.map zas)),(20035,.z 22 1 0 (x3.1.map zaf))],[],[]⟩) ?_
     intro n1 v4 y1 hF ih1 dn1
     unfold zi7 at hF
     refine LR0 ?_
     refine Nif hF ?_ ?_ <;> intro hb hF
     ·refine zb5 ?_
      have⟨h13,h14,hF⟩:=zf7 hF
      refine RJ (.x zaf h13 (.r zaf h14 .z)) ?_
      have⟨h15,h16,hF⟩:=zf7 hF
      have⟨x7,h17,hF⟩:=oE hF
      have p18:=(Pe.ren (zif 0 0 true h17) ⟨[],[(100000,50)],[],[]⟩)
      have⟨x8,h19,hF⟩:=oE hF
      have p20:=(Pe.ren (zjh 0 0 true h19) ⟨[],[(100000,50)],[],[(100000,3)]⟩)
      refine RJ (.x ze5 h15 (.r ze5 h16 (.e [] [50] p18 (.l zas (zad x3.1 v4.2.2) (.e [] [50] p20 .z))))) ?_
      refine LR0 ?_
      exact zgb [(50,⟨0,true,true,false⟩)] hF ih1
     ·refine zbm rfl ?_
      have hF:=zaj hF dn1
      exact ze4 (v4.1,v4.2.1) [] hF
    ·intro v hF
     unfold znd at hF
     refine LR0 ?_
     have⟨x4,h5,hF⟩:=oE hF
     have p6:=(Pe.ren (file_filter_ok h5) ⟨[],[(36,58)],[],[]⟩)
     have⟨h7,hF⟩:=aE hF
     refine VR [cE [] [] [] [] p6,.sealed,.xs ((x3.1++([v.2,x4]:B9)).map zaf),.nat ((x3.1++([v.2,x4]:B9)).length:Int)] [5,12,60,61,62] [5] [20035] [] [(5,.ptr 5 0),(12,.nils),(60,.row 20035 1),(61,.i ((x3.1++([v.2,x4]:B9)).length:Int)),(62,.i 0)] [(5,(zae v.1))] [(20035,.z 22 1 1 ((x3.1++([v.2,x4]:B9)).map zaf))] [] (hc p6 (hc (app_ok zaf x3.1 ([v.2,x4]:B9)) (hc (zqv zaf h7) (hc (zc5 zaf (x3.1++([v.2,x4]:B9))) .nil)))) ?_
     refine NmQ (fun v1=>file_Make_J2 v1=some r) (fun v1=>⟨[(5,.ptr 5 0),(12,.row 76 0)],[(5,(zae v1.1))],[(76,⟨5,1,0,(v1.2.map zas).length,0,true,0,[],(v1.2.map zas)⟩)],[],[]⟩) ?_ ?_
     ·refine zb5 ?_
      unfold zqa at hF
      refine zap 12 60003 5 1 rfl rfl rfl ?_
      refine zcj (fs:=[5,12,60,61,62]) (bs:=[5]) (rs:=[20035,60003]) (ms:=[]) (aa:=[]) (nv:=[]) rfl ?_
      refine zau ⟨[],[(60003,76)],[],[]⟩ rfl ?_
      refine zrv hF [(76,⟨0,true,true,true⟩)] (fun v2=>⟨[(5,.ptr 5 0),(12,.row 76 0),(60,.row 20035 1),(61,.i ((x3.1++([v.2,x4]:B9)).length:Int)),(62,.i v2.2.2)],[(5,(zae v2.1))],[(76,⟨5,1,0,(v2.2.1.map zas).length,0,true,0,[],(v2.2.1.map zas)⟩),(20035,.z 22 1 1 ((x3.1++([v.2,x4]:B9)).map zaf))],[],[]⟩) ?_
      intro n1 v2 y1 hF ih1 dn1
      unfold ziw at hF
      refine NRL (decide (v2.2.2<((x3.1++([v.2,x4]:B9)).length:Int))) (fun v3:Bool=>([(63,.bool v3)],[],[],[])) [] [5,12,60,61,62,63] [5] [76,20035] [] .nil (fun v3 hv=>?_)
      have hF:=zeg hF hv
      refine Nif hF ?_ ?_ <;> intro hb hF
      ·refine zb5 ?_
       have⟨h8,h9,hF⟩:=zf7 hF
       refine RJ (.x zaf h8 (.r zaf h9 .z)) ?_
       refine RJ (.l zas v2.2.1 (.l zas (zad (x3.1++([v.2,x4]:B9)) v2.2.2) .z)) ?_
       refine Nif hF ?_ ?_ <;> intro hb hF
       ·have⟨x5,h10,hF⟩:=lS hF
        refine VR [.callB (.agg (zae x5))] [4,5] [5] [] [] [(4,.nils),(5,.ptr 5 0)] [(5,(zae x5))] [] [] (hc (zfj h10) .nil) ?_
        have hF:=zcr hF dn1
        cases hF
        refine zap 4 60004 5 1 rfl rfl rfl ?_
        refine zau ⟨[],[(60004,76)],[],[]⟩ rfl ?_
        exact Wz [(76,⟨0,true,true,true⟩)] hfin
       ·have⟨x6,h11,hF⟩:=oE hF
        have p12:=(Pe.ren (zpo ((v2.2.1.map zas).length) 0 true h11) ⟨[],[(100000,76)],[],[]⟩)
        refine RJ (.e [] [76] p12 .z) ?_
        refine LR0 ?_
        exact zgb [(76,⟨0,true,true,true⟩)] hF ih1
      ·refine zbm rfl ?_
       have hF:=zaj hF dn1
       exact ze4 (v2.1,v2.2.1) [] hF
     ·intro v1 hF
      unfold file_Make_J2 at hF
      refine LR0 ?_
      cases hF
      exact Wz [] hfin

/- tablet.Flush$1 -/
def zhd (box:B8)(box1:Int)(box2:B9)(box3 box4:Int)(box5 box6:Int)(box7:Tablet)(row:List Note)(row1:Cs)(row2:List Cs):Option (Fault×B8×Int×B9×Int×Int×Int×Cs):=
 lt (zfo box6) fun x=>
 if (!decide (x.Code=0))=true then
  some (x,box,box1,box2,box3,box4,box5,row1)
 else
  if (decide (box5=box7.Done))=true then
   lt (zce 6 0) fun x1=>
   some (x1,box,box1,box2,box3,box4,box5,row1)
  else
   if (decide ((box7.Files.length:Int)=10))=true then
    lt (zce 2 (-2)) fun x2=>
    some (x2,box,box1,box2,box3,box4,box5,row1)
   else
    ob (zo6 row1 box6) fun x3=>
    zao (((([x3.1]:B9)++box7.Files).length:Int)*24<=140737488351232) <|
    some (x3.2,box,box1,(([x3.1]:B9)++box7.Files),box5,box4,box5,row1)
theorem tablet_Flush_1_v1_ok (rk rc:Nat)(rn:Bool)(rk1 rc1:Nat)(rn1:Bool)(rk2 rc2:Nat)(rn2:Bool){box box1 box2 box3 box4 box5 box6 box7 row row1 row2 r}(hF:zhd box box1 box2 box3 box4 box5 box6 box7 row row1 row2=some r):Pe Tryz.prog 73 ⟨[],[(100000,[.sl 1 (box.map zas),.i box1,.sl 1 (box2.map zaf),.i box3,.i box4,.row 100000 0,.i box5,.row 100001 0,.row 100002 0]),(100001,[.i box6]),(100002,(zag box7))],[(100000,.q 50 2 0 rk rc rn (row.map zar)),(100001,.q 53 5 0 rk1 rc1 rn1 (row1.map zab)),(100002,.q 28 1 0 rk2 rc2 rn2 (row2.map zal))],[],[]⟩ [.ptr 100000 0,.ptr 100001 0,.ptr 100002 0] (.agg (zae r.1)) ⟨[],[(100000,[.sl 1 (r.2.1.map zas),.i r.2.2.1,.sl 1 (r.2.2.2.1.map zaf),.i r.2.2.2.2.1,.i r.2.2.2.2.2.1,.row 100000 0,.i r.2.2.2.2.2.2.1,.row 100001 0,.row 100002 0]),(100001,[.i box6]),(100002,(zag box7))],[(100000,.q 50 2 0 rk rc rn (row.map zar)),(100001,⟨53,5,0,(r.2.2.2.2.2.2.2.map zab).length,rc1,rn1,0,[],(r.2.2.2.2.2.2.2.map zab)⟩),(100002,.q 28 1 0 rk2 rc2 rn2 (row2.map zal))],[],[]⟩:=by
 refine PT 54 [.cell 4 35] [35] Tryz.func73 ?_
 intro Q g hfin
 unfold zhd at hF
 refine LR0 ?_
 have⟨x,h0,hF⟩:=lS hF
 refine RJ (.b (zhc h0) .z) ?_
 refine LR0 ?_
 refine Nif hF ?_ ?_ <;> intro hb hF
 ·refine LR0 ?_
  cases hF
  exact Wz [(100001,⟨0,true,true,true⟩)] hfin
 ·refine LD0 ?_
  refine Nif hF ?_ ?_ <;> intro hb hF
  ·have⟨x1,h1,hF⟩:=lS hF
   refine RJ (.b (za2 h1) .z) ?_
   cases hF
   exact Wz [(100001,⟨0,true,true,true⟩)] hfin
  ·refine RJ (.l zaf box7.Files .z) ?_
   refine Nif hF ?_ ?_ <;> intro hb hF
   ·have⟨x2,h2,hF⟩:=lS hF
    refine RJ (.b (za2 h2) .z) ?_
    cases hF
    exact Wz [(100001,⟨0,true,true,true⟩)] hfin
   ·have⟨x3,h3,hF⟩:=oE hF
    have p4:=(Pe.ren (file_Make_ok h3) ⟨[],[(76,33)],[],[]⟩)
    refine DJ (.e [] [] p4 .z) ?_
    have⟨h5,hF⟩:=aE hF
    refine DJ (.p zaf h5 .z) ?_
    refine VR [] [4] [4,100000,100001,100002] [39,100000,100001,100002] [] [(4,.ptr 4 0)] [(4,(zae x3.2)),(100000,[.sl 1 (box.map zas),.i box1,.row 39 1,.i box5,.i box4,.row 100000 0,.i box5,.row 100001 0,.row 100002 0]),(100001,[.i box6]),(100002,(zag box7))] [(39,.z 22 1 1 ((([x3.1]:B9)++box7.Files).map zaf)),(100000,.q 50 2 0 rk rc rn (row.map zar)),(100001,⟨53,5,0,(row1.map zab).length,rc1,rn1,0,[],(row1.map zab)⟩),(100002,.q 28 1 0 rk2 rc2 rn2 (row2.map zal))] [] .nil ?_
    cases hF
    refine zo1 [100000,100001,100002] 100000 rfl rfl ?_
    exact Wz [] hfin

/- tablet.with -/
def zmw (t0:Tablet)(box:Int)(box1:Tablet):Option (B8×Int×B9×Int×Int×Fault):=
 ob (zf1 t0) fun x=>
 sm x (fun (x:Fault)=>
  if (!decide (x.Code=0))=true then
   some (([]:B8),0,([]:B9),0,0,x)
  else
   ob (zqp box box1) fun x1=>
   if (!decide (x1.Code=0))=true then
    some (([]:B8),0,([]:B9),0,0,x1)
   else
    none) (fun (x:B8×Int×B9×Int×Int×List Note×Int×Cs×List Cs×Fault)=>
  if (!decide (x.2.2.2.2.2.2.2.2.2.Code=0))=true then
   some (([]:B8),0,([]:B9),0,0,x.2.2.2.2.2.2.2.2.2)
  else
   ob (zhd x.1 x.2.1 x.2.2.1 x.2.2.2.1 x.2.2.2.2.1 x.2.2.2.2.2.2.1 box box1 x.2.2.2.2.2.1 x.2.2.2.2.2.2.2.1 x.2.2.2.2.2.2.2.2.1) fun x1=>
   if (!decide (x1.1.Code=0))=true then
    some (([]:B8),0,([]:B9),0,0,x1.1)
   else
    ob (zh9 (⟨(⟨x1.2.1,x1.2.2.1⟩:Disk),x1.2.2.2.1,x1.2.2.2.2.1,x1.2.2.2.2.2.1⟩:Tablet)) fun x2=>
    some (x2.1,x2.2.1,x2.2.2.1,x2.2.2.2.1,x2.2.2.2.2,x1.1))
theorem tablet_with_v1_ok {t0 box box1 r}(hF:zmw t0 box box1=some r):Pe Tryz.prog 62 ⟨[],[(100000,[.i box]),(100001,(zag box1))],[],[],[]⟩ [.agg (zag t0),.fn 73 [.ptr 100000 0,.ptr 100001 0]] (.tup [.agg [.row 30 0,.i r.2.1,.row 20030 0,.i r.2.2.2.1,.i r.2.2.2.2.1],.agg (zae r.2.2.2.2.2)]) ⟨[],[(100000,[.i box]),(100001,(zag box1))],[(30,.o 5 1 0 (r.1.map zas)),(20030,.o 22 1 0 (r.2.2.1.map zaf))],[],[]⟩:=by
 refine PT 32 [.cell 4 27,.cell 5 35] [27,35] Tryz.func62 ?_
 intro Q g hfin
 unfold zmw at hF
 refine LR0 ?_
 have⟨x,h0,hF⟩:=oE hF
 rcases x with x | x
 ·have hF:=sm_l hF
  refine RJ (.b (zi2 h0) .z) ?_
  refine LR0 ?_
  refine Nif hF ?_ ?_ <;> intro hb hF
  ·refine VD [] [4,5] [4,5,100000,100001] [] [] [(4,.ptr 4 0),(5,.ptr 5 0)] [(4,[.nils,.i 0,.nils,.i 0,.i 0]),(5,(zae x)),(100000,[.i box]),(100001,(zag box1))] [] [] .nil ?_
   cases hF
   refine zav 4 0 60000 5 1 rfl rfl rfl rfl rfl ?_
   refine zav 4 2 60001 22 1 rfl rfl rfl rfl rfl ?_
   refine zau ⟨[],[(60000,30),(60001,20030)],[],[]⟩ rfl ?_
   exact Wz [(30,⟨0,true,false,false⟩),(20030,⟨0,true,false,false⟩)] hfin
  ·have⟨x1,h1,hF⟩:=oE hF
   refine RJ (.q [100000,100001] [] (Pe.ren (tablet_Flush_1_ok h1) ⟨[],[],[],[]⟩) .z) ?_
   refine LR0 ?_
   refine Nif hF ?_ ?_ <;> intro hb hF
   ·refine VD [] [4,5] [4,5,100000,100001] [] [] [(4,.ptr 4 0),(5,.ptr 5 0)] [(4,[.nils,.i 0,.nils,.i 0,.i 0]),(5,(zae x1)),(100000,[.i box]),(100001,(zag box1))] [] [] .nil ?_
    cases hF
    refine zav 4 0 60002 5 1 rfl rfl rfl rfl rfl ?_
    refine zav 4 2 60003 22 1 rfl rfl rfl rfl rfl ?_
    refine zau ⟨[],[(60002,30),(60003,20030)],[],[]⟩ rfl ?_
    exact Wz [(30,⟨0,true,false,false⟩),(20030,⟨0,true,false,false⟩)] hfin
   ·cases hF
 ·have hF:=sm_r hF
  have p1:=(Pe.ren (zi6 h0) ⟨[(49,10)],[(54,10),(143,20010),(149,40010)],[],[]⟩)
  refine RJ (.e [] [] p1 .z) ?_
  refine LR0 ?_
  refine Nif hF ?_ ?_ <;> intro hb hF
  ·refine VD [] [4,5] [4,5,100000,100001] [] [] [(4,.ptr 4 0),(5,.ptr 5 0)] [(4,[.nils,.i 0,.nils,.i 0,.i 0]),(5,(zae x.2.2.2.2.2.2.2.2.2)),(100000,[.i box]),(100001,(zag box1))] [] [] .nil ?_
   cases hF
   refine zav 4 0 60004 5 1 rfl rfl rfl rfl rfl ?_
   refine zav 4 2 60005 22 1 rfl rfl rfl rfl rfl ?_
   refine zau ⟨[],[(60004,30),(60005,20030)],[],[]⟩ rfl ?_
   exact Wz [(30,⟨0,true,false,false⟩),(20030,⟨0,true,false,false⟩)] hfin
  ·have⟨x1,h2,hF⟩:=oE hF
   have p3:=(Pe.ren (tablet_Flush_1_v1_ok ((x.2.2.2.2.2.1.map zar).length) 0 true ((x.2.2.2.2.2.2.2.1.map zab).length) 0 false 0 0 true h2) ⟨[(100000,10),(100001,100000),(100002,100001)],[(100000,10),(100001,40010),(100002,20010)],[],[]⟩)
   refine RJ (.e [10,100000,100001] [10,40010,20010] p3 .z) ?_
   refine LR0 ?_
   refine Nif hF ?_ ?_ <;> intro hb hF
   ·refine VD [] [4,5] [4,5,100000,100001] [] [] [(4,.ptr 4 0),(5,.ptr 5 0)] [(4,[.nils,.i 0,.nils,.i 0,.i 0]),(5,(zae x1.1)),(100000,[.i box]),(100001,(zag box1))] [] [] .nil ?_
    cases hF
    refine zav 4 0 60006 5 1 rfl rfl rfl rfl rfl ?_
    refine zav 4 2 60007 22 1 rfl rfl rfl rfl rfl ?_
    refine zau ⟨[],[(60006,30),(60007,20030)],[],[]⟩ rfl ?_
    exact Wz [(30,⟨0,true,false,false⟩),(20030,⟨0,true,false,false⟩)] hfin
   ·have⟨x2,h4,hF⟩:=oE hF
    have p5:=(Pe.ren (zlz h4) ⟨[],[(8,30),(13,20030)],[],[]⟩)
    refine DJ (.e [] [] p5 .z) ?_
    cases hF
    exact Wz [] hfin

/- tablet.Flush -/
/- tablet.Flush -/
def zi9 (t0:Tablet)(size:Int):Option (Tablet×Fault):=
 ob (zmw t0 size t0) fun x=>
 some ((⟨(⟨x.1,x.2.1⟩:Disk),x.2.2.1,x.2.2.2.1,x.2.2.2.2.1⟩:Tablet),x.2.2.2.2.2)
theorem tablet_Flush_v1_ok {t0 size r}(hF:zi9 t0 size=some r):Pe Tryz.prog 16 S.none [.agg (zag t0),.i size] (.tup [.agg (zag r.1),.agg (zae r.2)]) S.none:=by
 refine PT 11 [.cell 4 27,.cell 5 35] [27,35] Tryz.func16 ?_
 intro Q g hfin
 unfold zi9 at hF
 refine LR0 ?_
 have⟨x,h0,hF⟩:=oE hF
 have p1:=(Pe.ren (tablet_with_v1_ok h0) ⟨[(100000,3),(100001,2)],[(30,8),(20030,20008)],[],[]⟩)
 refine RJ (.e [3,2] [] p1 .z) ?_
 cases hF
 exact Wz [] hfin

/- wal.Frame -/
def zm5 (num:Note)(row:B8):Option B8:=
 ob (zra num) fun x=>
 ob (zgc x row) fun x1=>
 some x1
theorem wal_Frame_v2_ok (rk rc:Nat)(rn:Bool){num row r}(hF:zm5 num row=some r):Pe Tryz.prog 67 (.w [(100000,.q 5 1 0 rk rc rn (row.map zas))]) [.row 100000 0,.agg (c_Note num)] (.row 100000 3) ⟨[],[],[(100000,⟨5,1,3,(r.map zas).length,rc,rn,0,[],(r.map zas)⟩)],[],[]⟩:=by
 refine PT 9 [.tmp 4] [22] Tryz.func67 ?_
 intro Q g hfin
 unfold zm5 at hF
 refine LR0 ?_
 have⟨x,h0,hF⟩:=oE hF
 have p1:=(Pe.ren (wal_bytes_ok h0) ⟨[],[(8,7)],[],[]⟩)
 have⟨x1,h2,hF⟩:=oE hF
 have p3:=(Pe.ren (zpo rk rc rn h2) ⟨[],[],[],[]⟩)
 refine RJ (.e [] [] p1 (.e [] [100000] p3 .z)) ?_
 cases hF
 exact Wz [] hfin

/- tablet.Cut$1 -/
def zlj (box2:B9)(box3 box4 box5:Int)(v:Fault×B8×Tablet):Option (Fault×B8×Int×B9×Int×Int×Int×Tablet):=
 some ((⟨0,0⟩:Fault),v.2.1,(v.2.1.length:Int),box2,box3,box4,box5,v.2.2)
def zk2 (box2:B9)(box3 box4 box5:Int)(row:List Note)(v1:Tablet×Fault×B8×Int):Option ((Tablet×Fault×B8×Int)⊕(Fault×B8×Int×B9×Int×Int×Int×Tablet)):=
 if (decide (v1.2.2.2<(row.length:Int)))=true then
  zao (0<=v1.2.2.2/\v1.2.2.2<(row.length:Int)) <|
  zao (0<=v1.2.2.2/\v1.2.2.2<(row.length:Int)) <|
  ob (
   if (decide (v1.1.Done<((zad row v1.2.2.2).Seq)))=true then
    ob (zm5 (⟨(zad row v1.2.2.2).Seq,(zad row v1.2.2.2).Cells⟩:Note) v1.2.2.1) fun x=>
    some (v1.1,v1.2.1,x)
   else
    some (v1.1,v1.2.1,v1.2.2.1)) fun v2=>
  some (Sum.inl (v2.1,v2.2.1,v2.2.2,w64 (v1.2.2.2+1)))
 else
  zev (zlj box2 box3 box4 box5 (v1.2.1,v1.2.2.1,v1.1))
def zoq (box2:B9)(box3 box4 box5:Int)(row:List Note)(v0:Tablet×Fault×B8×Int):Option (Fault×B8×Int×B9×Int×Int×Int×Tablet):=
 zbg (fun y=>zk2 box2 box3 box4 box5 row y) v0
def zqf (box:B8)(box1:Int)(box2:B9)(box3 box4 box5:Int)(box6:Tablet)(row:List Note)(row1:Cs)(row2:List Cs):Option (Fault×B8×Int×B9×Int×Int×Int×Tablet):=
 zoq box2 box3 box4 box5 row (box6,(⟨0,0⟩:Fault),([]:B8),0)
theorem tablet_Cut_1_ok (rk rc:Nat)(rn:Bool)(rk1 rc1:Nat)(rn1:Bool)(rk2 rc2:Nat)(rn2:Bool){box box1 box2 box3 box4 box5 box6 row row1 row2 r}(hF:zqf box box1 box2 box3 box4 box5 box6 row row1 row2=some r):Pe Tryz.prog 76 ⟨[],[(100000,[.sl 1 (box.map zas),.i box1,.sl 1 (box2.map zaf),.i box3,.i box4,.row 100000 0,.i box5,.row 100001 0,.row 100002 0]),(100001,(zag box6))],[(100000,.q 50 2 0 rk rc rn (row.map zar)),(100001,.q 53 5 0 rk1 rc1 rn1 (row1.map zab)),(100002,.q 28 1 0 rk2 rc2 rn2 (row2.map zal))],[],[]⟩ [.ptr 100000 0,.ptr 100001 0] (.agg (zae r.1)) ⟨[],[(100000,[.row 23 0,.i r.2.2.1,.sl 1 (r.2.2.2.1.map zaf),.i r.2.2.2.2.1,.i r.2.2.2.2.2.1,.row 100000 0,.i r.2.2.2.2.2.2.1,.row 100001 0,.row 100002 0]),(100001,(zag r.2.2.2.2.2.2.2))],[(100000,.q 50 2 0 rk rc rn (row.map zar)),(100001,.q 53 5 0 rk1 rc1 rn1 (row1.map zab)),(100002,.q 28 1 0 rk2 rc2 rn2 (row2.map zal)),(23,⟨5,1,0,(r.2.1.map zas).length,0,true,0,[],(r.2.1.map zas)⟩)],[],[]⟩:=by
 refine PT 34 [.cell 3 35] [35] Tryz.func76 ?_
 intro Q g hfin
 unfold zqf at hF
 refine LR0 ?_
 refine LR0 ?_
 refine VR [.nat (row.length:Int)] [0,1,3,4,10,11,12] [3,100000,100001] [100000,100001,100002] [] [(0,.ptr 100000 0),(1,.ptr 100001 0),(3,.ptr 3 0),(4,.nils),(10,.row 100000 0),(11,.i (row.length:Int)),(12,.i 0)] [(3,[.i 0,.i 0]),(100000,[.sl 1 (box.map zas),.i box1,.sl 1 (box2.map zaf),.i box3,.i box4,.row 100000 0,.i box5,.row 100001 0,.row 100002 0]),(100001,(zag box6))] [(100000,.q 50 2 0 rk rc rn (row.map zar)),(100001,.q 53 5 0 rk1 rc1 rn1 (row1.map zab)),(100002,.q 28 1 0 rk2 rc2 rn2 (row2.map zal))] [] (hc (zc5 zar row) .nil) ?_
 refine NmS (fun v=>zlj box2 box3 box4 box5 v=some r) (fun Z v=>Z.up [0,3,4] [3,100000,100001] [23,100000,100001,100002] [] [(4,.row 23 0)] [(3,(zae v.1)),(100001,(zag v.2.2))] [(23,⟨5,1,0,(v.2.1.map zas).length,0,true,0,[],(v.2.1.map zas)⟩)] []) ?_ ?_
 ·refine zb5 ?_
  unfold zoq at hF
  refine zap 4 60000 5 1 rfl rfl rfl ?_
  refine zcj (fs:=[0,1,3,4,10,11,12]) (bs:=[3,100000,100001]) (rs:=[60000,100000,100001,100002]) (ms:=[]) (aa:=[]) (nv:=[]) rfl ?_
  refine zau ⟨[],[(60000,23)],[],[]⟩ rfl ?_
  refine zrv hF [(23,⟨0,true,true,true⟩)] (fun v1=>⟨[(0,.ptr 100000 0),(1,.ptr 100001 0),(3,.ptr 3 0),(4,.row 23 0),(10,.row 100000 0),(11,.i (row.length:Int)),(12,.i v1.2.2.2)],[(3,(zae v1.2.1)),(100000,[.sl 1 (box.map zas),.i box1,.sl 1 (box2.map zaf),.i box3,.i box4,.row 100000 0,.i box5,.row 100001 0,.row 100002 0]),(100001,(zag v1.1))],[(23,⟨5,1,0,(v1.2.2.1.map zas).length,0,true,0,[],(v1.2.2.1.map zas)⟩),(100000,.q 50 2 0 rk rc rn (row.map zar)),(100001,.q 53 5 0 rk1 rc1 rn1 (row1.map zab)),(100002,.q 28 1 0 rk2 rc2 rn2 (row2.map zal))],[],[]⟩) ?_
  intro n1 v1 y1 hF ih1 dn1
  unfold zk2 at hF
  refine LR0 ?_
  refine Nif hF ?_ ?_ <;> intro hb hF
  ·refine zb5 ?_
   have⟨h0,h1,hF⟩:=zf7 hF
   refine RJ (.x zar h0 (.r zar h1 .z)) ?_
   refine LR0 ?_
   have⟨v2,hv,hF⟩:=oE hF
   refine NmT (fun Z=>Z.up [0,1,3,4,10,11,12] [3,100000,100001] [23,100000,100001,100002] [] [] [(3,(zae v2.2.1)),(100001,(zag v2.1))] [(23,⟨5,1,0,(v2.2.2.map zas).length,0,true,0,[],(v2.2.2.map zas)⟩)] []) ?_ ?_
   ·have hF:=hv
    refine Nif hF ?_ ?_ <;> intro hb hF
    ·have⟨x,h2,hF⟩:=oE hF
     have p3:=(Pe.ren (wal_Frame_v2_ok ((v1.2.2.1.map zas).length) 0 true h2) ⟨[],[(100000,23)],[],[]⟩)
     refine RJ (.e [] [23] p3 .z) ?_
     cases hF
     exact zgt [(23,⟨0,true,true,true⟩)]
    ·cases hF
     exact zgt []
   ·refine LR0 ?_
    exact zgb [] hF ih1
  ·refine zbm rfl ?_
   have hF:=zaj hF dn1
   exact ze4 (v1.2.1,v1.2.2.1,v1.1) [] hF
 ·intro v hF
  unfold zlj at hF
  refine RJ (.l zas v.2.1 .z) ?_
  refine LR0 ?_
  cases hF
  exact Wz [] hfin

/- tablet.with -/
def zmy (t0 box:Tablet):Option (B8×Int×B9×Int×Int×Fault×Tablet):=
 ob (zf1 t0) fun x=>
 sm x (fun (x:Fault)=>
  if (!decide (x.Code=0))=true then
   some (([]:B8),0,([]:B9),0,0,x,box)
  else
   none) (fun (x:B8×Int×B9×Int×Int×List Note×Int×Cs×List Cs×Fault)=>
  if (!decide (x.2.2.2.2.2.2.2.2.2.Code=0))=true then
   some (([]:B8),0,([]:B9),0,0,x.2.2.2.2.2.2.2.2.2,box)
  else
   ob (zqf x.1 x.2.1 x.2.2.1 x.2.2.2.1 x.2.2.2.2.1 x.2.2.2.2.2.2.1 box x.2.2.2.2.2.1 x.2.2.2.2.2.2.2.1 x.2.2.2.2.2.2.2.2.1) fun x1=>
   if (!decide (x1.1.Code=0))=true then
    some (([]:B8),0,([]:B9),0,0,x1.1,x1.2.2.2.2.2.2.2)
   else
    ob (zh9 (⟨(⟨x1.2.1,x1.2.2.1⟩:Disk),x1.2.2.2.1,x1.2.2.2.2.1,x1.2.2.2.2.2.1⟩:Tablet)) fun x2=>
    some (x2.1,x2.2.1,x2.2.2.1,x2.2.2.2.1,x2.2.2.2.2,x1.1,x1.2.2.2.2.2.2.2))
theorem tablet_with_v2_ok {t0 box r}(hF:zmy t0 box=some r):Pe Tryz.prog 62 ⟨[],[(100000,(zag box))],[],[],[]⟩ [.agg (zag t0),.fn 76 [.ptr 100000 0]] (.tup [.agg [.row 30 0,.i r.2.1,.row 20030 0,.i r.2.2.2.1,.i r.2.2.2.2.1],.agg (zae r.2.2.2.2.2.1)]) ⟨[],[(100000,(zag r.2.2.2.2.2.2))],[(30,.o 5 1 0 (r.1.map zas)),(20030,.o 22 1 0 (r.2.2.1.map zaf))],[],[]⟩:=by
 refine PT 32 [.cell 4 27,.cell 5 35] [27,35] Tryz.func62 ?_
 intro Q g hfin
 unfold zmy at hF
 refine LR0 ?_
 have⟨x,h0,hF⟩:=oE hF
 rcases x with x | x
 ·have hF:=sm_l hF
  refine RJ (.b (zi2 h0) .z) ?_
  refine LR0 ?_
  refine Nif hF ?_ ?_ <;> intro hb hF
  ·refine VD [] [4,5] [4,5,100000] [] [] [(4,.ptr 4 0),(5,.ptr 5 0)] [(4,[.nils,.i 0,.nils,.i 0,.i 0]),(5,(zae x)),(100000,(zag box))] [] [] .nil ?_
   cases hF
   refine zav 4 0 60000 5 1 rfl rfl rfl rfl rfl ?_
   refine zav 4 2 60001 22 1 rfl rfl rfl rfl rfl ?_
   refine zau ⟨[],[(60000,30),(60001,20030)],[],[]⟩ rfl ?_
   exact Wz [(30,⟨0,true,false,false⟩),(20030,⟨0,true,false,false⟩)] hfin
  ·cases hF
 ·have hF:=sm_r hF
  have p1:=(Pe.ren (zi6 h0) ⟨[(49,10)],[(54,10),(143,20010),(149,40010)],[],[]⟩)
  refine RJ (.e [] [] p1 .z) ?_
  refine LR0 ?_
  refine Nif hF ?_ ?_ <;> intro hb hF
  ·refine VD [] [4,5] [4,5,100000] [] [] [(4,.ptr 4 0),(5,.ptr 5 0)] [(4,[.nils,.i 0,.nils,.i 0,.i 0]),(5,(zae x.2.2.2.2.2.2.2.2.2)),(100000,(zag box))] [] [] .nil ?_
   cases hF
   refine zav 4 0 60002 5 1 rfl rfl rfl rfl rfl ?_
   refine zav 4 2 60003 22 1 rfl rfl rfl rfl rfl ?_
   refine zau ⟨[],[(60002,30),(60003,20030)],[],[]⟩ rfl ?_
   exact Wz [(30,⟨0,true,false,false⟩),(20030,⟨0,true,false,false⟩)] hfin
  ·have⟨x1,h2,hF⟩:=oE hF
   have p3:=(Pe.ren (tablet_Cut_1_ok ((x.2.2.2.2.2.1.map zar).length) 0 true ((x.2.2.2.2.2.2.2.1.map zab).length) 0 false 0 0 true h2) ⟨[(100000,10),(100001,100000)],[(100000,10),(100001,40010),(100002,20010),(23,20)],[],[]⟩)
   refine RJ (.e [10,100000] [10,40010,20010] p3 .z) ?_
   refine LR0 ?_
   refine Nif hF ?_ ?_ <;> intro hb hF
   ·refine VD [] [4,5] [4,5,100000] [] [] [(4,.ptr 4 0),(5,.ptr 5 0)] [(4,[.nils,.i 0,.nils,.i 0,.i 0]),(5,(zae x1.1)),(100000,(zag x1.2.2.2.2.2.2.2))] [] [] .nil ?_
    cases hF
    refine zav 4 0 60004 5 1 rfl rfl rfl rfl rfl ?_
    refine zav 4 2 60005 22 1 rfl rfl rfl rfl rfl ?_
    refine zau ⟨[],[(60004,30),(60005,20030)],[],[]⟩ rfl ?_
    exact Wz [(30,⟨0,true,false,false⟩),(20030,⟨0,true,false,false⟩)] hfin
   ·have⟨x2,h4,hF⟩:=oE hF
    have p5:=(Pe.ren (zlz h4) ⟨[],[(8,30),(13,20030)],[],[]⟩)
    refine DJ (.e [] [] p5 .z) ?_
    cases hF
    exact Wz [] hfin

/- tablet.Cut -/
/- tablet.Cut -/
def zli (t0:Tablet):Option (Tablet×Fault):=
 ob (zmy t0 t0) fun x=>
 some ((⟨(⟨x.1,x.2.1⟩:Disk),x.2.2.1,x.2.2.2.1,x.2.2.2.2.1⟩:Tablet),x.2.2.2.2.2.1)
theorem tablet_Cut_v1_ok {t0 r}(hF:zli t0=some r):Pe Tryz.prog 17 S.none [.agg (zag t0)] (.tup [.agg (zag r.1),.agg (zae r.2)]) S.none:=by
 refine PT 9 [.cell 2 27,.cell 3 35] [27,35] Tryz.func17 ?_
 intro Q g hfin
 unfold zli at hF
 refine LR0 ?_
 have⟨x,h0,hF⟩:=oE hF
 have p1:=(Pe.ren (tablet_with_v2_ok h0) ⟨[(100000,1)],[(30,6),(20030,20006)],[],[]⟩)
 refine RJ (.e [1] [] p1 .z) ?_
 cases hF
 exact Wz [] hfin

/- tabularyref.Number -/
def zjb (rec:Int->Option B8)(num:Int):Option B8:=
 if (decide (num<128))=true then
  some ([zew num]:B8)
 else
  ob (rec (w64 (Int.tdiv num 128))) fun x=>
  zao (((([zew (w64 ((Int.tmod num 128)+128))]:B8)++x).length:Int)*1<=140737488351232) <|
  some (([zew (w64 ((Int.tmod num 128)+128))]:B8)++x)
def zpx (num:Int):Option B8:=recO (fun rec (x:Int)=>zjb rec x) num
theorem zpq {num r}(hF:zpx num=some r):Pe Tryz.prog 84 (.w []) [.i num] (.row 7 0) ⟨[],[],[(7,.z 5 1 0 (r.map zas))],[],[]⟩:=by
 have key:∀ (k:Nat) (x:Int) (r:B8),fuelO (fun rec (x:Int)=>zjb rec x) k x=some r->Pe Tryz.prog 84 (.w []) [.i x] (.row 7 0) ⟨[],[],[(7,.z 5 1 0 (r.map zas))],[],[]⟩:=by
  intro k
  induction k with
  | zero=>intro x r hF; cases hF
  | succ k ih=>
   intro x r hF
   have hF:zjb (fuelO (fun rec (x:Int)=>zjb rec x) k) x=some r:=hF
   generalize fuelO (fun rec (x:Int)=>zjb rec x) k=rec at ih hF
   revert hF
   generalize x=num
   intro hF
   refine PT 17 [.tmp 2] [22] Tryz.func84 ?_
   intro Q g hfin
   unfold zjb at hF
   refine LR0 ?_
   refine LR0 ?_
   refine Nif hF ?_ ?_ <;> intro hb hF
   ·refine LR0 ?_
    cases hF
    exact Wz [] hfin
   ·have⟨x,h0,hF⟩:=oE hF
    have p1:=(Pe.ren (ih (w64 (Int.tdiv num 128)) x h0) ⟨[],[(7,15)],[],[]⟩)
    have⟨h2,hF⟩:=aE hF
    refine VR [cE [] [] [] [] p1,.xs ((([zew (w64 ((Int.tmod num 128)+128))]:B8)++x).map zas)] [2] [] [12] [] [(2,.row 12 1)] [] [(12,.z 5 1 1 ((([zew (w64 ((Int.tmod num 128)+128))]:B8)++x).map zas))] [] (hc (by decide:(128:Int)≠0) (hc (by decide:(128:Int)≠0) (hc p1 (hc (app_ok zas ([zew (w64 ((Int.tmod num 128)+128))]:B8) x) (hc (zqv zas h2) .nil))))) ?_
    cases hF
    refine zau ⟨[],[(12,7)],[],[]⟩ rfl ?_
    exact Wz [(7,⟨0,true,true,false⟩)] hfin
 have⟨k,hF⟩:=recO_elim hF
 exact key k _ r hF

/- tabularyref.Written -/
def zlw (s0:B8):Option B8:=
 ob (zpx (s0.length:Int)) fun x=>
 zao (((x++s0).length:Int)*1<=140737488351232) <|
 some (x++s0)
theorem zm7 {s0 r}(hF:zlw s0=some r):Pe Tryz.prog 89 (.w []) [.str s0] (.row 5 1) ⟨[],[],[(5,.z 5 1 1 (r.map zas))],[],[]⟩:=by
 refine PT 8 [.tmp 2] [22] Tryz.func89 ?_
 intro Q g hfin
 unfold zlw at hF
 refine LR0 ?_
 have⟨x,h0,hF⟩:=oE hF
 have p1:=(Pe.ren (zpq h0) ⟨[],[(7,5)],[],[]⟩)
 have⟨h2,hF⟩:=aE hF
 refine RJ (.e [] [] p1 (.p zas h2 .z)) ?_
 cases hF
 exact Wz [] hfin

/- tabularyref.CellBytes -/
def zmi (c:Cell):Option B8:=
 ob (zlw c.Row) fun x=>
 ob (zlw c.Col) fun x1=>
 zao (((x++x1).length:Int)*1<=140737488351232) <|
 ob (zpx c.Time) fun x2=>
 zao ((((x++x1)++x2).length:Int)*1<=140737488351232) <|
 ob (
  if c.Gone=true then
   zao (((((x++x1)++x2)++([(1:UInt8)]:B8)).length:Int)*1<=140737488351232) <|
   some (c,(((x++x1)++x2)++([(1:UInt8)]:B8)))
  else
   zao (((((x++x1)++x2)++([(0:UInt8)]:B8)).length:Int)*1<=140737488351232) <|
   some (c,(((x++x1)++x2)++([(0:UInt8)]:B8)))) fun v=>
 ob (zlw v.1.Value) fun x3=>
 zao (((v.2++x3).length:Int)*1<=140737488351232) <|
 some (v.2++x3)
theorem R_CellBytes_ok {c r}(hF:zmi c=some r):Pe Tryz.prog 85 (.w []) [.agg (zg9 c)] (.row 6 5) ⟨[],[],[(6,.z 5 1 5 (r.map zas))],[],[]⟩:=by
 refine PT 29 [.tmp 2] [22] Tryz.func85 ?_
 intro Q g hfin
 unfold zmi at hF
 refine LR0 ?_
 have⟨x,h0,hF⟩:=oE hF
 have p1:=(Pe.ren (zm7 h0) ⟨[],[(5,6)],[],[]⟩)
 have⟨x1,h2,hF⟩:=oE hF
 have p3:=(Pe.ren (zm7 h2) ⟨[],[(5,9)],[],[]⟩)
 have⟨h4,hF⟩:=aE hF
 refine DJ (.e [] [] p1 (.e [] [] p3 (.p zas h4 .z))) ?_
 have⟨x2,h5,hF⟩:=oE hF
 have p6:=(Pe.ren (zpq h5) ⟨[],[(7,14)],[],[]⟩)
 have⟨h7,hF⟩:=aE hF
 refine RJ (.e [] [] p6 (.p zas h7 .z)) ?_
 refine LR0 ?_
 have⟨v,hv,hF⟩:=oE hF
 refine Nmeet (⟨[(1,.ptr 1 0),(3,.row 6 4)],[(1,(zg9 v.1))],[(6,.z 5 1 4 (v.2.map zas))],[],[]⟩:S) ?_ ?_
 ·have hF:=hv
  refine Nif hF ?_ ?_ <;> intro hb hF
  ·have⟨h8,hF⟩:=aE hF
   refine RJ (.a (.sealed) (.p zas h8 .z)) ?_
   cases hF
   exact zgt []
  ·have⟨h9,hF⟩:=aE hF
   refine RJ (.a (.sealed) (.p zas h9 .z)) ?_
   cases hF
   exact zgt []
 ·have⟨x3,h10,hF⟩:=oE hF
  have p11:=(Pe.ren (zm7 h10) ⟨[],[(5,27)],[],[]⟩)
  have⟨h12,hF⟩:=aE hF
  refine RJ (.e [] [] p11 (.p zas h12 .z)) ?_
  cases hF
  exact Wz [] hfin

/- tabularyref.Rest -/
def R_Rest_J1 (v:Int):Option Int:=
 some (IntKind.u32.wrap (4294967295 - v))
def R_Rest_J2 (v1:Int×Int)(v2:Int):Option ((Int×Int)⊕Int):=
 some (Sum.inl (v2,w64 (v1.2+1)))
def R_Rest_B2 (b:B8)(v1 v3:Int×Int):Option ((Int×Int)⊕((Int×Int)⊕Int)):=
 if (decide (v3.2<8))=true then
  zao (0<=v1.2/\v1.2<(b.length:Int)) <|
  zao (0<=v3.2) <|
  lt (Int.tmod (IntKind.u32.wrap ((zew (Int.fdiv ((zad b v1.2).toNat:Int) (2 ^ (min v3.2.toNat 8)))).toNat:Int)) 2) fun v4=>
  ob (
   if (decide ((Int.tmod (IntKind.u32.wrap (v3.1+v4)) 2)=1))=true then
    some (zf8 .xor .u32 (IntKind.u32.wrap (Int.tdiv v3.1 2)) 3988292384)
   else
    some (IntKind.u32.wrap (Int.tdiv v3.1 2))) fun v5=>
  some (Sum.inl (v5,w64 (v3.2+1)))
 else
  zev (R_Rest_J2 v1 v3.1)
def R_Rest_L2 (b:B8)(v1 v0:Int×Int):Option ((Int×Int)⊕Int):=
 zbg (fun y=>R_Rest_B2 b v1 y) v0
def R_Rest_B1 (b:B8)(v1:Int×Int):Option ((Int×Int)⊕Int):=
 if (decide (v1.2<(b.length:Int)))=true then
  R_Rest_L2 b v1 (v1.1,0)
 else
  zev (R_Rest_J1 v1.1)
def R_Rest_L1 (b:B8)(v0:Int×Int):Option Int:=
 zbg (fun y=>R_Rest_B1 b y) v0
def R_Rest (b:B8):Option Int:=
 R_Rest_L1 b (4294967295,0)
theorem R_Rest_ok {b r}(hF:R_Rest b=some r):Pe Tryz.prog 83 S.none [.sl 1 (b.map zas)] (.int .u32 r) S.none:=by
 refine PT 38 [.tmp 2] [124] Tryz.func83 ?_
 intro Q g hfin
 unfold R_Rest at hF
 refine LR0 ?_
 refine LR0 ?_
 refine LR0 ?_
 refine NmQ (fun v=>R_Rest_J1 v=some r) (fun v=>⟨[(3,.int .u32 v)],[],[],[],[]⟩) ?_ ?_
 ·refine zb5 ?_
  unfold R_Rest_L1 at hF
  refine zoy hF [] (fun Z v1=>Z.up [0,3,4] [] [] [] [(3,.int .u32 v1.1),(4,.i v1.2)] [] [] []) ?_
  intro n1 v1 y1 hF ih1 dn1
  unfold R_Rest_B1 at hF
  refine RJ (.l zas b .z) ?_
  refine Nif hF ?_ ?_ <;> intro hb hF
  ·refine zb5 ?_
   refine LR0 ?_
   refine NmS (fun v2=>R_Rest_J2 v1 v2=some y1) (fun Z v2=>Z.up [0,3,4] [] [] [] [(3,.int .u32 v2)] [] [] []) ?_ ?_
   ·refine zb5 ?_
    unfold R_Rest_L2 at hF
    refine zoy hF [] (fun Z v3=>Z.up [0,3,4,5] [] [] [] [(3,.int .u32 v3.1),(5,.i v3.2)] [] [] []) ?_
    intro n2 v3 y2 hF ih2 dn2
    unfold R_Rest_B2 at hF
    refine LR0 ?_
    refine Nif hF ?_ ?_ <;> intro hb hF
    ·refine zb5 ?_
     have⟨h0,h1,hF⟩:=zf7 hF
     refine NRL (Int.tmod (IntKind.u32.wrap ((zew (Int.fdiv ((zad b v1.2).toNat:Int) (2 ^ (min v3.2.toNat 8)))).toNat:Int)) 2) (fun v4:Int=>([(6,.int .u32 v4)],[],[],[])) [.av (zas (zad b v1.2))] [0,3,4,5,6] [] [] [] (hc (zgi zas h0) (hc h1 (hc (shr8_ok (zad b v1.2) (min v3.2.toNat 8)) (hc (by decide:(2:Int)≠0) .nil)))) (fun v4 hv=>?_)
     have hF:=zeg hF hv
     refine RJ (.g (by decide:(2:Int)≠0) .z) ?_
     refine RJ (.g (by decide:(2:Int)≠0) .z) ?_
     refine LR0 ?_
     have⟨v5,hv,hF⟩:=oE hF
     refine NmT (fun Z=>Z.up [0,3,4,5] [] [] [] [(3,.int .u32 v5)] [] [] []) ?_ ?_
     ·have hF:=hv
      refine Nif hF ?_ ?_ <;> intro hb hF
      ·refine LR0 ?_
       cases hF
       exact zgt []
      ·cases hF
       exact zgt []
     ·refine LR0 ?_
      exact zgb [] hF ih2
    ·refine zbm rfl ?_
     have hF:=zaj hF dn2
     exact ze4 v3.1 [] hF
   ·intro v2 hF
    unfold R_Rest_J2 at hF
    refine LR0 ?_
    exact zgb [] hF ih1
  ·refine zbm rfl ?_
   have hF:=zaj hF dn1
   exact ze4 v1.1 [] hF
 ·intro v hF
  unfold R_Rest_J1 at hF
  refine LR0 ?_
  cases hF
  exact Wz [] hfin

/- tabularyref.Framed -/
def zlh (body:B8):Option B8:=
 zao (((([zew (w64 (Int.tdiv (body.length:Int) 256)),zew (Int.tmod (body.length:Int) 256)]:B8)++body).length:Int)*1<=140737488351232) <|
 lt ((([zew (w64 (Int.tdiv (body.length:Int) 256)),zew (Int.tmod (body.length:Int) 256)]:B8)++body)) fun v=>
 ob (R_Rest v) fun x=>
 zao (((v++([zew (IntKind.u32.wrap (Int.tdiv x 16777216)),zew (Int.tmod (IntKind.u32.wrap (Int.tdiv x 65536)) 256),zew (Int.tmod (IntKind.u32.wrap (Int.tdiv x 256)) 256),zew (Int.tmod x 256)]:B8)).length:Int)*1<=140737488351232) <|
 lt ((v++([zew (IntKind.u32.wrap (Int.tdiv x 16777216)),zew (Int.tmod (IntKind.u32.wrap (Int.tdiv x 65536)) 256),zew (Int.tmod (IntKind.u32.wrap (Int.tdiv x 256)) 256),zew (Int.tmod x 256)]:B8))) fun v1=>
 some v1
theorem zkm {body r}(hF:zlh body=some r):Pe Tryz.prog 23 (.w []) [.sl 1 (body.map zas)] (.row 13 2) ⟨[],[],[(13,.z 5 1 2 (r.map zas))],[],[]⟩:=by
 refine PT 35 [.tmp 2] [22] Tryz.func23 ?_
 intro Q g hfin
 unfold zlh at hF
 refine LR0 ?_
 have⟨h0,hF⟩:=aE hF
 have⟨v,hv,hF⟩:=lS hF
 refine RJ (.l zas body (.g (by decide:(256:Int)≠0) (.l zas body (.g (by decide:(256:Int)≠0) (.pN zas hv h0 .z))))) ?_
 have⟨x,h1,hF⟩:=oE hF
 refine RJ (.b (R_Rest_ok h1) .z) ?_
 have⟨h2,hF⟩:=aE hF
 have⟨v1,hv,hF⟩:=lS hF
 refine RJ (.g (by decide:(16777216:Int)≠0) (.g (by decide:(65536:Int)≠0) (.g (by decide:(256:Int)≠0) (.g (by decide:(256:Int)≠0) (.g (by decide:(256:Int)≠0) (.g (by decide:(256:Int)≠0) (.a (.sealed) (.pN zas hv h2 .z)))))))) ?_
 cases hF
 exact Wz [] hfin

/- tabularyref.RowsOf -/
def R_RowsOf_J1 (v:B9):Option B9:=
 some v
def zkh (l:Cs)(v1:B9×Int):Option ((B9×Int)⊕B9):=
 if (decide (v1.2<(l.length:Int)))=true then
  zao ((!(decide ((v1.1.length:Int)=0)))=true->0<=w64 ((v1.1.length:Int) - 1)/\w64 ((v1.1.length:Int) - 1)<(v1.1.length:Int)) <|
  zao ((!(decide ((v1.1.length:Int)=0)))=true->0<=w64 ((v1.1.length:Int) - 1)/\w64 ((v1.1.length:Int) - 1)<(v1.1.length:Int)) <|
  zao ((!(decide ((v1.1.length:Int)=0)))=true->0<=v1.2/\v1.2<(l.length:Int)) <|
  ob (
   if ((decide ((v1.1.length:Int)=0))||(!decide ((zad v1.1 (w64 ((v1.1.length:Int) - 1)))=((zad l v1.2).Row))))=true then
    zao (0<=v1.2/\v1.2<(l.length:Int)) <|
    zao (((v1.1++([(zad l v1.2).Row]:B9)).length:Int)*16<=140737488351232) <|
    some (v1.1++([(zad l v1.2).Row]:B9))
   else
    some v1.1) fun v2=>
  some (Sum.inl (v2,w64 (v1.2+1)))
 else
  zev (R_RowsOf_J1 v1.1)
def R_RowsOf_L1 (l:Cs)(v0:B9×Int):Option B9:=
 zbg (fun y=>zkh l y) v0
def R_RowsOf (l:Cs):Option B9:=
 R_RowsOf_L1 l (([]:B9),0)
theorem R_RowsOf_ok {l r}(hF:R_RowsOf l=some r):Pe Tryz.prog 50 (.w []) [.sl 5 (l.map zab)] (.row 36 0) ⟨[],[],[(36,.z 9 1 0 (r.map ze5))],[],[]⟩:=by
 refine PT 38 [.tmp 2] [86] Tryz.func50 ?_
 intro Q g hfin
 unfold R_RowsOf at hF
 refine LR0 ?_
 refine LR0 ?_
 refine NR [] [0,3,4] [] [] [(0,.sl 5 (l.map zab)),(3,.nils),(4,.i 0)] .nil ?_
 refine NmQ (fun v=>R_RowsOf_J1 v=some r) (fun v=>⟨[(3,.row 36 0)],[],[(36,.z 9 1 0 (v.map ze5))],[],[]⟩) ?_ ?_
 ·refine zb5 ?_
  unfold R_RowsOf_L1 at hF
  refine zap 3 60000 9 1 rfl rfl rfl ?_
  refine zcj (fs:=[0,3,4]) (bs:=[]) (rs:=[60000]) (ms:=[]) (aa:=[]) (nv:=[]) rfl ?_
  refine zau ⟨[],[(60000,36)],[],[]⟩ rfl ?_
  refine zrv hF [] (fun v1=>⟨[(0,.sl 5 (l.map zab)),(3,.row 36 0),(4,.i v1.2)],[],[(36,.z 9 1 0 (v1.1.map ze5))],[],[]⟩) ?_
  intro n1 v1 y1 hF ih1 dn1
  unfold zkh at hF
  refine RJ (.l zab l .z) ?_
  refine Nif hF ?_ ?_ <;> intro hb hF
  ·refine zb5 ?_
   refine RJ (.l ze5 v1.1 .z) ?_
   have⟨h0,h1,hF⟩:=zf7 hF
   have⟨h2,hF⟩:=aE hF
   refine DJ (.g (fun (ga0:(!(decide ((v1.1.length:Int)=0)))=true)=>(zf4 ze5 (h0 ga0))) (.a (.av (ze5 (zad v1.1 (w64 ((v1.1.length:Int) - 1))))) (.g (fun (ga0:(!(decide ((v1.1.length:Int)=0)))=true)=>(zec ze5 (h1 ga0))) (.a (.av (zab (zad l v1.2))) (.g (fun (ga0:(!(decide ((v1.1.length:Int)=0)))=true)=>(zgi zab (h2 ga0))) .z))))) ?_
   have⟨v2,hv,hF⟩:=oE hF
   refine NmT (fun Z=>Z.up [0,3,4] [] [36] [] [] [] [(36,.z 9 1 0 (v2.map ze5))] []) ?_ ?_
   ·have hF:=hv
    refine Nif hF ?_ ?_ <;> intro hb hF
    ·have⟨h3,hF⟩:=aE hF
     have⟨h4,hF⟩:=aE hF
     refine RJ (.i zab h3 (.a (.sealed) (.p ze5 h4 .z))) ?_
     cases hF
     exact zgt [(36,⟨0,true,true,false⟩)]
    ·cases hF
     exact zgt []
   ·refine LR0 ?_
    exact zgb [] hF ih1
  ·refine zbm rfl ?_
   have hF:=zaj hF dn1
   exact ze4 v1.1 [] hF
 ·intro v hF
  unfold R_RowsOf_J1 at hF
  refine LR0 ?_
  cases hF
  exact Wz [] hfin

/- tabularyref.Bits -/
def R_Bits (row:B8)(num:Int):Option (List Int):=
 zao ((row.length:Int)<=140737488351232) <|
 ob (R_Rest row) fun x=>
 zao ((IntKind.u64.wrap num)≠0) <|
 zao ((IntKind.u64.wrap num)≠0) <|
 zao ((IntKind.u64.wrap num)≠0) <|
 lt (([w64 (Int.tmod (Int.tmod (IntKind.u64.wrap x) 65536) (IntKind.u64.wrap num)),w64 (Int.tmod (IntKind.u64.wrap ((Int.tmod (IntKind.u64.wrap x) 65536)+(IntKind.u64.wrap (Int.tdiv (IntKind.u64.wrap x) 65536)))) (IntKind.u64.wrap num)),w64 (Int.tmod (IntKind.u64.wrap ((Int.tmod (IntKind.u64.wrap x) 65536)+(IntKind.u64.wrap (2*(IntKind.u64.wrap (Int.tdiv (IntKind.u64.wrap x) 65536)))))) (IntKind.u64.wrap num))]:List Int)) fun v=>
 some v
theorem R_Bits_ok {row num r}(hF:R_Bits row num=some r):Pe Tryz.prog 129 S.none [.str row,.i num] (.sl 1 (r.map zpt)) S.none:=by
 refine PT 37 [.tmp 4] [117] Tryz.func129 ?_
 intro Q g hfin
 unfold R_Bits at hF
 refine LR0 ?_
 have⟨h0,hF⟩:=aE hF
 have⟨x,h1,hF⟩:=oE hF
 refine RJ (.g (bof_ok h0) (.b (R_Rest_ok h1) .z)) ?_
 refine RJ (.g (by decide:(65536:Int)≠0) (.g (by decide:(65536:Int)≠0) .z)) ?_
 refine LR0 ?_
 have⟨h2,h3,hF⟩:=zf7 hF
 have⟨h4,hF⟩:=aE hF
 refine NDL (([w64 (Int.tmod (Int.tmod (IntKind.u64.wrap x) 65536) (IntKind.u64.wrap num)),w64 (Int.tmod (IntKind.u64.wrap ((Int.tmod (IntKind.u64.wrap x) 65536)+(IntKind.u64.wrap (Int.tdiv (IntKind.u64.wrap x) 65536)))) (IntKind.u64.wrap num)),w64 (Int.tmod (IntKind.u64.wrap ((Int.tmod (IntKind.u64.wrap x) 65536)+(IntKind.u64.wrap (2*(IntKind.u64.wrap (Int.tdiv (IntKind.u64.wrap x) 65536)))))) (IntKind.u64.wrap num))]:List Int)) (fun v:List Int=>([(4,.sl 1 (v.map zpt))],[],[],[])) [.sealed] [4] [] [] [] (hc h2 (hc h3 (hc h4 .nil))) (fun v hv=>?_)
 have hF:=zeg hF hv
 cases hF
 exact Wz [] hfin

/- tabularyref.FilterOf -/
def zs3 (v2:B8):Option B8:=
 some v2
def zhn (v1:List Bool)(v3:B8×Int):Option ((B8×Int)⊕B8):=
 if (decide (v3.2<(v1.length:Int)))=true then
  zao (0<=v3.2/\v3.2<(v1.length:Int)) <|
  zao (0<=v3.2/\v3.2<(v1.length:Int)) <|
  ob (
   if (zad v1 v3.2)=true then
    zao (0<=w64 (Int.tdiv v3.2 8)/\w64 (Int.tdiv v3.2 8)<(v3.1.length:Int)) <|
    zao (0<=w64 (Int.tdiv v3.2 8)/\w64 (Int.tdiv v3.2 8)<(v3.1.length:Int)) <|
    zao (0<=(Int.tmod v3.2 8)) <|
    zao (0<=w64 (Int.tdiv v3.2 8)/\w64 (Int.tdiv v3.2 8)<(v3.1.length:Int)) <|
    zao (0<=w64 (Int.tdiv v3.2 8)/\w64 (Int.tdiv v3.2 8)<(v3.1.length:Int)) <|
    lt ((zem v3.1 (w64 (Int.tdiv v3.2 8)) (zew (((zad v3.1 (w64 (Int.tdiv v3.2 8))).toNat:Int)+((zew (((1:UInt8).toNat:Int)*2 ^ (min (Int.tmod v3.2 8).toNat 8))).toNat:Int))))) fun v5=>
    some v5
   else
    some v3.1) fun v4=>
  some (Sum.inl (v4,w64 (v3.2+1)))
 else
  zev (zs3 v3.1)
def zsn (v1:List Bool)(v0:B8×Int):Option B8:=
 zbg (fun y=>zhn v1 y) v0
def zld (v:Int)(v1:List Bool):Option B8:=
 zao (0<=(v:Int)/\v<=v/\v*1<=140737488351232) <|
 zsn v1 ((List.replicate v.toNat ((0:UInt8):UInt8)),0)
def znu (v6:List Bool×Int)(v7:List Bool):Option ((List Bool×Int)⊕B8):=
 some (Sum.inl (v7,w64 (v6.2+1)))
def zfh (v6:List Bool×Int)(x1:List Int)(v8:List Bool×Int):Option ((List Bool×Int)⊕((List Bool×Int)⊕B8)):=
 if (decide (v8.2<(x1.length:Int)))=true then
  zao (0<=v8.2/\v8.2<(x1.length:Int)) <|
  zao (0<=(zad x1 v8.2)/\(zad x1 v8.2)<(v8.1.length:Int)) <|
  zao (0<=(zad x1 v8.2)/\(zad x1 v8.2)<(v8.1.length:Int)) <|
  some (Sum.inl ((zem v8.1 (zad x1 v8.2) true),w64 (v8.2+1)))
 else
  zev (znu v6 v8.1)
def zrz (v6:List Bool×Int)(x1:List Int)(v0:List Bool×Int):Option ((List Bool×Int)⊕B8):=
 zbg (fun y=>zfh v6 x1 y) v0
def zhm (x:B9)(v:Int)(v6:List Bool×Int):Option ((List Bool×Int)⊕B8):=
 if (decide (v6.2<(x.length:Int)))=true then
  zao (0<=v6.2/\v6.2<(x.length:Int)) <|
  zao (0<=v6.2/\v6.2<(x.length:Int)) <|
  ob (R_Bits (zad x v6.2) (w64 (8*v))) fun x1=>
  zrz v6 x1 (v6.1,0)
 else
  zev (zld v v6.1)
def zr8 (x:B9)(v:Int)(v0:List Bool×Int):Option B8:=
 zbg (fun y=>zhm x v y) v0
def zkw (l:Cs):Option B8:=
 ob (R_RowsOf l) fun x=>
 ob (
  if (decide ((x.length:Int)=0))=true then
   some 1
  else
   some (x.length:Int)) fun (v:Int)=>
 zao (0<=(w64 (8*v):Int)/\w64 (8*v)<=w64 (8*v)/\(w64 (8*v))*1<=140737488351232) <|
 zr8 x v ((List.replicate (w64 (8*v)).toNat (false:Bool)),0)
theorem zrw {l r}(hF:zkw l=some r):Pe Tryz.prog 90 (.w []) [.sl 5 (l.map zab)] (.row 46 0) ⟨[],[],[(46,.o 5 1 0 (r.map zas))],[],[]⟩:=by
 refine PT 71 [.tmp 2] [22] Tryz.func90 ?_
 intro Q g hfin
 unfold zkw at hF
 refine LR0 ?_
 have⟨x,h0,hF⟩:=oE hF
 have p1:=(Pe.ren (R_RowsOf_ok h0) ⟨[],[(36,12)],[],[]⟩)
 refine RJ (.e [] [] p1 .z) ?_
 refine RJ (.l ze5 x .z) ?_
 refine LR0 ?_
 have⟨v,hv,hF⟩:=oE hF
 refine NmT (fun Z=>Z.up [3,4] [] [12] [] [(4,.i v)] [] [] []) ?_ ?_
 ·have hF:=hv
  refine Nif hF ?_ ?_ <;> intro hb hF
  ·refine LR0 ?_
   cases hF
   exact zgt []
  ·cases hF
   exact zgt []
 ·have⟨h2,hF⟩:=aE hF
  refine RJ (.a (.xs ((List.replicate (w64 (8*v)).toNat (false:Bool)).map e_bool)) (.g (mk_ok h2) (.g (rep_ok e_bool (w64 (8*v)) (false:Bool)) .z))) ?_
  refine LR0 ?_
  refine NmS (fun v1=>zld v v1=some r) (fun Z v1=>Z.up [4,5] [] [19] [] [] [] [(19,.o 4 1 0 (v1.map e_bool))] []) ?_ ?_
  ·refine zb5 ?_
   unfold zr8 at hF
   refine zoy hF [] (fun Z v6=>Z.up [3,4,5,6] [] [12,19] [] [(6,.i v6.2)] [] [(19,.o 4 1 0 (v6.1.map e_bool))] []) ?_
   intro n1 v6 y1 hF ih1 dn1
   unfold zhm at hF
   refine RJ (.l ze5 x .z) ?_
   refine Nif hF ?_ ?_ <;> intro hb hF
   ·refine zb5 ?_
    have⟨h11,h12,hF⟩:=zf7 hF
    have⟨x1,h13,hF⟩:=oE hF
    refine RJ (.x ze5 h11 (.r ze5 h12 (.c (R_Bits_ok h13) .z))) ?_
    refine LR0 ?_
    refine NmS (fun v7=>znu v6 v7=some y1) (fun Z v7=>Z.up [3,4,5,6] [] [12,19] [] [] [] [(19,.o 4 1 0 (v7.map e_bool))] []) ?_ ?_
    ·refine zb5 ?_
     unfold zrz at hF
     refine zoy hF [] (fun Z v8=>Z.up [3,4,5,6,7,8] [] [12,19] [] [(8,.i v8.2)] [] [(19,.o 4 1 0 (v8.1.map e_bool))] []) ?_
     intro n2 v8 y2 hF ih2 dn2
     unfold zfh at hF
     refine RJ (.l zpt x1 .z) ?_
     refine Nif hF ?_ ?_ <;> intro hb hF
     ·refine zb5 ?_
      have⟨h14,h15,hF⟩:=zf7 hF
      have⟨h16,hF⟩:=aE hF
      refine RJ (.i zpt h14 (.x e_bool h15 (.w e_bool h16 true .z))) ?_
      refine LR0 ?_
      exact zgb [] hF ih2
     ·refine zbm rfl ?_
      have hF:=zaj hF dn2
      exact ze4 v8.1 [] hF
    ·intro v7 hF
     unfold znu at hF
     refine LR0 ?_
     exact zgb [] hF ih1
   ·refine zbm rfl ?_
    have hF:=zaj hF dn1
    exact ze4 v6.1 [] hF
  ·intro v1 hF
   unfold zld at hF
   have⟨h3,hF⟩:=aE hF
   refine RJ (.a (.xs ((List.replicate v.toNat ((0:UInt8):UInt8)).map zas)) (.g (mk_ok h3) (.g (rep_ok zas v ((0:UInt8):UInt8)) .z))) ?_
   refine LR0 ?_
   refine NmS (fun v2=>zs3 v2=some r) (fun Z v2=>Z.up [9] [] [46] [] [] [] [(46,.o 5 1 0 (v2.map zas))] []) ?_ ?_
   ·refine zb5 ?_
    unfold zsn at hF
    refine zoy hF [] (fun Z v3=>Z.up [5,9,10] [] [19,46] [] [(10,.i v3.2)] [] [(46,.o 5 1 0 (v3.1.map zas))] []) ?_
    intro n1 v3 y1 hF ih1 dn1
    unfold zhn at hF
    refine RJ (.l e_bool v1 .z) ?_
    refine Nif hF ?_ ?_ <;> intro hb hF
    ·refine zb5 ?_
     have⟨h4,h5,hF⟩:=zf7 hF
     refine RJ (.x e_bool h4 (.r e_bool h5 .z)) ?_
     have⟨v4,hv,hF⟩:=oE hF
     refine NmT (fun Z=>Z.up [5,9,10] [] [19,46] [] [] [] [(46,.o 5 1 0 (v4.map zas))] []) ?_ ?_
     ·have hF:=hv
      refine Nif hF ?_ ?_ <;> intro hb hF
      ·have⟨h6,hF⟩:=aE hF
       have⟨h7,h8,h9,h10,hF⟩:=zla hF
       have⟨v5,hv,hF⟩:=lS hF
       refine DJ (.g (by decide:(8:Int)≠0) (.g (by decide:(8:Int)≠0) (.x zas h6 (.r zas h7 (.g (by decide:(8:Int)≠0) (.g h8 (.x zas h9 (.wN zas h10 hv .z)))))))) ?_
       cases hF
       exact zgt []
      ·cases hF
       exact zgt []
     ·refine LR0 ?_
      exact zgb [] hF ih1
    ·refine zbm rfl ?_
     have hF:=zaj hF dn1
     exact ze4 v3.1 [] hF
   ·intro v2 hF
    unfold zs3 at hF
    refine LR0 ?_
    cases hF
    exact Wz [] hfin

/- tabularyref.FileOf -/
def R_FileOf_J1 (l:Cs)(v:B8×B8):Option B8:=
 ob (zlh v.2) fun x=>
 zao (((v.1++x).length:Int)*1<=140737488351232) <|
 ob (zkw l) fun x1=>
 ob (zlh x1) fun x2=>
 zao ((((v.1++x)++x2).length:Int)*1<=140737488351232) <|
 some ((v.1++x)++x2)
def R_FileOf_B1 (l:Cs)(size:Int)(v1:B8×B8×B8×B8×Int):Option ((B8×B8×B8×B8×Int)⊕B8):=
 if (decide (v1.2.2.2.2<(l.length:Int)))=true then
  ob (
   if (decide ((v1.2.2.1.length:Int)=0))=true then
    zao (0<=v1.2.2.2.2/\v1.2.2.2.2<(l.length:Int)) <|
    some ((zad l v1.2.2.2.2).Row)
   else
    some v1.2.2.2.1) fun v2=>
  zao (0<=v1.2.2.2.2/\v1.2.2.2.2<(l.length:Int)) <|
  ob (zmi (⟨(zad l v1.2.2.2.2).Row,(zad l v1.2.2.2.2).Col,(zad l v1.2.2.2.2).Time,(zad l v1.2.2.2.2).Gone,(zad l v1.2.2.2.2).Value⟩:Cell)) fun x3=>
  zao (((v1.2.2.1++x3).length:Int)*1<=140737488351232) <|
  ob (
   if ((decide (size<=((v1.2.2.1++x3).length:Int)))||(decide (v1.2.2.2.2=(w64 ((l.length:Int) - 1)))))=true then
    ob (zlh (v1.2.2.1++x3)) fun x4=>
    zao (((v1.1++x4).length:Int)*1<=140737488351232) <|
    ob (zlw v2) fun x5=>
    zao (((v1.2.1++x5).length:Int)*1<=140737488351232) <|
    ob (zpx ((v1.2.2.1++x3).length:Int)) fun x6=>
    zao ((((v1.2.1++x5)++x6).length:Int)*1<=140737488351232) <|
    some ((v1.1++x4),((v1.2.1++x5)++x6),([]:B8))
   else
    some (v1.1,v1.2.1,(v1.2.2.1++x3))) fun v3=>
  some (Sum.inl (v3.1,v3.2.1,v3.2.2,v2,w64 (v1.2.2.2.2+1)))
 else
  zev (R_FileOf_J1 l (v1.1,v1.2.1))
def R_FileOf_L1 (l:Cs)(size:Int)(v0:B8×B8×B8×B8×Int):Option B8:=
 zbg (fun y=>R_FileOf_B1 l size y) v0
def R_FileOf (l:Cs)(size:Int):Option B8:=
 R_FileOf_L1 l size (([]:B8),([]:B8),([]:B8),([]:B8),0)
theorem R_FileOf_ok {l size r}(hF:R_FileOf l size=some r):Pe Tryz.prog 36 (.w []) [.sl 5 (l.map zab),.i size] (.row 45 2) ⟨[],[],[(45,.z 5 1 2 (r.map zas))],[],[]⟩:=by
 refine PT 64 [.tmp 4] [22] Tryz.func36 ?_
 intro Q g hfin
 unfold R_FileOf at hF
 refine LR0 ?_
 refine LR0 ?_
 refine LR0 ?_
 refine NR [] [0,1,5,6,7,8,9] [] [] [(0,.sl 5 (l.map zab)),(1,.i size),(5,.nils),(6,.nils),(7,.nils),(8,.str ([]:B8)),(9,.i 0)] .nil ?_
 refine NmS (fun v=>R_FileOf_J1 l v=some r) (fun Z v=>Z.up [0,5,6] [] [45,49] [] [(5,.row 45 0),(6,.row 49 0)] [] [(45,.z 5 1 0 (v.1.map zas)),(49,.z 5 1 0 (v.2.map zas))] []) ?_ ?_
 ·refine zb5 ?_
  unfold R_FileOf_L1 at hF
  refine zap 5 60000 5 1 rfl rfl rfl ?_
  refine zap 6 60001 5 1 rfl rfl rfl ?_
  refine zap 7 60002 5 1 rfl rfl rfl ?_
  refine zcj (fs:=[0,1,5,6,7,8,9]) (bs:=[]) (rs:=[60000,60001,60002]) (ms:=[]) (aa:=[]) (nv:=[]) rfl ?_
  refine zau ⟨[],[(60000,45),(60001,49),(60002,30)],[],[]⟩ rfl ?_
  refine zrv hF [] (fun v1=>⟨[(0,.sl 5 (l.map zab)),(1,.i size),(5,.row 45 0),(6,.row 49 0),(7,.row 30 0),(8,.str v1.2.2.2.1),(9,.i v1.2.2.2.2)],[],[(30,.z 5 1 0 (v1.2.2.1.map zas)),(45,.z 5 1 0 (v1.1.map zas)),(49,.z 5 1 0 (v1.2.1.map zas))],[],[]⟩) ?_
  intro n1 v1 y1 hF ih1 dn1
  unfold R_FileOf_B1 at hF
  refine RJ (.l zab l .z) ?_
  refine Nif hF ?_ ?_ <;> intro hb hF
  ·refine zb5 ?_
   refine RJ (.l zas v1.2.2.1 .z) ?_
   have⟨v2,hv,hF⟩:=oE hF
   refine NmT (fun Z=>Z.up [0,1,5,6,7,8,9] [] [30,45,49] [] [(8,.str v2)] [] [] []) ?_ ?_
   ·have hF:=hv
    refine Nif hF ?_ ?_ <;> intro hb hF
    ·have⟨h8,hF⟩:=aE hF
     refine RJ (.i zab h8 .z) ?_
     cases hF
     exact zgt []
    ·cases hF
     exact zgt []
   ·have⟨h9,hF⟩:=aE hF
    have⟨x3,h10,hF⟩:=oE hF
    have p11:=(Pe.ren (R_CellBytes_ok h10) ⟨[],[(6,29)],[],[]⟩)
    have⟨h12,hF⟩:=aE hF
    refine RJ (.i zab h9 (.e [] [] p11 (.p zas h12 .z))) ?_
    refine RJ (.l zas (v1.2.2.1++x3) (.a (.nat (l.length:Int)) (.g (fun (_:(!(decide (size<=((v1.2.2.1++x3).length:Int))))=true)=>(zc5 zab l)) .z))) ?_
    have⟨v3,hv,hF⟩:=oE hF
    refine NmT (fun Z=>Z.up [0,1,5,6,7,8,9] [] [30,45,49] [] [(7,.row 30 0)] [] [(30,.z 5 1 0 (v3.2.2.map zas)),(45,.z 5 1 0 (v3.1.map zas)),(49,.z 5 1 0 (v3.2.1.map zas))] []) ?_ ?_
    ·have hF:=hv
     refine Nif hF ?_ ?_ <;> intro hb hF
     ·have⟨x4,h13,hF⟩:=oE hF
      have p14:=(Pe.ren (zkm h13) ⟨[],[(13,44)],[],[]⟩)
      have⟨h15,hF⟩:=aE hF
      refine RJ (.e [] [] p14 (.p zas h15 .z)) ?_
      have⟨x5,h16,hF⟩:=oE hF
      have p17:=(Pe.ren (zm7 h16) ⟨[],[(5,48)],[],[]⟩)
      have⟨h18,hF⟩:=aE hF
      refine RJ (.e [] [] p17 (.p zas h18 .z)) ?_
      have⟨x6,h19,hF⟩:=oE hF
      have p20:=(Pe.ren (zpq h19) ⟨[],[(7,53)],[],[]⟩)
      have⟨h21,hF⟩:=aE hF
      refine RJ (.l zas (v1.2.2.1++x3) (.e [] [] p20 (.p zas h21 .z))) ?_
      refine VR [] [0,1,5,6,7,8,9] [] [45,49] [] [(0,.sl 5 (l.map zab)),(1,.i size),(5,.row 45 1),(6,.row 49 2),(7,.nils),(8,.str v2),(9,.i v1.2.2.2.2)] [] [(45,.z 5 1 1 ((v1.1++x4).map zas)),(49,.z 5 1 2 (((v1.2.1++x5)++x6).map zas))] [] .nil ?_
      refine zap 7 60003 5 1 rfl rfl rfl ?_
      refine zcj (fs:=[0,1,5,6,7,8,9]) (bs:=[]) (rs:=[45,49,60003]) (ms:=[]) (aa:=[]) (nv:=[]) rfl ?_
      refine zau ⟨[],[(60003,30)],[],[]⟩ rfl ?_
      cases hF
      exact zgt [(45,⟨0,true,true,false⟩),(49,⟨0,true,true,false⟩)]
     ·cases hF
      exact zgt [(30,⟨0,true,true,false⟩)]
    ·refine LR0 ?_
     exact zgb [] hF ih1
  ·refine zbm rfl ?_
   have hF:=zaj hF dn1
   exact ze4 (v1.1,v1.2.1) [] hF
 ·intro v hF
  unfold R_FileOf_J1 at hF
  have⟨x,h0,hF⟩:=oE hF
  have p1:=(Pe.ren (zkm h0) ⟨[],[(13,57)],[],[]⟩)
  have⟨h2,hF⟩:=aE hF
  refine RJ (.e [] [] p1 (.p zas h2 .z)) ?_
  have⟨x1,h3,hF⟩:=oE hF
  have p4:=(Pe.ren (zrw h3) ⟨[],[(46,61)],[],[]⟩)
  have⟨x2,h5,hF⟩:=oE hF
  have p6:=(Pe.ren (zkm h5) ⟨[],[(13,62)],[],[]⟩)
  have⟨h7,hF⟩:=aE hF
  refine RJ (.e [] [] p4 (.e [] [] p6 (.p zas h7 .z))) ?_
  cases hF
  exact Wz [] hfin

/- tabularyref.FileOf -/
def zjw (l:Cs)(v:B8×B8):Option B8:=
 ob (zlh v.2) fun x=>
 zao (((v.1++x).length:Int)*1<=140737488351232) <|
 ob (zkw l) fun x1=>
 ob (zlh x1) fun x2=>
 zao ((((v.1++x)++x2).length:Int)*1<=140737488351232) <|
 some ((v.1++x)++x2)
def zgo (l:Cs)(size:Int)(v1:B8×B8×B8×B8×Int):Option ((B8×B8×B8×B8×Int)⊕B8):=
 if (decide (v1.2.2.2.2<(l.length:Int)))=true then
  ob (
   if (decide ((v1.2.2.1.length:Int)=0))=true then
    zao (0<=v1.2.2.2.2/\v1.2.2.2.2<(l.length:Int)) <|
    some ((zad l v1.2.2.2.2).Row)
   else
    some v1.2.2.2.1) fun v2=>
  zao (0<=v1.2.2.2.2/\v1.2.2.2.2<(l.length:Int)) <|
  ob (zmi (⟨(zad l v1.2.2.2.2).Row,(zad l v1.2.2.2.2).Col,(zad l v1.2.2.2.2).Time,(zad l v1.2.2.2.2).Gone,(zad l v1.2.2.2.2).Value⟩:Cell)) fun x3=>
  zao (((v1.2.2.1++x3).length:Int)*1<=140737488351232) <|
  ob (
   if ((decide (size<=((v1.2.2.1++x3).length:Int)))||(decide (v1.2.2.2.2=(w64 ((l.length:Int) - 1)))))=true then
    ob (zlh (v1.2.2.1++x3)) fun x4=>
    zao (((v1.1++x4).length:Int)*1<=140737488351232) <|
    ob (zlw v2) fun x5=>
    zao (((v1.2.1++x5).length:Int)*1<=140737488351232) <|
    ob (zpx ((v1.2.2.1++x3).length:Int)) fun x6=>
    zao ((((v1.2.1++x5)++x6).length:Int)*1<=140737488351232) <|
    some ((v1.1++x4),((v1.2.1++x5)++x6),([]:B8))
   else
    some (v1.1,v1.2.1,(v1.2.2.1++x3))) fun v3=>
  some (Sum.inl (v3.1,v3.2.1,v3.2.2,v2,w64 (v1.2.2.2.2+1)))
 else
  zev (zjw l (v1.1,v1.2.1))
def zql (l:Cs)(size:Int)(v0:B8×B8×B8×B8×Int):Option B8:=
 zbg (fun y=>zgo l size y) v0
def zkg (l:Cs)(size:Int):Option B8:=
 zql l size (([]:B8),([]:B8),([]:B8),([]:B8),0)
theorem R_FileOf_v1_ok {l size r}(hF:zkg l size=some r):Pe Tryz.prog 36 S.none [.sl 5 (l.map zab),.i size] (.sl 1 (r.map zas)) S.none:=by
 refine PT 64 [.tmp 4] [22] Tryz.func36 ?_
 intro Q g hfin
 unfold zkg at hF
 refine LR0 ?_
 refine LR0 ?_
 refine LR0 ?_
 refine NR [] [0,1,5,6,7,8,9] [] [] [(0,.sl 5 (l.map zab)),(1,.i size),(5,.nils),(6,.nils),(7,.nils),(8,.str ([]:B8)),(9,.i 0)] .nil ?_
 refine NmS (fun v=>zjw l v=some r) (fun Z v=>Z.up [0,5,6] [] [45,49] [] [(5,.row 45 0),(6,.row 49 0)] [] [(45,.z 5 1 0 (v.1.map zas)),(49,.z 5 1 0 (v.2.map zas))] []) ?_ ?_
 ·refine zb5 ?_
  unfold zql at hF
  refine zap 5 60000 5 1 rfl rfl rfl ?_
  refine zap 6 60001 5 1 rfl rfl rfl ?_
  refine zap 7 60002 5 1 rfl rfl rfl ?_
  refine zcj (fs:=[0,1,5,6,7,8,9]) (bs:=[]) (rs:=[60000,60001,60002]) (ms:=[]) (aa:=[]) (nv:=[]) rfl ?_
  refine zau ⟨[],[(60000,45),(60001,49),(60002,30)],[],[]⟩ rfl ?_
  refine zrv hF [] (fun v1=>⟨[(0,.sl 5 (l.map zab)),(1,.i size),(5,.row 45 0),(6,.row 49 0),(7,.row 30 0),(8,.str v1.2.2.2.1),(9,.i v1.2.2.2.2)],[],[(30,.z 5 1 0 (v1.2.2.1.map zas)),(45,.z 5 1 0 (v1.1.map zas)),(49,.z 5 1 0 (v1.2.1.map zas))],[],[]⟩) ?_
  intro n1 v1 y1 hF ih1 dn1
  unfold zgo at hF
  refine RJ (.l zab l .z) ?_
  refine Nif hF ?_ ?_ <;> intro hb hF
  ·refine zb5 ?_
   refine RJ (.l zas v1.2.2.1 .z) ?_
   have⟨v2,hv,hF⟩:=oE hF
   refine NmT (fun Z=>Z.up [0,1,5,6,7,8,9] [] [30,45,49] [] [(8,.str v2)] [] [] []) ?_ ?_
   ·have hF:=hv
    refine Nif hF ?_ ?_ <;> intro hb hF
    ·have⟨h8,hF⟩:=aE hF
     refine RJ (.i zab h8 .z) ?_
     cases hF
     exact zgt []
    ·cases hF
     exact zgt []
   ·have⟨h9,hF⟩:=aE hF
    have⟨x3,h10,hF⟩:=oE hF
    have p11:=(Pe.ren (R_CellBytes_ok h10) ⟨[],[(6,29)],[],[]⟩)
    have⟨h12,hF⟩:=aE hF
    refine RJ (.i zab h9 (.e [] [] p11 (.p zas h12 .z))) ?_
    refine RJ (.l zas (v1.2.2.1++x3) (.a (.nat (l.length:Int)) (.g (fun (_:(!(decide (size<=((v1.2.2.1++x3).length:Int))))=true)=>(zc5 zab l)) .z))) ?_
    have⟨v3,hv,hF⟩:=oE hF
    refine NmT (fun Z=>Z.up [0,1,5,6,7,8,9] [] [30,45,49] [] [(7,.row 30 0)] [] [(30,.z 5 1 0 (v3.2.2.map zas)),(45,.z 5 1 0 (v3.1.map zas)),(49,.z 5 1 0 (v3.2.1.map zas))] []) ?_ ?_
    ·have hF:=hv
     refine Nif hF ?_ ?_ <;> intro hb hF
     ·have⟨x4,h13,hF⟩:=oE hF
      have p14:=(Pe.ren (zkm h13) ⟨[],[(13,44)],[],[]⟩)
      have⟨h15,hF⟩:=aE hF
      refine RJ (.e [] [] p14 (.p zas h15 .z)) ?_
      have⟨x5,h16,hF⟩:=oE hF
      have p17:=(Pe.ren (zm7 h16) ⟨[],[(5,48)],[],[]⟩)
      have⟨h18,hF⟩:=aE hF
      refine RJ (.e [] [] p17 (.p zas h18 .z)) ?_
      have⟨x6,h19,hF⟩:=oE hF
      have p20:=(Pe.ren (zpq h19) ⟨[],[(7,53)],[],[]⟩)
      have⟨h21,hF⟩:=aE hF
      refine RJ (.l zas (v1.2.2.1++x3) (.e [] [] p20 (.p zas h21 .z))) ?_
      refine VR [] [0,1,5,6,7,8,9] [] [45,49] [] [(0,.sl 5 (l.map zab)),(1,.i size),(5,.row 45 1),(6,.row 49 2),(7,.nils),(8,.str v2),(9,.i v1.2.2.2.2)] [] [(45,.z 5 1 1 ((v1.1++x4).map zas)),(49,.z 5 1 2 (((v1.2.1++x5)++x6).map zas))] [] .nil ?_
      refine zap 7 60003 5 1 rfl rfl rfl ?_
      refine zcj (fs:=[0,1,5,6,7,8,9]) (bs:=[]) (rs:=[45,49,60003]) (ms:=[]) (aa:=[]) (nv:=[]) rfl ?_
      refine zau ⟨[],[(60003,30)],[],[]⟩ rfl ?_
      cases hF
      exact zgt [(45,⟨0,true,true,false⟩),(49,⟨0,true,true,false⟩)]
     ·cases hF
      exact zgt [(30,⟨0,true,true,false⟩)]
    ·refine LR0 ?_
     exact zgb [] hF ih1
  ·refine zbm rfl ?_
   have hF:=zaj hF dn1
   exact ze4 (v1.1,v1.2.1) [] hF
 ·intro v hF
  unfold zjw at hF
  have⟨x,h0,hF⟩:=oE hF
  have p1:=(Pe.ren (zkm h0) ⟨[],[(13,57)],[],[]⟩)
  have⟨h2,hF⟩:=aE hF
  refine RJ (.e [] [] p1 (.p zas h2 .z)) ?_
  have⟨x1,h3,hF⟩:=oE hF
  have p4:=(Pe.ren (zrw h3) ⟨[],[(46,61)],[],[]⟩)
  have⟨x2,h5,hF⟩:=oE hF
  have p6:=(Pe.ren (zkm h5) ⟨[],[(13,62)],[],[]⟩)
  have⟨h7,hF⟩:=aE hF
  refine RJ (.e [] [] p4 (.e [] [] p6 (.p zas h7 .z))) ?_
  cases hF
  exact Wz [] hfin

/- tabularyref.Same -/
def zl1 (a0 b:B8):Bool:=
 decide (a0=b)
theorem zq2 {a0 b r}(hF:zl1 a0 b=r):Pe Tryz.prog 60 S.none [.sl 1 (a0.map zas),.sl 1 (b.map zas)] (.bool r) S.none:=by
 refine PT 10 [.tmp 4] [4] Tryz.func60 ?_
 intro Q g hfin
 unfold zl1 at hF
 refine LR0 ?_
 refine RJ (.a (.str a0) (.g (u8s_ok a0) (.a (.str b) (.g (u8s_ok b) .z)))) ?_
 cases hF
 exact Wz [] hfin

/- tabularylaw.tabletBegun -/
def zix  : Option Bool:=
 lt (law_oneNote) fun x=>
 ob (zlf (⟨(⟨([]:B8),0⟩:Disk),([]:B9),0,0⟩:Tablet) x.Cells) fun x1=>
 ob (zi9 x1.1 50) fun x2=>
 ob (zli x2.1) fun x3=>
 zao (((((((decide (x1.2.2.Code=0))&&(decide (x2.2.Code=0)))&&(decide (x3.2.Code=0)))&&(decide (x1.2.1=1)))&&(decide (x3.1.Done=1)))&&(decide ((x3.1.Files.length:Int)=1)))=true->0<=(0:Int)/\0<(x3.1.Files.length:Int)) <|
 lt (law_oneNote) fun x4=>
 ob (if ((((((decide (x1.2.2.Code=0))&&(decide (x2.2.Code=0)))&&(decide (x3.2.Code=0)))&&(decide (x1.2.1=1)))&&(decide (x3.1.Done=1)))&&(decide ((x3.1.Files.length:Int)=1)))=true then (zkg x4.Cells 50) else some default) fun x5=>
 lt (zl1 (zad x3.1.Files 0) x5) fun x6=>
 lt ((((((((decide (x1.2.2.Code=0))&&(decide (x2.2.Code=0)))&&(decide (x3.2.Code=0)))&&(decide (x1.2.1=1)))&&(decide (x3.1.Done=1)))&&(decide ((x3.1.Files.length:Int)=1)))&&x6)&&(decide ((x3.1.Log.Bytes.length:Int)=0))) fun v=>
 some v
theorem law_tabletBegun_ok { r}(hF:zix  = some r):Pe Tryz.prog 8 S.none [] (.bool r) S.none:=by
 refine PT 69 [.tmp 0] [4] Tryz.func8 ?_
 intro Q g hfin
 unfold zix at hF
 refine LR0 ?_
 have⟨x,h0,hF⟩:=lS hF
 have⟨x1,h1,hF⟩:=oE hF
 refine RJ (.c (law_oneNote_ok h0) (.c (tablet_Put_v1_ok h1) .z)) ?_
 have⟨x2,h2,hF⟩:=oE hF
 refine RJ (.c (tablet_Flush_v1_ok h2) .z) ?_
 have⟨x3,h3,hF⟩:=oE hF
 refine RJ (.c (tablet_Cut_v1_ok h3) .z) ?_
 have⟨h4,hF⟩:=aE hF
 have⟨x4,h5,hF⟩:=lS hF
 have⟨x5,h6,hF⟩:=oE hF
 have⟨x6,h7,hF⟩:=lS hF
 refine NDL ((((((((decide (x1.2.2.Code=0))&&(decide (x2.2.Code=0)))&&(decide (x3.2.Code=0)))&&(decide (x1.2.1=1)))&&(decide (x3.1.Done=1)))&&(decide ((x3.1.Files.length:Int)=1)))&&x6)&&(decide ((x3.1.Log.Bytes.length:Int)=0))) (fun v:Bool=>([(0,.bool v)],[],[],[])) [.nat (x3.1.Files.length:Int),.av (zaf (zad x3.1.Files 0)),.call (.agg (c_Note x4)),.call (.sl 1 (x5.map zas)),.callB (.bool x6),.nat (x3.1.Log.Bytes.length:Int)] [0] [] [] [] (hc (fun (_:(((((decide (x1.2.2.Code=0))&&(decide (x2.2.Code=0)))&&(decide (x3.2.Code=0)))&&(decide (x1.2.1=1)))&&(decide (x3.1.Done=1)))=true)=>(zc5 zaf x3.1.Files)) (hc (fun (ga0:((((((decide (x1.2.2.Code=0))&&(decide (x2.2.Code=0)))&&(decide (x3.2.Code=0)))&&(decide (x1.2.1=1)))&&(decide (x3.1.Done=1)))&&(decide ((x3.1.Files.length:Int)=1)))=true)=>(zgi zaf (h4 ga0))) (hc (fun (ga0:((((((decide (x1.2.2.Code=0))&&(decide (x2.2.Code=0)))&&(decide (x3.2.Code=0)))&&(decide (x1.2.1=1)))&&(decide (x3.1.Done=1)))&&(decide ((x3.1.Files.length:Int)=1)))=true)=>(law_oneNote_ok h5)) (hc (fun (ga0:((((((decide (x1.2.2.Code=0))&&(decide (x2.2.Code=0)))&&(decide (x3.2.Code=0)))&&(decide (x1.2.1=1)))&&(decide (x3.1.Done=1)))&&(decide ((x3.1.Files.length:Int)=1)))=true)=>(R_FileOf_v1_ok (ite_t h6 ga0))) (hc (fun (ga0:((((((decide (x1.2.2.Code=0))&&(decide (x2.2.Code=0)))&&(decide (x3.2.Code=0)))&&(decide (x1.2.1=1)))&&(decide (x3.1.Done=1)))&&(decide ((x3.1.Files.length:Int)=1)))=true)=>(zq2 h7)) (hc (fun (_:(((((((decide (x1.2.2.Code=0))&&(decide (x2.2.Code=0)))&&(decide (x3.2.Code=0)))&&(decide (x1.2.1=1)))&&(decide (x3.1.Done=1)))&&(decide ((x3.1.Files.length:Int)=1)))&&x6)=true)=>(zc5 zas x3.1.Log.Bytes)) .nil)))))) (fun v hv=>?_)
 have hF:=zeg hF hv
 cases hF
 exact Wz [] hfin

/- tabularylaw.vastTablet -/
def zhb (v:Tablet×Int):Option Bool:=
 some ((decide (20000<v.2))||(decide (100<(v.1.Files.length:Int))))
def zfr (v1:Tablet×Int×Int):Option ((Tablet×Int×Int)⊕Bool):=
 if (decide (v1.2.2<(v1.1.Files.length:Int)))=true then
  zao (0<=v1.2.2/\v1.2.2<(v1.1.Files.length:Int)) <|
  some (Sum.inl (v1.1,w64 (v1.2.1+((zad v1.1.Files v1.2.2).length:Int)),w64 (v1.2.2+1)))
 else
  zev (zhb (v1.1,v1.2.1))
def zg6 (v0:Tablet×Int×Int):Option Bool:=
 zbg (fun y=>zfr y) v0
def zh4 (t0:Tablet):Option Bool:=
 zg6 (t0,(t0.Log.Bytes.length:Int),0)
theorem law_vastTablet_ok {t0 r}(hF:zh4 t0=some r):Pe Tryz.prog 9 S.none [.agg (zag t0)] (.bool r) S.none:=by
 refine PT 32 [.tmp 2] [4] Tryz.func9 ?_
 intro Q g hfin
 unfold zh4 at hF
 refine LR0 ?_
 refine RJ (.l zas t0.Log.Bytes .z) ?_
 refine LR0 ?_
 refine NmQ (fun v=>zhb v=some r) (fun v=>⟨[(1,.ptr 1 0),(3,.i v.2)],[(1,(zag v.1))],[],[],[]⟩) ?_ ?_
 ·refine zb5 ?_
  unfold zg6 at hF
  refine zrv hF [] (fun v1=>⟨[(1,.ptr 1 0),(3,.i v1.2.1),(4,.i v1.2.2)],[(1,(zag v1.1))],[],[],[]⟩) ?_
  intro n1 v1 y1 hF ih1 dn1
  unfold zfr at hF
  refine RJ (.l zaf v1.1.Files .z) ?_
  refine Nif hF ?_ ?_ <;> intro hb hF
  ·refine zb5 ?_
   have⟨h0,hF⟩:=aE hF
   refine RJ (.i zaf h0 (.l zas (zad v1.1.Files v1.2.2) .z)) ?_
   refine LR0 ?_
   exact zgb [] hF ih1
  ·refine zbm rfl ?_
   have hF:=zaj hF dn1
   exact ze4 (v1.1,v1.2.1) [] hF
 ·intro v hF
  unfold zhb at hF
  refine RJ (.a (.nat (v.1.Files.length:Int)) (.g (fun (_:(!(decide (20000<v.2)))=true)=>(zc5 zaf v.1.Files)) .z)) ?_
  cases hF
  exact Wz [] hfin

/- tabularylaw.many -/
/- tabularylaw.ownBytes -/
/- tabularylaw.ownBytes -/
def zf5 (b:B8):Option B8:=
 zao ((b.length:Int)*1<=140737488351232) <|
 some b
theorem zlx {b r}(hF:zf5 b=some r):Pe Tryz.prog 29 S.none [.sl 1 (b.map zas)] (.sl 1 (r.map zas)) S.none:=by
 refine PT 5 [.tmp 2] [22] Tryz.func29 ?_
 intro Q g hfin
 unfold zf5 at hF
 refine LR0 ?_
 have⟨h0,hF⟩:=aE hF
 refine RJ (.p0 zas h0 .z) ?_
 cases hF
 exact Wz [] hfin

/- tabularylaw.ownDisk -/
def zsw (d:Disk):Option Disk:=
 ob (zf5 d.Bytes) fun x=>
 some (⟨x,d.Kept⟩:Disk)
theorem law_ownDisk_ok {d r}(hF:zsw d=some r):Pe Tryz.prog 61 S.none [.agg (c_Disk d)] (.agg (c_Disk r)) S.none:=by
 refine PT 9 [.cell 2 24] [24] Tryz.func61 ?_
 intro Q g hfin
 unfold zsw at hF
 refine LR0 ?_
 have⟨x,h0,hF⟩:=oE hF
 refine DJ (.c (zlx h0) .z) ?_
 cases hF
 exact Wz [] hfin

/- tabularylaw.ownBodies -/
def znr (v:B9):Option B9:=
 some v
def law_ownBodies_B1 (l:B9)(v1:B9×Int):Option ((B9×Int)⊕B9):=
 if (decide (v1.2<(l.length:Int)))=true then
  zao (0<=v1.2/\v1.2<(l.length:Int)) <|
  ob (zf5 (zad l v1.2)) fun x=>
  zao (((v1.1++([x]:B9)).length:Int)*24<=140737488351232) <|
  some (Sum.inl ((v1.1++([x]:B9)),w64 (v1.2+1)))
 else
  zev (znr v1.1)
def law_ownBodies_L1 (l:B9)(v0:B9×Int):Option B9:=
 zbg (fun y=>law_ownBodies_B1 l y) v0
def zn1 (l:B9):Option B9:=
 law_ownBodies_L1 l (([]:B9),0)
theorem law_ownBodies_ok {l r}(hF:zn1 l=some r):Pe Tryz.prog 55 (.w []) [.sl 1 (l.map zaf)] (.row 18 0) ⟨[],[],[(18,.z 22 1 0 (r.map zaf))],[],[]⟩:=by
 refine PT 20 [.tmp 2] [25] Tryz.func55 ?_
 intro Q g hfin
 unfold zn1 at hF
 refine LR0 ?_
 refine LR0 ?_
 refine NR [] [0,3,4] [] [] [(0,.sl 1 (l.map zaf)),(3,.nils),(4,.i 0)] .nil ?_
 refine NmQ (fun v=>znr v=some r) (fun v=>⟨[(3,.row 18 0)],[],[(18,.z 22 1 0 (v.map zaf))],[],[]⟩) ?_ ?_
 ·refine zb5 ?_
  unfold law_ownBodies_L1 at hF
  refine zap 3 60000 22 1 rfl rfl rfl ?_
  refine zcj (fs:=[0,3,4]) (bs:=[]) (rs:=[60000]) (ms:=[]) (aa:=[]) (nv:=[]) rfl ?_
  refine zau ⟨[],[(60000,18)],[],[]⟩ rfl ?_
  refine zrv hF [] (fun v1=>⟨[(0,.sl 1 (l.map zaf)),(3,.row 18 0),(4,.i v1.2)],[],[(18,.z 22 1 0 (v1.1.map zaf))],[],[]⟩) ?_
  intro n1 v1 y1 hF ih1 dn1
  unfold law_ownBodies_B1 at hF
  refine RJ (.l zaf l .z) ?_
  refine Nif hF ?_ ?_ <;> intro hb hF
  ·refine zb5 ?_
   have⟨h0,hF⟩:=aE hF
   have⟨x,h1,hF⟩:=oE hF
   have⟨h2,hF⟩:=aE hF
   refine RJ (.i zaf h0 (.c (zlx h1) (.a (.sealed) (.p zaf h2 .z)))) ?_
   refine LR0 ?_
   exact zgb [(18,⟨0,true,true,false⟩)] hF ih1
  ·refine zbm rfl ?_
   have hF:=zaj hF dn1
   exact ze4 v1.1 [] hF
 ·intro v hF
  unfold znr at hF
  refine LR0 ?_
  cases hF
  exact Wz [] hfin

/- tabularylaw.ownBodies -/
def zhs (v:B9):Option B9:=
 some v
def zhl (l:B9)(v1:B9×Int):Option ((B9×Int)⊕B9):=
 if (decide (v1.2<(l.length:Int)))=true then
  zao (0<=v1.2/\v1.2<(l.length:Int)) <|
  ob (zf5 (zad l v1.2)) fun x=>
  zao (((v1.1++([x]:B9)).length:Int)*24<=140737488351232) <|
  some (Sum.inl ((v1.1++([x]:B9)),w64 (v1.2+1)))
 else
  zev (zhs v1.1)
def zkp (l:B9)(v0:B9×Int):Option B9:=
 zbg (fun y=>zhl l y) v0
def zj6 (l:B9):Option B9:=
 zkp l (([]:B9),0)
theorem law_ownBodies_v1_ok {l r}(hF:zj6 l=some r):Pe Tryz.prog 55 S.none [.sl 1 (l.map zaf)] (.sl 1 (r.map zaf)) S.none:=by
 refine PT 20 [.tmp 2] [25] Tryz.func55 ?_
 intro Q g hfin
 unfold zj6 at hF
 refine LR0 ?_
 refine LR0 ?_
 refine NR [] [0,3,4] [] [] [(0,.sl 1 (l.map zaf)),(3,.nils),(4,.i 0)] .nil ?_
 refine NmQ (fun v=>zhs v=some r) (fun v=>⟨[(3,.row 18 0)],[],[(18,.z 22 1 0 (v.map zaf))],[],[]⟩) ?_ ?_
 ·refine zb5 ?_
  unfold zkp at hF
  refine zap 3 60000 22 1 rfl rfl rfl ?_
  refine zcj (fs:=[0,3,4]) (bs:=[]) (rs:=[60000]) (ms:=[]) (aa:=[]) (nv:=[]) rfl ?_
  refine zau ⟨[],[(60000,18)],[],[]⟩ rfl ?_
  refine zrv hF [] (fun v1=>⟨[(0,.sl 1 (l.map zaf)),(3,.row 18 0),(4,.i v1.2)],[],[(18,.z 22 1 0 (v1.1.map zaf))],[],[]⟩) ?_
  intro n1 v1 y1 hF ih1 dn1
  unfold zhl at hF
  refine RJ (.l zaf l .z) ?_
  refine Nif hF ?_ ?_ <;> intro hb hF
  ·refine zb5 ?_
   have⟨h0,hF⟩:=aE hF
   have⟨x,h1,hF⟩:=oE hF
   have⟨h2,hF⟩:=aE hF
   refine RJ (.i zaf h0 (.c (zlx h1) (.a (.sealed) (.p zaf h2 .z)))) ?_
   refine LR0 ?_
   exact zgb [(18,⟨0,true,true,false⟩)] hF ih1
  ·refine zbm rfl ?_
   have hF:=zaj hF dn1
   exact ze4 v1.1 [] hF
 ·intro v hF
  unfold zhs at hF
  refine LR0 ?_
  cases hF
  exact Wz [] hfin

/- tabularylaw.ownTablet -/
def zll (t0:Tablet):Option Tablet:=
 ob (zsw t0.Log) fun x=>
 ob (zj6 t0.Files) fun x1=>
 some (⟨x,x1,t0.Done,t0.Since⟩:Tablet)
theorem law_ownTablet_ok {t0 r}(hF:zll t0=some r):Pe Tryz.prog 11 S.none [.agg (zag t0)] (.agg (zag r)) S.none:=by
 refine PT 12 [.cell 2 27] [27] Tryz.func11 ?_
 intro Q g hfin
 unfold zll at hF
 refine LR0 ?_
 have⟨x,h0,hF⟩:=oE hF
 refine RJ (.c (law_ownDisk_ok h0) .z) ?_
 have⟨x1,h1,hF⟩:=oE hF
 refine RJ (.c (law_ownBodies_v1_ok h1) .z) ?_
 refine LR0 ?_
 cases hF
 exact Wz [] hfin

/- tabularylaw.ownCells -/
/- tabularylaw.ownCells -/
/- tablet.Sync$1 -/
/- tablet.with -/
/- tablet.Sync -/
/- tablet.Sync -/
/- disk.cut -/
/- disk.Crash -/
/- tablet.Crash$1 -/
/- tablet.Crash$1 -/
/- tablet.with -/
/- tablet.Crash -/
/- tablet.Crash -/
/- tabularyref.F -/
def R_F (code at0:Int):Fault:=
 (⟨code,at0⟩:Fault)
theorem zfn {code at0 r}(hF:R_F code at0=r):Pe Tryz.prog 22 S.none [.i code,.i at0] (.agg (zae r)) S.none:=by
 refine PT 8 [.cell 4 35] [35] Tryz.func22 ?_
 intro Q g hfin
 unfold R_F at hF
 refine LR0 ?_
 refine LR0 ?_
 cases hF
 exact Wz [] hfin

end
end G
end Go.Proofs.YticbfakiihfgmaaGreat
