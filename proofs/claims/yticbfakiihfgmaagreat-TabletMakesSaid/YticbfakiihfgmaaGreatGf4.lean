/- The program's functions as plain functions, and that they are these. Written by a program (dec2.py). -/
import Derived.Test.YticbfakiihfgmaaGreatGf3
namespace Go.Proofs.YticbfakiihfgmaaGreat
open Go Go.Dm
set_option linter.unusedVariables false
set_option linter.unusedSimpArgs false
set_option maxRecDepth 100000
namespace G
noncomputable section
/- slices.IndexFunc[[]api.Cell,api.Cell] -/
def zdg (v:Unit):Option Int:=
 some (-1)
def zax (box box1:B8)(row:Cs)(v1:Int):Option (Int⊕Int):=
 if (decide (v1<(row.length:Int)))=true then
  zao (0<=v1/\v1<(row.length:Int)) <|
  zao (0<=v1/\v1<(row.length:Int)) <|
  lt (zaq (⟨(zad row v1).Row,(zad row v1).Col,(zad row v1).Time,(zad row v1).Gone,(zad row v1).Value⟩:Cell) box box1) fun x=>
  if x=true then
   some (Sum.inr v1)
  else
   some (Sum.inl (w64 (v1+1)))
 else
  zev (zdg ())
def zca (box box1:B8)(row:Cs)(v0:Int):Option Int:=
 zbg (fun y=>zax box box1 row y) v0
def zcp (box box1:B8)(row:Cs):Option Int:=
 zca box box1 row 0
theorem zip (rk rc:Nat)(rn:Bool){box box1 row r}(hF:zcp box box1 row=some r):Pe Tryz.prog 133 ⟨[],[(100000,[.str box]),(100001,[.str box1])],[(100000,.q 53 5 0 rk rc rn (row.map zab))],[],[]⟩ [.row 100000 0,.fn 96 [.ptr 100000 0,.ptr 100001 0]] (.i r) ⟨[],[(100000,[.str box]),(100001,[.str box1])],[(100000,.q 53 5 0 rk rc rn (row.map zab))],[],[]⟩:=by
 refine PT 19 [.tmp 4] [3] Tryz.func133 ?_
 intro Q g hfin
 unfold zcp at hF
 refine LR0 ?_
 refine RJ (.l zab row .z) ?_
 refine NmS (fun v=>zdg v=some r) (fun Z v=>Z.up [] [100000,100001] [100000] [] [] [] [] []) ?_ ?_
 ·refine zb5 ?_
  unfold zca at hF
  refine zoy hF [] (fun Z v1=>Z.up [0,1,7,8] [100000,100001] [100000] [] [(8,.i v1)] [] [] []) ?_
  intro n1 v1 y1 hF ih1 dn1
  unfold zax at hF
  refine LR0 ?_
  refine Nif hF ?_ ?_ <;> intro hb hF
  ·refine zb5 ?_
   refine LR0 ?_
   have⟨h0,h1,hF⟩:=zf7 hF
   have⟨x,h2,hF⟩:=lS hF
   refine RJ (.x zab h0 (.r zab h1 (.q [100000,100001] [] (Pe.ren (zqd h2) ⟨[],[],[],[]⟩) .z))) ?_
   refine Nif hF ?_ ?_ <;> intro hb hF
   ·refine LR0 ?_
    have hF:=zcr hF dn1
    cases hF
    exact Wz [] hfin
   ·refine LR0 ?_
    exact zgb [] hF ih1
  ·refine zbm rfl ?_
   have hF:=zaj hF dn1
   exact ze4 () [] hF
 ·intro v hF
  unfold zdg at hF
  refine LR0 ?_
  cases hF
  exact Wz [] hfin

/- slices.DeleteFunc[[]api.Cell,api.Cell] -/
def zb4 (v:Cs×Int):Option Cs:=
 zao (0<=v.2/\v.2<=(v.1.length:Int)) <|
 lt ((zo3 v.1 v.2.toNat (v.1.length - v.2.toNat) ((⟨([]:B8),([]:B8),0,false,([]:B8)⟩:Cell):Cell))) fun (v1:Cs)=>
 zao (0<=v.2/\v.2<=(v1.length:Int)) <|
 zao (v.2.toNat<=v1.length) <|
 some (v1.take v.2.toNat)
def za3 (box box1:B8)(v2:Cs×Int×Int):Option ((Cs×Int×Int)⊕Cs):=
 if (decide (v2.2.2<(v2.1.length:Int)))=true then
  zao (0<=v2.2.2/\v2.2.2<(v2.1.length:Int)) <|
  zao (0<=v2.2.2/\v2.2.2<(v2.1.length:Int)) <|
  lt (zaq (⟨(zad v2.1 v2.2.2).Row,(zad v2.1 v2.2.2).Col,(zad v2.1 v2.2.2).Time,(zad v2.1 v2.2.2).Gone,(zad v2.1 v2.2.2).Value⟩:Cell) box box1) fun x1=>
  ob (
   if (!x1)=true then
    zao (0<=v2.2.1/\v2.2.1<(v2.1.length:Int)) <|
    zao (0<=v2.2.1/\v2.2.1<(v2.1.length:Int)) <|
    lt ((zem v2.1 v2.2.1 (⟨(zad v2.1 v2.2.2).Row,(zad v2.1 v2.2.2).Col,(zad v2.1 v2.2.2).Time,(zad v2.1 v2.2.2).Gone,(zad v2.1 v2.2.2).Value⟩:Cell))) fun v4=>
    some (v4,w64 (v2.2.1+1))
   else
    some (v2.1,v2.2.1)) fun v3=>
  some (Sum.inl (v3.1,v3.2,w64 (v2.2.2+1)))
 else
  zev (zb4 (v2.1,v2.2.1))
def zbf (box box1:B8)(v0:Cs×Int×Int):Option Cs:=
 zbg (fun y=>za3 box box1 y) v0
def zbk (box box1:B8)(row:Cs):Option Cs:=
 ob (zcp box box1 row) fun x=>
 if (decide (x=(-1)))=true then
  some row
 else
  zbf box box1 (row,x,w64 (x+1))
theorem zib (rk rc:Nat)(rn:Bool){box box1 row r}(hF:zbk box box1 row=some r):Pe Tryz.prog 95 ⟨[],[(100000,[.str box]),(100001,[.str box1])],[(100000,.q 53 5 0 0 rc rn (row.map zab))],[],[]⟩ [.row 100000 0,.fn 96 [.ptr 100000 0,.ptr 100001 0]] (.row 100000 1) ⟨[],[(100000,[.str box]),(100001,[.str box1])],[(100000,.o 53 5 1 (r.map zab))],[],[]⟩:=by
 refine PT 42 [.tmp 4] [28] Tryz.func95 ?_
 intro Q g hfin
 unfold zbk at hF
 refine LR0 ?_
 have⟨x,h0,hF⟩:=oE hF
 refine RJ (.q [100000,100001] [100000] (Pe.ren (zip 0 rc rn h0) ⟨[],[],[],[]⟩) .z) ?_
 refine LR0 ?_
 refine Nif hF ?_ ?_ <;> intro hb hF
 ·refine LR0 ?_
  cases hF
  exact Wz [(100000,⟨1,false,false,false⟩)] hfin
 ·refine LR0 ?_
  refine NmS (fun v=>zb4 v=some r) (fun Z v=>Z.up [0,5] [100000,100001] [100000] [] [(5,.i v.2)] [] [(100000,.q 53 5 0 0 rc rn (v.1.map zab))] []) ?_ ?_
  ·refine zb5 ?_
   unfold zbf at hF
   refine zoy hF [] (fun Z v2=>Z.up [0,1,5,6] [100000,100001] [100000] [] [(5,.i v2.2.1),(6,.i v2.2.2)] [] [(100000,.q 53 5 0 0 rc rn (v2.1.map zab))] []) ?_
   intro n1 v2 y1 hF ih1 dn1
   unfold za3 at hF
   refine RJ (.l zab v2.1 .z) ?_
   refine Nif hF ?_ ?_ <;> intro hb hF
   ·refine zb5 ?_
    have⟨h4,h5,hF⟩:=zf7 hF
    refine RJ (.x zab h4 (.r zab h5 .z)) ?_
    have⟨x1,h6,hF⟩:=lS hF
    refine RJ (.q [100000,100001] [] (Pe.ren (zqd h6) ⟨[],[],[],[]⟩) .z) ?_
    have⟨v3,hv,hF⟩:=oE hF
    refine NmT (fun Z=>Z.up [0,1,5,6] [100000,100001] [100000] [] [(5,.i v3.2)] [] [(100000,.q 53 5 0 0 rc rn (v3.1.map zab))] []) ?_ ?_
    ·have hF:=hv
     refine Nif hF ?_ ?_ <;> intro hb hF
     ·have⟨h7,hF⟩:=aE hF
      have⟨h8,hF⟩:=aE hF
      have⟨v4,hv,hF⟩:=lS hF
      refine RJ (.x zab h7 (.wN zab h8 hv .z)) ?_
      refine LR0 ?_
      cases hF
      exact zgt []
     ·cases hF
      exact zgt []
    ·refine LR0 ?_
     exact zgb [] hF ih1
   ·refine zbm rfl ?_
    have hF:=zaj hF dn1
    exact ze4 (v2.1,v2.2.1) [] hF
  ·intro v hF
   unfold zb4 at hF
   have⟨h1,hF⟩:=aE hF
   refine NRL ((zo3 v.1 v.2.toNat (v.1.length - v.2.toNat) ((⟨([]:B8),([]:B8),0,false,([]:B8)⟩:Cell):Cell))) (fun v1:Cs=>([],[],[(100000,.q 53 5 0 0 rc rn (v1.map zab))],[])) [.vw (v.1.length - v.2.toNat),.xs ((zo3 v.1 v.2.toNat (v.1.length - v.2.toNat) ((⟨([]:B8),([]:B8),0,false,([]:B8)⟩:Cell):Cell)).map zab)] [0,5] [100000,100001] [100000] [] (hc (vw10_ok zab h1) (hc (clr_ok zab v.1 v.2.toNat (v.1.length - v.2.toNat) ((⟨([]:B8),([]:B8),0,false,([]:B8)⟩:Cell):Cell)) (hc (xa2 v.2.toNat) .nil))) (fun v1 hv=>?_)
   have hF:=zeg hF hv
   have⟨h2,hF⟩:=aE hF
   refine VR [.vw v.2.toNat] [4] [100000,100001] [100000] [] [(4,.rowv 100000 0 0 v.2.toNat)] [(100000,[.str box]),(100001,[.str box1])] [(100000,.q 53 5 0 0 rc rn (v1.map zab))] [] (hc (vw01_ok (cm:=rc) zab h2) .nil) ?_
   have⟨h3,hF⟩:=aE hF
   refine Wk_truncL 4 100000 0 v.2.toNat ((v1.take v.2.toNat).map zab) rfl rfl rfl rfl (tk_ok zab h3).1 (xa2 _) (xcz).symm ?_
   cases hF
   exact Wz [(100000,⟨1,false,true,false⟩)] hfin

/- tablet.Part$1 -/
def zh2 (box:B8)(box1:Int)(box2:B9)(box3 box4:Int)(box5 box6:Int)(box7 box8:B8)(box9:Tablet)(row:List Note)(row1:Cs)(row2:List Cs):Option (Fault×B8×Int×B9×Int×Int×Int×Cs):=
 lt (zfo box6) fun x=>
 if (!decide (x.Code=0))=true then
  some (x,box,box1,box2,box3,box4,box5,row1)
 else
  ob (zh8 box box1 box2 box3 box4 box5 row row1 row2) fun x1=>
  ob (zbk box7 box8 x1.1) fun x2=>
  if (decide ((x2.length:Int)=0))=true then
   some ((⟨0,0⟩:Fault),([]:B8),0,([]:B9),box5,box9.Since,box5,x1.2)
  else
   ob (zo6 x2 box6) fun x3=>
   some (x3.2,([]:B8),0,([x3.1]:B9),box5,box9.Since,box5,x1.2)
theorem tablet_Part_1_v1_ok (rk rc:Nat)(rn:Bool)(rk1 rc1:Nat)(rn1:Bool)(rk2 rc2:Nat)(rn2:Bool){box box1 box2 box3 box4 box5 box6 box7 box8 box9 row row1 row2 r}(hF:zh2 box box1 box2 box3 box4 box5 box6 box7 box8 box9 row row1 row2=some r):Pe Tryz.prog 94 ⟨[],[(100000,[.sl 1 (box.map zas),.i box1,.sl 1 (box2.map zaf),.i box3,.i box4,.row 100000 0,.i box5,.row 100001 0,.row 100002 0]),(100001,[.i box6]),(100002,[.str box7]),(100003,[.str box8]),(100004,(zag box9))],[(100000,.q 50 2 0 rk rc rn (row.map zar)),(100001,.q 53 5 0 rk1 rc1 rn1 (row1.map zab)),(100002,.q 28 1 0 rk2 rc2 rn2 (row2.map zal))],[],[]⟩ [.ptr 100000 0,.ptr 100001 0,.ptr 100002 0,.ptr 100003 0,.ptr 100004 0] (.agg (zae r.1)) ⟨[],[(100000,[.sl 1 (r.2.1.map zas),.i r.2.2.1,.sl 1 (r.2.2.2.1.map zaf),.i r.2.2.2.2.1,.i r.2.2.2.2.2.1,.row 100000 0,.i r.2.2.2.2.2.2.1,.row 100001 0,.row 100002 0]),(100001,[.i box6]),(100002,[.str box7]),(100003,[.str box8]),(100004,(zag box9))],[(100000,.q 50 2 0 rk rc rn (row.map zar)),(100001,⟨53,5,0,(r.2.2.2.2.2.2.2.map zab).length,rc1,rn1,0,[],(r.2.2.2.2.2.2.2.map zab)⟩),(100002,.q 28 1 0 rk2 rc2 rn2 (row2.map zal))],[],[]⟩:=by
 refine PT 48 [.cell 6 35] [35] Tryz.func94 ?_
 intro Q g hfin
 unfold zh2 at hF
 refine LR0 ?_
 have⟨x,h0,hF⟩:=lS hF
 refine RJ (.b (zhc h0) .z) ?_
 refine LR0 ?_
 refine Nif hF ?_ ?_ <;> intro hb hF
 ·refine LR0 ?_
  cases hF
  exact Wz [(100001,⟨0,true,true,true⟩)] hfin
 ·have⟨x1,h1,hF⟩:=oE hF
  have p2:=(Pe.ren (zqy rk rc rn rk1 rc1 rn1 rk2 rc2 rn2 h1) ⟨[],[(5,18)],[],[]⟩)
  have⟨x2,h3,hF⟩:=oE hF
  have p4:=(Pe.ren (zib 0 0 false h3) ⟨[(100000,100002),(100001,100003)],[(100000,18)],[],[(100000,1)]⟩)
  refine RJ (.e [100000] [100000,100001,100002] p2 (.e [100002,100003] [18] p4 .z)) ?_
  refine LD0 ?_
  refine RJ (.l zab x2 .z) ?_
  refine Nif hF ?_ ?_ <;> intro hb hF
  ·refine VR [] [6] [6,100000,100001,100002,100003,100004] [100000,100001,100002] [] [(6,.ptr 6 0)] [(6,[.i 0,.i 0]),(100000,[.nils,.i 0,.nils,.i box5,.i box9.Since,.row 100000 0,.i box5,.row 100001 0,.row 100002 0]),(100001,[.i box6]),(100002,[.str box7]),(100003,[.str box8]),(100004,(zag box9))] [(100000,.q 50 2 0 rk rc rn (row.map zar)),(100001,⟨53,5,0,(x1.2.map zab).length,rc1,rn1,0,[],(x1.2.map zab)⟩),(100002,.q 28 1 0 rk2 rc2 rn2 (row2.map zal))] [] .nil ?_
   cases hF
   refine znk 100000 [.sl 1 (([]:B8).map zas),.i 0,.sl 1 (([]:B9).map zaf),.i box5,.i box9.Since,.row 100000 0,.i box5,.row 100001 0,.row 100002 0] rfl (.cons (CoeS.nils 1) (.cons (CoeS.refl _) (.cons (CoeS.nils 1) (.cons (CoeS.refl _) (.cons (CoeS.refl _) (.cons (CoeS.refl _) (.cons (CoeS.refl _) (.cons (CoeS.refl _) (.cons (CoeS.refl _) .nil))))))))) ?_
   exact Wz [] hfin
  ·have⟨x3,h5,hF⟩:=oE hF
   have p6:=(Pe.ren (file_Make_ok h5) ⟨[],[(76,38)],[],[]⟩)
   refine RJ (.e [] [] p6 .z) ?_
   refine RJ (.a (.sealed) .z) ?_
   refine VR [] [6] [6,100000,100001,100002,100003,100004] [100000,100001,100002] [] [(6,.ptr 6 0)] [(6,(zae x3.2)),(100000,[.nils,.i 0,.sl 1 (([x3.1]:B9).map zaf),.i box5,.i box9.Since,.row 100000 0,.i box5,.row 100001 0,.row 100002 0]),(100001,[.i box6]),(100002,[.str box7]),(100003,[.str box8]),(100004,(zag box9))] [(100000,.q 50 2 0 rk rc rn (row.map zar)),(100001,⟨53,5,0,(x1.2.map zab).length,rc1,rn1,0,[],(x1.2.map zab)⟩),(100002,.q 28 1 0 rk2 rc2 rn2 (row2.map zal))] [] .nil ?_
   cases hF
   refine znk 100000 [.sl 1 (([]:B8).map zas),.i 0,.sl 1 (([x3.1]:B9).map zaf),.i box5,.i box9.Since,.row 100000 0,.i box5,.row 100001 0,.row 100002 0] rfl (.cons (CoeS.nils 1) (.cons (CoeS.refl _) (.cons (CoeS.refl _) (.cons (CoeS.refl _) (.cons (CoeS.refl _) (.cons (CoeS.refl _) (.cons (CoeS.refl _) (.cons (CoeS.refl _) (.cons (CoeS.refl _) .nil))))))))) ?_
   exact Wz [] hfin

/- tablet.with -/
def zia (t0:Tablet)(box:Int)(box1 box2:B8)(box3:Tablet):Option (B8×Int×B9×Int×Int×Fault):=
 ob (zf1 t0) fun x=>
 sm x (fun (x:Fault)=>
  if (!decide (x.Code=0))=true then
   some (([]:B8),0,([]:B9),0,0,x)
  else
   ob (zsy box box1 box2 box3) fun x1=>
   if (!decide (x1.Code=0))=true then
    some (([]:B8),0,([]:B9),0,0,x1)
   else
    none) (fun (x:B8×Int×B9×Int×Int×List Note×Int×Cs×List Cs×Fault)=>
  if (!decide (x.2.2.2.2.2.2.2.2.2.Code=0))=true then
   some (([]:B8),0,([]:B9),0,0,x.2.2.2.2.2.2.2.2.2)
  else
   ob (zh2 x.1 x.2.1 x.2.2.1 x.2.2.2.1 x.2.2.2.2.1 x.2.2.2.2.2.2.1 box box1 box2 box3 x.2.2.2.2.2.1 x.2.2.2.2.2.2.2.1 x.2.2.2.2.2.2.2.2.1) fun x1=>
   if (!decide (x1.1.Code=0))=true then
    some (([]:B8),0,([]:B9),0,0,x1.1)
   else
    ob (zh9 (⟨(⟨x1.2.1,x1.2.2.1⟩:Disk),x1.2.2.2.1,x1.2.2.2.2.1,x1.2.2.2.2.2.1⟩:Tablet)) fun x2=>
    some (x2.1,x2.2.1,x2.2.2.1,x2.2.2.2.1,x2.2.2.2.2,x1.1))
theorem tablet_with_v5_ok {t0 box box1 box2 box3 r}(hF:zia t0 box box1 box2 box3=some r):Pe Tryz.prog 62 ⟨[],[(100000,[.i box]),(100001,[.str box1]),(100002,[.str box2]),(100003,(zag box3))],[],[],[]⟩ [.agg (zag t0),.fn 94 [.ptr 100000 0,.ptr 100001 0,.ptr 100002 0,.ptr 100003 0]] (.tup [.agg [.row 30 0,.i r.2.1,.row 20030 0,.i r.2.2.2.1,.i r.2.2.2.2.1],.agg (zae r.2.2.2.2.2)]) ⟨[],[(100000,[.i box]),(100001,[.str box1]),(100002,[.str box2]),(100003,(zag box3))],[(30,.o 5 1 0 (r.1.map zas)),(20030,.o 22 1 0 (r.2.2.1.map zaf))],[],[]⟩:=by
 refine PT 32 [.cell 4 27,.cell 5 35] [27,35] Tryz.func62 ?_
 intro Q g hfin
 unfold zia at hF
 refine LR0 ?_
 have⟨x,h0,hF⟩:=oE hF
 rcases x with x | x
 ·have hF:=sm_l hF
  refine RJ (.b (zi2 h0) .z) ?_
  refine LR0 ?_
  refine Nif hF ?_ ?_ <;> intro hb hF
  ·refine VD [] [4,5] [4,5,100000,100001,100002,100003] [] [] [(4,.ptr 4 0),(5,.ptr 5 0)] [(4,[.nils,.i 0,.nils,.i 0,.i 0]),(5,(zae x)),(100000,[.i box]),(100001,[.str box1]),(100002,[.str box2]),(100003,(zag box3))] [] [] .nil ?_
   cases hF
   refine zav 4 0 60000 5 1 rfl rfl rfl rfl rfl ?_
   refine zav 4 2 60001 22 1 rfl rfl rfl rfl rfl ?_
   refine zau ⟨[],[(60000,30),(60001,20030)],[],[]⟩ rfl ?_
   exact Wz [(30,⟨0,true,false,false⟩),(20030,⟨0,true,false,false⟩)] hfin
  ·have⟨x1,h1,hF⟩:=oE hF
   refine RJ (.q [100000,100001,100002,100003] [] (Pe.ren (tablet_Part_1_ok h1) ⟨[],[],[],[]⟩) .z) ?_
   refine LR0 ?_
   refine Nif hF ?_ ?_ <;> intro hb hF
   ·refine VD [] [4,5] [4,5,100000,100001,100002,100003] [] [] [(4,.ptr 4 0),(5,.ptr 5 0)] [(4,[.nils,.i 0,.nils,.i 0,.i 0]),(5,(zae x1)),(100000,[.i box]),(100001,[.str box1]),(100002,[.str box2]),(100003,(zag box3))] [] [] .nil ?_
    cases hF
    refine zav 4 0 60002 5 1 rfl rfl rfl rfl rfl ?_
    refine zav 4 2 60003 22 1 rfl rfl rfl rfl rfl ?_
    refine zau ⟨[],[(60002,30),(60003,20030)],[],[]⟩ rfl ?_
    exact Wz [(30,⟨0,true,false,false⟩),(20030,⟨0,true,false,false⟩)] hfin
   ·cases hF
 ·have hF:=sm_r hF
  have p1:=(Pe.ren (zi6 h0) ⟨[(49,10)],[(54,10),(143,20010),(149,40010)],[],[]⟩)
  refine RJ (.e [] [] p1 .z) ?_
  refine LR0 ?_
  refine Nif hF ?_ ?_ <;> intro hb hF
  ·refine VD [] [4,5] [4,5,100000,100001,100002,100003] [] [] [(4,.ptr 4 0),(5,.ptr 5 0)] [(4,[.nils,.i 0,.nils,.i 0,.i 0]),(5,(zae x.2.2.2.2.2.2.2.2.2)),(100000,[.i box]),(100001,[.str box1]),(100002,[.str box2]),(100003,(zag box3))] [] [] .nil ?_
   cases hF
   refine zav 4 0 60004 5 1 rfl rfl rfl rfl rfl ?_
   refine zav 4 2 60005 22 1 rfl rfl rfl rfl rfl ?_
   refine zau ⟨[],[(60004,30),(60005,20030)],[],[]⟩ rfl ?_
   exact Wz [(30,⟨0,true,false,false⟩),(20030,⟨0,true,false,false⟩)] hfin
  ·have⟨x1,h2,hF⟩:=oE hF
   have p3:=(Pe.ren (tablet_Part_1_v1_ok ((x.2.2.2.2.2.1.map zar).length) 0 true ((x.2.2.2.2.2.2.2.1.map zab).length) 0 false 0 0 true h2) ⟨[(100000,10),(100001,100000),(100002,100001),(100003,100002),(100004,100003)],[(100000,10),(100001,40010),(100002,20010)],[],[]⟩)
   refine RJ (.e [10,100000,100001,100002,100003] [10,40010,20010] p3 .z) ?_
   refine LR0 ?_
   refine Nif hF ?_ ?_ <;> intro hb hF
   ·refine VD [] [4,5] [4,5,100000,100001,100002,100003] [] [] [(4,.ptr 4 0),(5,.ptr 5 0)] [(4,[.nils,.i 0,.nils,.i 0,.i 0]),(5,(zae x1.1)),(100000,[.i box]),(100001,[.str box1]),(100002,[.str box2]),(100003,(zag box3))] [] [] .nil ?_
    cases hF
    refine zav 4 0 60006 5 1 rfl rfl rfl rfl rfl ?_
    refine zav 4 2 60007 22 1 rfl rfl rfl rfl rfl ?_
    refine zau ⟨[],[(60006,30),(60007,20030)],[],[]⟩ rfl ?_
    exact Wz [(30,⟨0,true,false,false⟩),(20030,⟨0,true,false,false⟩)] hfin
   ·have⟨x2,h4,hF⟩:=oE hF
    have p5:=(Pe.ren (zlz h4) ⟨[],[(8,30),(13,20030)],[],[]⟩)
    refine DJ (.e [] [] p5 .z) ?_
    cases hF
    exact Wz [] hfin

/- tablet.Part -/
def tablet_Part (t0:Tablet)(from0 to0:B8)(size:Int):Option (B8×Int×B9×Int×Int×Fault):=
 ob (zia t0 size from0 to0 t0) fun x=>
 some (x.1,x.2.1,x.2.2.1,x.2.2.2.1,x.2.2.2.2.1,x.2.2.2.2.2)

/- tablet.Part -/
def zjy (t0:Tablet)(from0 to0:B8)(size:Int):Option (Tablet×Fault):=
 ob (zia t0 size from0 to0 t0) fun x=>
 some ((⟨(⟨x.1,x.2.1⟩:Disk),x.2.2.1,x.2.2.2.1,x.2.2.2.2.1⟩:Tablet),x.2.2.2.2.2)
theorem tablet_Part_v1_ok {t0 from0 to0 size r}(hF:zjy t0 from0 to0 size=some r):Pe Tryz.prog 41 S.none [.agg (zag t0),.str from0,.str to0,.i size] (.tup [.agg (zag r.1),.agg (zae r.2)]) S.none:=by
 refine PT 15 [.cell 8 27,.cell 9 35] [27,35] Tryz.func41 ?_
 intro Q g hfin
 unfold zjy at hF
 refine LR0 ?_
 have⟨x,h0,hF⟩:=oE hF
 have p1:=(Pe.ren (tablet_with_v5_ok h0) ⟨[(100000,7),(100001,5),(100002,6),(100003,4)],[(30,12),(20030,20012)],[],[]⟩)
 refine RJ (.e [7,5,6,4] [] p1 .z) ?_
 cases hF
 exact Wz [] hfin

/- cell.Asked -/
/- (*tablet.tab).early -/
/- cell.Seen -/
/- tablet.Scan -/
/- tablet.Scan -/
/- tabularylaw.TabletHalves -/
/- tablet.Check -/
/- slices.BinarySearchFunc[[]api.Cell,api.Cell,api.Cell] -/
/- cell.Newest -/
/- tablet.Get -/
/- tabularyref.SeenCell -/
/- tabularyref.AskFault -/
/- tabularyref.Scanned -/
/- tabularylaw.TabletAsks$1 -/
/- tabularylaw.cellsAs -/
/- tabularyref.RowsOf -/
/- tabularylaw.TabletAsks -/
/- tablet.Compact$1 -/
def znp (box:Int)(box1:Tablet)(box2 box3:Int):Option Fault:=
 if ((decide (box<0))||(decide ((box1.Files.length:Int)<=box)))=true then
  lt (zce 3 (-2)) fun x=>
  some x
 else
  if ((decide (box2<0))||(decide (1000000000<box2)))=true then
   lt (zce 3 (-3)) fun x1=>
   some x1
  else
   lt (zfo box3) fun x2=>
   if (!decide (x2.Code=0))=true then
    some x2
   else
    none
theorem tablet_Compact_1_ok {box box1 box2 box3 r}(hF:znp box box1 box2 box3=some r):Pe Tryz.prog 101 ⟨[],[(100000,[.i box]),(100001,(zag box1)),(100002,[.i box2]),(100003,[.i box3])],[],[],[]⟩ [.nilp,.ptr 100000 0,.ptr 100001 0,.ptr 100002 0,.ptr 100003 0] (.agg (zae r)) ⟨[],[(100000,[.i box]),(100001,(zag box1)),(100002,[.i box2]),(100003,[.i box3])],[],[],[]⟩:=by
 refine PT 91 [.cell 6 35] [35] Tryz.func101 ?_
 intro Q g hfin
 unfold znp at hF
 refine LR0 ?_
 refine zb5 ?_
 refine RJ (.a (.nat (box1.Files.length:Int)) (.g (fun (_:(!(decide (box<0)))=true)=>(zc5 zaf box1.Files)) .z)) ?_
 refine Nif hF ?_ ?_ <;> intro hb hF
 ·have⟨x,h0,hF⟩:=lS hF
  refine RJ (.b (za2 h0) .z) ?_
  cases hF
  exact Wz [] hfin
 ·refine LR0 ?_
  refine Nif hF ?_ ?_ <;> intro hb hF
  ·have⟨x1,h1,hF⟩:=lS hF
   refine RJ (.b (za2 h1) .z) ?_
   cases hF
   exact Wz [] hfin
  ·have⟨x2,h2,hF⟩:=lS hF
   refine RJ (.b (zhc h2) .z) ?_
   refine LR0 ?_
   refine Nif hF ?_ ?_ <;> intro hb hF
   ·refine LR0 ?_
    cases hF
    exact Wz [] hfin
   ·cases hF

/- tablet.Compact$1$1 -/
def zii (c:Cell)(box:Int):Bool:=
 decide (c.Time<box)
theorem tablet_Compact_1_1_ok {c box r}(hF:zii c box=r):Pe Tryz.prog 103 ⟨[],[(100000,[.i box])],[],[],[]⟩ [.agg (zg9 c),.ptr 100000 0] (.bool r) ⟨[],[(100000,[.i box])],[],[],[]⟩:=by
 refine PT 8 [.tmp 3] [4] Tryz.func103 ?_
 intro Q g hfin
 unfold zii at hF
 refine LR0 ?_
 refine LR0 ?_
 cases hF
 exact Wz [] hfin

/- slices.IndexFunc[[]api.Cell,api.Cell] -/
def zdj (v:Unit):Option Int:=
 some (-1)
def zaw (s0:Cs)(box v1:Int):Option (Int⊕Int):=
 if (decide (v1<(s0.length:Int)))=true then
  zao (0<=v1/\v1<(s0.length:Int)) <|
  lt (zii (⟨(zad s0 v1).Row,(zad s0 v1).Col,(zad s0 v1).Time,(zad s0 v1).Gone,(zad s0 v1).Value⟩:Cell) box) fun x=>
  if x=true then
   some (Sum.inr v1)
  else
   some (Sum.inl (w64 (v1+1)))
 else
  zev (zdj ())
def zdh (s0:Cs)(box v0:Int):Option Int:=
 zbg (fun y=>zaw s0 box y) v0
def zcm (s0:Cs)(box:Int):Option Int:=
 zdh s0 box 0
theorem zio {s0 box r}(hF:zcm s0 box=some r):Pe Tryz.prog 133 ⟨[],[(100000,[.i box])],[],[],[]⟩ [.sl 5 (s0.map zab),.fn 103 [.ptr 100000 0]] (.i r) ⟨[],[(100000,[.i box])],[],[],[]⟩:=by
 refine PT 19 [.tmp 4] [3] Tryz.func133 ?_
 intro Q g hfin
 unfold zcm at hF
 refine LR0 ?_
 refine RJ (.l zab s0 .z) ?_
 refine NmS (fun v=>zdj v=some r) (fun Z v=>Z.up [] [100000] [] [] [] [] [] []) ?_ ?_
 ·refine zb5 ?_
  unfold zdh at hF
  refine zoy hF [] (fun Z v1=>Z.up [0,1,7,8] [100000] [] [] [(8,.i v1)] [] [] []) ?_
  intro n1 v1 y1 hF ih1 dn1
  unfold zaw at hF
  refine LR0 ?_
  refine Nif hF ?_ ?_ <;> intro hb hF
  ·refine zb5 ?_
   refine LR0 ?_
   have⟨h0,hF⟩:=aE hF
   have⟨x,h1,hF⟩:=lS hF
   refine RJ (.i zab h0 (.q [100000] [] (Pe.ren (tablet_Compact_1_1_ok h1) ⟨[],[],[],[]⟩) .z)) ?_
   refine Nif hF ?_ ?_ <;> intro hb hF
   ·refine LR0 ?_
    have hF:=zcr hF dn1
    cases hF
    exact Wz [] hfin
   ·refine LR0 ?_
    exact zgb [] hF ih1
  ·refine zbm rfl ?_
   have hF:=zaj hF dn1
   exact ze4 () [] hF
 ·intro v hF
  unfold zdj at hF
  refine LR0 ?_
  cases hF
  exact Wz [] hfin

/- slices.ContainsFunc[[]api.Cell,api.Cell] -/
def zbp (s0:Cs)(box:Int):Option Bool:=
 ob (zcm s0 box) fun x=>
 some (decide (0<=x))
theorem zin {s0 box r}(hF:zbp s0 box=some r):Pe Tryz.prog 102 ⟨[],[(100000,[.i box])],[],[],[]⟩ [.sl 5 (s0.map zab),.fn 103 [.ptr 100000 0]] (.bool r) ⟨[],[(100000,[.i box])],[],[],[]⟩:=by
 refine PT 9 [.tmp 4] [4] Tryz.func102 ?_
 intro Q g hfin
 unfold zbp at hF
 refine LR0 ?_
 have⟨x,h0,hF⟩:=oE hF
 refine RJ (.q [100000] [] (Pe.ren (zio h0) ⟨[],[],[],[]⟩) .z) ?_
 cases hF
 exact Wz [] hfin

/- merge.fault -/
def zmt (code at0:Int):Fault:=
 (⟨code,at0⟩:Fault)
theorem zmz {code at0 r}(hF:zmt code at0=r):Pe Tryz.prog 138 S.none [.i code,.i at0] (.agg (zae r)) S.none:=by
 refine PT 8 [.cell 4 35] [35] Tryz.func138 ?_
 intro Q g hfin
 unfold zmt at hF
 refine LR0 ?_
 refine LR0 ?_
 cases hF
 exact Wz [] hfin

/- merge.lists -/
def zqr (v:Fault):Option Fault:=
 some (⟨0,0⟩:Fault)
def zgs (l:List Cs)(v1:Fault×Int):Option ((Fault×Int)⊕Fault):=
 if (decide (v1.2<(l.length:Int)))=true then
  zao (0<=v1.2/\v1.2<(l.length:Int)) <|
  ob (zje (zad l v1.2)) fun x1=>
  if (!decide (x1.Code=0))=true then
   lt (zmt x1.Code v1.2) fun x2=>
   some (Sum.inr x2)
  else
   some (Sum.inl (v1.1,w64 (v1.2+1)))
 else
  zev (zqr v1.1)
def zqx (l:List Cs)(v0:Fault×Int):Option Fault:=
 zbg (fun y=>zgs l y) v0
def zos (l:List Cs):Option Fault:=
 if (decide (20<(l.length:Int)))=true then
  lt (zmt 2 (-1)) fun x=>
  some x
 else
  zqx l ((⟨0,0⟩:Fault),0)
theorem merge_lists_ok {l r}(hF:zos l=some r):Pe Tryz.prog 164 S.none [.sl 1 (l.map zal)] (.agg (zae r)) S.none:=by
 refine PT 28 [.cell 2 35] [35] Tryz.func164 ?_
 intro Q g hfin
 unfold zos at hF
 refine LR0 ?_
 refine RJ (.l zal l .z) ?_
 refine Nif hF ?_ ?_ <;> intro hb hF
 ·have⟨x,h0,hF⟩:=lS hF
  refine RJ (.b (zmz h0) .z) ?_
  cases hF
  exact Wz [] hfin
 ·refine RJ (.l zal l .z) ?_
  refine NmS (fun v=>zqr v=some r) (fun Z v=>Z.up [2] [2] [] [] [] [(2,(zae v))] [] []) ?_ ?_
  ·refine zb5 ?_
   unfold zqx at hF
   refine zoy hF [] (fun Z v1=>Z.up [2,10,11,12] [2] [] [] [(12,.i v1.2)] [(2,(zae v1.1))] [] []) ?_
   intro n1 v1 y1 hF ih1 dn1
   unfold zgs at hF
   refine LR0 ?_
   refine Nif hF ?_ ?_ <;> intro hb hF
   ·refine zb5 ?_
    have⟨h1,hF⟩:=aE hF
    refine RJ (.i zal h1 .z) ?_
    have⟨x1,h2,hF⟩:=oE hF
    refine RJ (.b (zk3 h2) .z) ?_
    refine LR0 ?_
    refine Nif hF ?_ ?_ <;> intro hb hF
    ·have⟨x2,h3,hF⟩:=lS hF
     refine RJ (.b (zmz h3) .z) ?_
     have hF:=zcr hF dn1
     cases hF
     exact Wz [] hfin
    ·refine LR0 ?_
     exact zgb [] hF ih1
   ·refine zbm rfl ?_
    have hF:=zaj hF dn1
    exact ze4 v1.1 [] hF
  ·intro v hF
   unfold zqr at hF
   refine LR0 ?_
   cases hF
   exact Wz [] hfin

/- (merge.heap).less -/
def zhe (i k0:Int)(row:List Nat)(ar:List source):Option Bool:=
 zao (0<=i/\i<(row.length:Int)) <|
 zao (0<=i/\i<(row.length:Int)) <|
 zao (0<=(((zad row i):Nat):Int)/\(((zad row i):Nat):Int)<(ar.length:Int)) <|
 zao (0<=(0:Int)/\0<(((zad ar (((zad row i):Nat):Int)).cells).length:Int)) <|
 zao (0<=k0/\k0<(row.length:Int)) <|
 zao (0<=k0/\k0<(row.length:Int)) <|
 zao (0<=(((zad row k0):Nat):Int)/\(((zad row k0):Nat):Int)<(ar.length:Int)) <|
 zao (0<=(0:Int)/\0<(((zad ar (((zad row k0):Nat):Int)).cells).length:Int)) <|
 ob (zge (⟨(zad ((zad ar (((zad row i):Nat):Int)).cells) 0).Row,(zad ((zad ar (((zad row i):Nat):Int)).cells) 0).Col,(zad ((zad ar (((zad row i):Nat):Int)).cells) 0).Time,(zad ((zad ar (((zad row i):Nat):Int)).cells) 0).Gone,(zad ((zad ar (((zad row i):Nat):Int)).cells) 0).Value⟩:Cell) (⟨(zad ((zad ar (((zad row k0):Nat):Int)).cells) 0).Row,(zad ((zad ar (((zad row k0):Nat):Int)).cells) 0).Col,(zad ((zad ar (((zad row k0):Nat):Int)).cells) 0).Time,(zad ((zad ar (((zad row k0):Nat):Int)).cells) 0).Gone,(zad ((zad ar (((zad row k0):Nat):Int)).cells) 0).Value⟩:Cell)) fun x=>
 zao ((decide (x=0))=true->(!(decide (x<0)))=true->0<=i/\i<(row.length:Int)) <|
 zao ((decide (x=0))=true->(!(decide (x<0)))=true->0<=i/\i<(row.length:Int)) <|
 zao ((decide (x=0))=true->(!(decide (x<0)))=true->0<=(((zad row i):Nat):Int)/\(((zad row i):Nat):Int)<(ar.length:Int)) <|
 zao ((decide (x=0))=true->(!(decide (x<0)))=true->0<=k0/\k0<(row.length:Int)) <|
 zao ((decide (x=0))=true->(!(decide (x<0)))=true->0<=k0/\k0<(row.length:Int)) <|
 zao ((decide (x=0))=true->(!(decide (x<0)))=true->0<=(((zad row k0):Nat):Int)/\(((zad row k0):Nat):Int)<(ar.length:Int)) <|
 lt ((decide (x<0))||((decide (x=0))&&(decide (((zad ar (((zad row i):Nat):Int)).rank)<((zad ar (((zad row k0):Nat):Int)).rank))))) fun v=>
 some v
theorem zp5 (rk rc:Nat)(rn:Bool){i k0 row ar r}(hF:zhe i k0 row ar=some r):Pe Tryz.prog 181 ⟨[],[],[(100000,⟨205,1,0,0,rc,rn,1,[100000],(row.map ea)⟩)],[],[(100000,⟨207,2,[],ar.map zat⟩)]⟩ [.row 100000 0,.i i,.i k0] (.bool r) ⟨[],[],[(100000,⟨205,1,0,0,rc,rn,1,[100000],(row.map ea)⟩)],[],[(100000,⟨207,2,[],ar.map zat⟩)]⟩:=by
 refine PT 50 [.tmp 6] [4] Tryz.func181 ?_
 intro Q g hfin
 unfold zhe at hF
 refine NAR [] [0,1,2] [] [100000] [] [100000] ⟨[(0,.row 100000 0),(1,.i i),(2,.i k0)],[],[(100000,⟨205,1,0,0,rc,rn,1,[100000],(row.map ea)⟩)],[],[(100000,⟨207,2,[],ar.map zat⟩)]⟩ .nil ?_
 have⟨h0,h1,h2,h3,hF⟩:=zla hF
 have⟨h4,h5,h6,h7,hF⟩:=zla hF
 have⟨x,h8,hF⟩:=oE hF
 refine NAD [.av (ea (zad row i)),.av (zat (zad ar (((zad row i):Nat):Int))),.av (zab (zad ((zad ar (((zad row i):Nat):Int)).cells) 0)),.av (ea (zad row k0)),.av (zat (zad ar (((zad row k0):Nat):Int))),.av (zab (zad ((zad ar (((zad row k0):Nat):Int)).cells) 0)),.callB (.i x)] [0,1,2,7] [] [100000] [] [100000] ⟨[(0,.row 100000 0),(1,.i i),(2,.i k0),(7,.i x)],[],[(100000,⟨205,1,0,0,rc,rn,1,[100000],(row.map ea)⟩)],[],[(100000,⟨207,2,[],ar.map zat⟩)]⟩ (hc (zf4 ea h0) (hc (zec ea h1) (hc (zec zat h2) (hc (zgi zab h3) (hc (zf4 ea h4) (hc (zec ea h5) (hc (zec zat h6) (hc (zgi zab h7) (hc (zgn h8) .nil))))))))) ?_
 have⟨h9,h10,h11,h12,hF⟩:=zla hF
 have⟨h13,h14,hF⟩:=zf7 hF
 refine NADL ((decide (x<0))||((decide (x=0))&&(decide (((zad ar (((zad row i):Nat):Int)).rank)<((zad ar (((zad row k0):Nat):Int)).rank))))) (fun v:Bool=>(⟨[(6,.bool v)],[],[(100000,⟨205,1,0,0,rc,rn,1,[100000],(row.map ea)⟩)],[],[(100000,⟨207,2,[],ar.map zat⟩)]⟩:S)) [.av (ea (zad row i)),.av (zat (zad ar (((zad row i):Nat):Int))),.av (ea (zad row k0)),.av (zat (zad ar (((zad row k0):Nat):Int)))] [6] [] [100000] [] [100000] (hc (fun (ga0:(decide (x=0))=true) (ga1:(!(decide (x<0)))=true)=>(zf4 ea (h9 ga0 ga1))) (hc (fun (ga0:(decide (x=0))=true) (ga1:(!(decide (x<0)))=true)=>(zec ea (h10 ga0 ga1))) (hc (fun (ga0:(decide (x=0))=true) (ga1:(!(decide (x<0)))=true)=>(zec zat (h11 ga0 ga1))) (hc (fun (ga0:(decide (x=0))=true) (ga1:(!(decide (x<0)))=true)=>(zf4 ea (h12 ga0 ga1))) (hc (fun (ga0:(decide (x=0))=true) (ga1:(!(decide (x<0)))=true)=>(zec ea (h13 ga0 ga1))) (hc (fun (ga0:(decide (x=0))=true) (ga1:(!(decide (x<0)))=true)=>(zec zat (h14 ga0 ga1))) .nil)))))) (fun v hv=>?_)
 have hF:=zeg hF hv
 cases hF
 exact Wk_ret (hfin _ ⟨[100000],[],[100000],[],[100000],[],by kernel_rfl⟩)

/- (merge.heap).down -/
def zfa (v:List Nat×Int)(v1:Int):Option ((List Nat×Int)⊕(List Nat)):=
 if (decide (v1=v.2))=true then
  some (Sum.inr v.1)
 else
  zao (0<=v1/\v1<(v.1.length:Int)) <|
  zao (0<=v1/\v1<(v.1.length:Int)) <|
  zao (0<=v.2/\v.2<(v.1.length:Int)) <|
  zao (0<=v.2/\v.2<(v.1.length:Int)) <|
  zao (0<=v.2/\v.2<(v.1.length:Int)) <|
  zao (0<=v.2/\v.2<(v.1.length:Int)) <|
  zao (0<=v1/\v1<((zem v.1 v.2 (zad v.1 v1)).length:Int)) <|
  zao (0<=v1/\v1<((zem v.1 v.2 (zad v.1 v1)).length:Int)) <|
  some (Sum.inl ((zem (zem v.1 v.2 (zad v.1 v1)) v1 (zad v.1 v.2)),v1))
def zid (ar:List source)(v:List Nat×Int):Option ((List Nat×Int)⊕(List Nat)):=
 ob (if (decide ((w64 ((w64 (2*v.2))+1))<(v.1.length:Int)))=true then (zhe (w64 ((w64 (2*v.2))+1)) v.2 v.1 ar) else some default) fun x=>
 ob (
  if ((decide ((w64 ((w64 (2*v.2))+1))<(v.1.length:Int)))&&x)=true then
   some (w64 ((w64 (2*v.2))+1),(⟨w64 ((w64 (2*v.2))+1),w64 ((w64 (2*v.2))+2)⟩:Arr2_3))
  else
   some (v.2,(⟨w64 ((w64 (2*v.2))+1),w64 ((w64 (2*v.2))+2)⟩:Arr2_3))) fun v2=>
 ob (if (decide (v2.2.p1<(v.1.length:Int)))=true then (zhe v2.2.p1 v2.1 v.1 ar) else some default) fun x1=>
 ob (
  if ((decide (v2.2.p1<(v.1.length:Int)))&&x1)=true then
   some (v2.2.p1,v2.2)
  else
   some (v2.1,v2.2)) fun v3=>
 zfa v v3.1
def zln (ar:List source)(v0:List Nat×Int):Option (List Nat):=
 zbg (fun y=>zid ar y) v0
def zfw (i:Int)(row:List Nat)(ar:List source):Option (List Nat):=
 zln ar (row,i)
theorem zp3 (rk rc:Nat)(rn:Bool){i row ar r}(hF:zfw i row ar=some r):Pe Tryz.prog 179 ⟨[],[],[(100000,⟨205,1,0,0,rc,rn,1,[100000],(row.map ea)⟩)],[],[(100000,⟨207,2,[],ar.map zat⟩)]⟩ [.row 100000 0,.i i] (.tup []) ⟨[],[],[(100000,⟨205,1,0,0,rc,rn,1,[100000],(r.map ea)⟩)],[],[(100000,⟨207,2,[],ar.map zat⟩)]⟩:=by
 refine PT 48 [] [] Tryz.func179 ?_
 intro Q g hfin
 unfold zfw at hF
 refine zb5 ?_
 unfold zln at hF
 refine zrv hF [] (fun v=>⟨[(0,.row 100000 0),(1,.i v.2)],[],[(100000,⟨205,1,0,0,rc,rn,1,[100000],(v.1.map ea)⟩)],[],[(100000,⟨207,2,[],ar.map zat⟩)]⟩) ?_
 intro n1 v y1 hF ih1 dn1
 unfold zid at hF
 refine zb5 ?_
 refine NAR [] [0,1,4] [] [100000] [] [100000] ⟨[(0,.row 100000 0),(1,.i v.2),(4,.i v.2)],[],[(100000,⟨205,1,0,0,rc,rn,1,[100000],(v.1.map ea)⟩)],[],[(100000,⟨207,2,[],ar.map zat⟩)]⟩ .nil ?_
 refine NAR [] [0,1,4,14,15] [] [100000] [] [100000] ⟨[(0,.row 100000 0),(1,.i v.2),(4,.i v.2),(14,.agg [.i (w64 ((w64 (2*v.2))+1)),.i (w64 ((w64 (2*v.2))+2))]),(15,.i 0)],[],[(100000,⟨205,1,0,0,rc,rn,1,[100000],(v.1.map ea)⟩)],[],[(100000,⟨207,2,[],ar.map zat⟩)]⟩ .nil ?_
 refine NmQ (fun v1=>zfa v v1=some y1) (fun v1=>⟨[(0,.row 100000 0),(1,.i v.2),(4,.i v1)],[],[(100000,⟨205,1,0,0,rc,rn,1,[100000],(v.1.map ea)⟩)],[],[(100000,⟨207,2,[],ar.map zat⟩)]⟩) ?_ ?_
 ·refine zb5 ?_
  refine Wk_unroll 9 ?_
  refine Nagain ?_
  refine NAR [] [0,1,4,14,15,16] [] [100000] [] [100000] ⟨[(0,.row 100000 0),(1,.i v.2),(4,.i v.2),(14,.agg [.i (w64 ((w64 (2*v.2))+1)),.i (w64 ((w64 (2*v.2))+2))]),(15,.i 0),(16,.bool true)],[],[(100000,⟨205,1,0,0,rc,rn,1,[100000],(v.1.map ea)⟩)],[],[(100000,⟨207,2,[],ar.map zat⟩)]⟩ .nil ?_
  refine Ntrue (by kernel_rfl) ?_
  refine zb5 ?_
  refine NAR [] [0,1,4,6,14,15] [] [100000] [] [100000] ⟨[(0,.row 100000 0),(1,.i v.2),(4,.i v.2),(6,.i (w64 ((w64 (2*v.2))+1))),(14,.agg [.i (w64 ((w64 (2*v.2))+1)),.i (w64 ((w64 (2*v.2))+2))]),(15,.i 0)],[],[(100000,⟨205,1,0,0,rc,rn,1,[100000],(v.1.map ea)⟩)],[],[(100000,⟨207,2,[],ar.map zat⟩)]⟩ (hc (⟨by decide,by decide⟩:(0:Int)<=0/\(0:Int)<((2:Nat):Int)) .nil) ?_
  have⟨x,h8,hF⟩:=oE hF
  refine NAR [.nat (v.1.length:Int),.callR [] [100000] [] [100000] (.bool x)] [0,1,4,6,14,15,27] [] [100000] [] [100000] ⟨[(0,.row 100000 0),(1,.i v.2),(4,.i v.2),(6,.i (w64 ((w64 (2*v.2))+1))),(14,.agg [.i (w64 ((w64 (2*v.2))+1)),.i (w64 ((w64 (2*v.2))+2))]),(15,.i 0),(27,.bool ((decide ((w64 ((w64 (2*v.2))+1))<(v.1.length:Int)))&&x))],[],[(100000,⟨205,1,0,0,rc,rn,1,[100000],(v.1.map ea)⟩)],[],[(100000,⟨207,2,[],ar.map zat⟩)]⟩ (hc (zc5 ea v.1) (hc (fun (ga0:(decide ((w64 ((w64 (2*v.2))+1))<(v.1.length:Int)))=true)=>(Pe.ren (zp5 0 rc rn (ite_t h8 ga0)) ⟨[],[],[],[]⟩)) .nil)) ?_
  have⟨v2,hv,hF⟩:=oE hF
  refine Nmeet (⟨[(0,.row 100000 0),(1,.i v.2),(4,.i v2.1),(14,.agg [.i v2.2.p0,.i v2.2.p1]),(15,.i 0)],[],[(100000,⟨205,1,0,0,rc,rn,1,[100000],(v.1.map ea)⟩)],[],[(100000,⟨207,2,[],ar.map zat⟩)]⟩:S) ?_ ?_
  ·have hF:=hv
   refine Nif hF ?_ ?_ <;> intro hb hF
   ·refine NAR [] [0,1,4,14,15] [] [100000] [] [100000] ⟨[(0,.row 100000 0),(1,.i v.2),(4,.i (w64 ((w64 (2*v.2))+1))),(14,.agg [.i (w64 ((w64 (2*v.2))+1)),.i (w64 ((w64 (2*v.2))+2))]),(15,.i 0)],[],[(100000,⟨205,1,0,0,rc,rn,1,[100000],(v.1.map ea)⟩)],[],[(100000,⟨207,2,[],ar.map zat⟩)]⟩ .nil ?_
    cases hF
    exact zgt []
   ·cases hF
    exact zgt []
  ·refine NAR [] [0,1,4,14,15] [] [100000] [] [100000] ⟨[(0,.row 100000 0),(1,.i v.2),(4,.i v2.1),(14,.agg [.i v2.2.p0,.i v2.2.p1]),(15,.i 1)],[],[(100000,⟨205,1,0,0,rc,rn,1,[100000],(v.1.map ea)⟩)],[],[(100000,⟨207,2,[],ar.map zat⟩)]⟩ .nil ?_
   refine Nagain ?_
   refine NAR [] [0,1,4,14,15,16] [] [100000] [] [100000] ⟨[(0,.row 100000 0),(1,.i v.2),(4,.i v2.1),(14,.agg [.i v2.2.p0,.i v2.2.p1]),(15,.i 1),(16,.bool true)],[],[(100000,⟨205,1,0,0,rc,rn,1,[100000],(v.1.map ea)⟩)],[],[(100000,⟨207,2,[],ar.map zat⟩)]⟩ .nil ?_
   refine Ntrue (by kernel_rfl) ?_
   refine zb5 ?_
   refine NAR [] [0,1,4,6,14,15] [] [100000] [] [100000] ⟨[(0,.row 100000 0),(1,.i v.2),(4,.i v2.1),(6,.i v2.2.p1),(14,.agg [.i v2.2.p0,.i v2.2.p1]),(15,.i 1)],[],[(100000,⟨205,1,0,0,rc,rn,1,[100000],(v.1.map ea)⟩)],[],[(100000,⟨207,2,[],ar.map zat⟩)]⟩ (hc (⟨by decide,by decide⟩:(0:Int)<=1/\(1:Int)<((2:Nat):Int)) .nil) ?_
   have⟨x1,h9,hF⟩:=oE hF
   refine NAR [.nat (v.1.length:Int),.callR [] [100000] [] [100000] (.bool x1)] [0,1,4,6,14,15,27] [] [100000] [] [100000] ⟨[(0,.row 100000 0),(1,.i v.2),(4,.i v2.1),(6,.i v2.2.p1),(14,.agg [.i v2.2.p0,.i v2.2.p1]),(15,.i 1),(27,.bool ((decide (v2.2.p1<(v.1.length:Int)))&&x1))],[],[(100000,⟨205,1,0,0,rc,rn,1,[100000],(v.1.map ea)⟩)],[],[(100000,⟨207,2,[],ar.map zat⟩)]⟩ (hc (zc5 ea v.1) (hc (fun (ga0:(decide (v2.2.p1<(v.1.length:Int)))=true)=>(Pe.ren (zp5 0 rc rn (ite_t h9 ga0)) ⟨[],[],[],[]⟩)) .nil)) ?_
   have⟨v3,hv,hF⟩:=oE hF
   refine Nmeet (⟨[(0,.row 100000 0),(1,.i v.2),(4,.i v3.1),(14,.agg [.i v3.2.p0,.i v3.2.p1]),(15,.i 1)],[],[(100000,⟨205,1,0,0,rc,rn,1,[100000],(v.1.map ea)⟩)],[],[(100000,⟨207,2,[],ar.map zat⟩)]⟩:S) ?_ ?_
   ·have hF:=hv
    refine Nif hF ?_ ?_ <;> intro hb hF
    ·refine NAR [] [0,1,4,14,15] [] [100000] [] [100000] ⟨[(0,.row 100000 0),(1,.i v.2),(4,.i v2.2.p1),(14,.agg [.i v2.2.p0,.i v2.2.p1]),(15,.i 1)],[],[(100000,⟨205,1,0,0,rc,rn,1,[100000],(v.1.map ea)⟩)],[],[(100000,⟨207,2,[],ar.map zat⟩)]⟩ .nil ?_
     cases hF
     exact zgt []
    ·cases hF
     exact zgt []
   ·refine NAR [] [0,1,4,14,15] [] [100000] [] [100000] ⟨[(0,.row 100000 0),(1,.i v.2),(4,.i v3.1),(14,.agg [.i v3.2.p0,.i v3.2.p1]),(15,.i 2)],[],[(100000,⟨205,1,0,0,rc,rn,1,[100000],(v.1.map ea)⟩)],[],[(100000,⟨207,2,[],ar.map zat⟩)]⟩ .nil ?_
    refine Nagain ?_
    refine NAR [] [0,1,4,14,15,16] [] [100000] [] [100000] ⟨[(0,.row 100000 0),(1,.i v.2),(4,.i v3.1),(14,.agg [.i v3.2.p0,.i v3.2.p1]),(15,.i 2),(16,.bool false)],[],[(100000,⟨205,1,0,0,rc,rn,1,[100000],(v.1.map ea)⟩)],[],[(100000,⟨207,2,[],ar.map zat⟩)]⟩ .nil ?_
    refine Nfalse (by kernel_rfl) ?_
    refine zbm rfl ?_
    exact ze4 v3.1 [] hF
 ·intro v1 hF
  unfold zfa at hF
  refine NAR [] [0,1,4,32] [] [100000] [] [100000] ⟨[(0,.row 100000 0),(1,.i v.2),(4,.i v1),(32,.bool (decide (v1=v.2)))],[],[(100000,⟨205,1,0,0,rc,rn,1,[100000],(v.1.map ea)⟩)],[],[(100000,⟨207,2,[],ar.map zat⟩)]⟩ .nil ?_
  refine Nif hF ?_ ?_ <;> intro hb hF
  ·have hF:=zcr hF dn1
   cases hF
   exact Wk_ret (hfin _ ⟨[100000],[],[100000],[],[100000],[],by kernel_rfl⟩)
  ·have⟨h0,hF⟩:=aE hF
   have⟨h1,h2,h3,h4,hF⟩:=zla hF
   have⟨h5,h6,hF⟩:=zf7 hF
   have⟨h7,hF⟩:=aE hF
   refine NAD [.av (ea (zad v.1 v1)),.av (ea (zad v.1 v.2)),.av (ea (zad v.1 v.2)),.xs ((zem v.1 v.2 (zad v.1 v1)).map ea),.av (ea (zad (zem v.1 v.2 (zad v.1 v1)) v1)),.xs ((zem (zem v.1 v.2 (zad v.1 v1)) v1 (zad v.1 v.2)).map ea)] [0,4] [] [100000] [] [100000] ⟨[(0,.row 100000 0),(4,.i v1)],[],[(100000,⟨205,1,0,0,rc,rn,1,[100000],((zem (zem v.1 v.2 (zad v.1 v1)) v1 (zad v.1 v.2)).map ea)⟩)],[],[(100000,⟨207,2,[],ar.map zat⟩)]⟩ (hc (zf4 ea h0) (hc (zec ea h1) (hc (zf4 ea h2) (hc (zec ea h3) (hc (zf4 ea h4) (hc (zec ea h5) (hc (set_ok ea v.1 v.2 (zad v.1 v1)) (hc (xa2 v.2.toNat) (hc (zf4 ea h6) (hc (zec ea h7) (hc (set_ok ea (zem v.1 v.2 (zad v.1 v1)) v1 (zad v.1 v.2)) (hc (xa2 v1.toNat) .nil)))))))))))) ?_
   refine NAR [] [0,1] [] [100000] [] [100000] ⟨[(0,.row 100000 0),(1,.i v1)],[],[(100000,⟨205,1,0,0,rc,rn,1,[100000],((zem (zem v.1 v.2 (zad v.1 v1)) v1 (zad v.1 v.2)).map ea)⟩)],[],[(100000,⟨207,2,[],ar.map zat⟩)]⟩ .nil ?_
   exact zgb [] hF ih1

/- merge.joined$1 -/
def zg8 (c:Cell)(row:Cs):Option (Bool×Cs):=
 zao ((!(decide ((row.length:Int)=0)))=true->0<=w64 ((row.length:Int) - 1)/\w64 ((row.length:Int) - 1)<(row.length:Int)) <|
 zao ((!(decide ((row.length:Int)=0)))=true->0<=w64 ((row.length:Int) - 1)/\w64 ((row.length:Int) - 1)<(row.length:Int)) <|
 ob (if (!(decide ((row.length:Int)=0)))=true then (zge (⟨(zad row (w64 ((row.length:Int) - 1))).Row,(zad row (w64 ((row.length:Int) - 1))).Col,(zad row (w64 ((row.length:Int) - 1))).Time,(zad row (w64 ((row.length:Int) - 1))).Gone,(zad row (w64 ((row.length:Int) - 1))).Value⟩:Cell) c) else some default) fun x=>
 ob (
  if ((decide ((row.length:Int)=0))||(!decide (x=0)))=true then
   zao (((row++[c]).length:Int)*64<=140737488351232) <|
   some (row++[c])
  else
   some row) fun v=>
 some (true,v)
theorem merge_joined_1_v1_ok (rk rc:Nat)(rn:Bool){c row r}(hF:zg8 c row=some r):Pe Tryz.prog 175 ⟨[],[(100000,[.row 100000 0])],[(100000,.q 53 5 0 rk rc rn (row.map zab))],[],[]⟩ [.agg (zg9 c),.ptr 100000 0] (.bool r.1) ⟨[],[(100000,[.row 100000 1])],[(100000,.q 53 5 1 rk rc rn (r.2.map zab))],[],[]⟩:=by
 refine PT 23 [.tmp 3] [4] Tryz.func175 ?_
 intro Q g hfin
 unfold zg8 at hF
 refine LR0 ?_
 refine RJ (.l zab row .z) ?_
 have⟨h0,h1,hF⟩:=zf7 hF
 have⟨x,h2,hF⟩:=oE hF
 refine DJ (.g (fun (ga0:(!(decide ((row.length:Int)=0)))=true)=>(zf4 zab (h0 ga0))) (.a (.av (zab (zad row (w64 ((row.length:Int) - 1))))) (.g (fun (ga0:(!(decide ((row.length:Int)=0)))=true)=>(zec zab (h1 ga0))) (.a (.callB (.i x)) (.g (fun (ga0:(!(decide ((row.length:Int)=0)))=true)=>(zgn (ite_t h2 ga0))) .z))))) ?_
 have⟨v,hv,hF⟩:=oE hF
 refine Nmeet (⟨[],[(100000,[.row 100000 1])],[(100000,.q 53 5 1 rk rc rn (v.map zab))],[],[]⟩:S) ?_ ?_
 ·have hF:=hv
  refine Nif hF ?_ ?_ <;> intro hb hF
  ·have⟨h3,hF⟩:=aE hF
   refine RJ (.a (.sealed) (.p zab h3 .z)) ?_
   cases hF
   exact zgt []
  ·cases hF
   exact zgt [(100000,⟨1,true,true,false⟩)]
 ·refine LR0 ?_
  cases hF
  exact Wz [] hfin

/- merge.each -/
def zst (v2:Cs×List source):Option Cs:=
 some v2.1
def zls (v3:Cs×List Nat×List source):Option ((Cs×List Nat×List source)⊕Cs):=
 if (decide (0<(v3.2.1.length:Int)))=true then
  zao (0<=(0:Int)/\0<(v3.2.1.length:Int)) <|
  zao (0<=(0:Int)/\0<(v3.2.1.length:Int)) <|
  zao (0<=(((zad v3.2.1 0):Nat):Int)/\(((zad v3.2.1 0):Nat):Int)<(v3.2.2.length:Int)) <|
  zao (0<=(0:Int)/\0<(((zad v3.2.2 (((zad v3.2.1 0):Nat):Int)).cells).length:Int)) <|
  ob (zg8 (⟨(zad ((zad v3.2.2 (((zad v3.2.1 0):Nat):Int)).cells) 0).Row,(zad ((zad v3.2.2 (((zad v3.2.1 0):Nat):Int)).cells) 0).Col,(zad ((zad v3.2.2 (((zad v3.2.1 0):Nat):Int)).cells) 0).Time,(zad ((zad v3.2.2 (((zad v3.2.1 0):Nat):Int)).cells) 0).Gone,(zad ((zad v3.2.2 (((zad v3.2.1 0):Nat):Int)).cells) 0).Value⟩:Cell) v3.1) fun x=>
  if (!x.1)=true then
   some (Sum.inr x.2)
  else
   zao (0<=(((zad v3.2.1 0):Nat):Int)/\(((zad v3.2.1 0):Nat):Int)<(v3.2.2.length:Int)) <|
   zao (0<=(1:Int)/\(1:Int)<=(((zad v3.2.2 (((zad v3.2.1 0):Nat):Int)).cells).length:Int)) <|
   zao (0<=(((zad v3.2.1 0):Nat):Int)/\(((zad v3.2.1 0):Nat):Int)<(v3.2.2.length:Int)) <|
   lt ((zem v3.2.2 (((zad v3.2.1 0):Nat):Int) (⟨(zc1 ((zad v3.2.2 (((zad v3.2.1 0):Nat):Int)).cells) 1),(zad v3.2.2 (((zad v3.2.1 0):Nat):Int)).rank⟩:source))) fun v4=>
   zao (0<=(((zad v3.2.1 0):Nat):Int)/\(((zad v3.2.1 0):Nat):Int)<(v4.length:Int)) <|
   ob (
    if (decide ((((zad v4 (((zad v3.2.1 0):Nat):Int)).cells).length:Int)=0))=true then
     zao (0<=w64 ((v3.2.1.length:Int) - 1)/\w64 ((v3.2.1.length:Int) - 1)<(v3.2.1.length:Int)) <|
     zao (0<=w64 ((v3.2.1.length:Int) - 1)/\w64 ((v3.2.1.length:Int) - 1)<(v3.2.1.length:Int)) <|
     zao (0<=(0:Int)/\0<(v3.2.1.length:Int)) <|
     zao (0<=(0:Int)/\0<(v3.2.1.length:Int)) <|
     zao (0<=w64 (((zem v3.2.1 0 (zad v3.2.1 (w64 ((v3.2.1.length:Int) - 1)))).length:Int) - 1)/\w64 (((zem v3.2.1 0 (zad v3.2.1 (w64 ((v3.2.1.length:Int) - 1)))).length:Int) - 1)<=((zem v3.2.1 0 (zad v3.2.1 (w64 ((v3.2.1.length:Int) - 1)))).length:Int)) <|
     zao (((w64 (((zem v3.2.1 0 (zad v3.2.1 (w64 ((v3.2.1.length:Int) - 1)))).length:Int) - 1)).toNat)<=(zem v3.2.1 0 (zad v3.2.1 (w64 ((v3.2.1.length:Int) - 1)))).length) <|
     some ((zem v3.2.1 0 (zad v3.2.1 (w64 ((v3.2.1.length:Int) - 1)))).take ((w64 (((zem v3.2.1 0 (zad v3.2.1 (w64 ((v3.2.1.length:Int) - 1)))).length:Int) - 1)).toNat))
    else
     some v3.2.1) fun v5=>
   if (decide (0<(v5.length:Int)))=true then
    ob (zfw 0 v5 v4) fun x1=>
    some (Sum.inl (x.2,x1,v4))
   else
    some (Sum.inl (x.2,v5,v4))
 else
  zev (zst (v3.1,v3.2.2))
def zrx (v0:Cs×List Nat×List source):Option Cs:=
 zbg (fun y=>zls y) v0
def znz (v:List Nat×List source)(v1:List Nat):Option Cs:=
 zrx (([]:Cs),v1,v.2)
def zn7 (v:List Nat×List source)(v6:List Nat×Int):Option ((List Nat×Int)⊕Cs):=
 if (decide (0<=v6.2))=true then
  ob (zfw v6.2 v6.1 v.2) fun x2=>
  some (Sum.inl (x2,w64 (v6.2 - 1)))
 else
  zev (znz v v6.1)
def zss (v:List Nat×List source)(v0:List Nat×Int):Option Cs:=
 zbg (fun y=>zn7 v y) v0
def zn5 (v:List Nat×List source):Option Cs:=
 zss v (v.1,w64 ((v.1.length:Int) - 1))
def zlm (l:List Cs)(v7:List Nat×Int×List source):Option ((List Nat×Int×List source)⊕Cs):=
 if (decide (v7.2.1<(l.length:Int)))=true then
  zao (0<=v7.2.1/\v7.2.1<(l.length:Int)) <|
  ob (
   if (decide (0<((zad l v7.2.1).length:Int)))=true then
    zao (((v7.1++([v7.2.2.length]:List Nat)).length:Int)*8<=140737488351232) <|
    some ((v7.1++([v7.2.2.length]:List Nat)),(v7.2.2++[(⟨(zad l v7.2.1),v7.2.1⟩:source)]))
   else
    some (v7.1,v7.2.2)) fun v8=>
  some (Sum.inl (v8.1,w64 (v7.2.1+1),v8.2))
 else
  zev (zn5 (v7.1,v7.2.2))
def zsp (l:List Cs)(v0:List Nat×Int×List source):Option Cs:=
 zbg (fun y=>zlm l y) v0
def merge_each (l:List Cs):Option Cs:=
 zsp l (([]:List Nat),0,([]:List source))
theorem merge_each_ok {l r}(hF:merge_each l=some r):Pe Tryz.prog 174 ⟨[],[(100000,[.nils])],[],[],[]⟩ [.sl 1 (l.map zal),.fn 175 [.ptr 100000 0]] (.tup []) ⟨[],[(100000,[.row 50 0])],[(50,.z 53 5 0 (r.map zab))],[],[]⟩:=by
 refine Pe_ghost 100000 207 2 rfl ?_
 refine PT 84 [] [] Tryz.func174 ?_
 intro Q g hfin
 unfold merge_each at hF
 refine NAR [] [0,1,4] [100000] [] [] [100000] ⟨[(0,.sl 1 (l.map zal)),(1,.fn 175 [.ptr 100000 0]),(4,.nils)],[(100000,[.nils])],[],[],[(100000,⟨207,2,[],([]:List source).map zat⟩)]⟩ .nil ?_
 refine NAR [.nat (l.length:Int)] [1,4,9,10,11] [100000] [] [] [100000] ⟨[(1,.fn 175 [.ptr 100000 0]),(4,.nils),(9,.sl 1 (l.map zal)),(10,.i (l.length:Int)),(11,.i 0)],[(100000,[.nils])],[],[],[(100000,⟨207,2,[],([]:List source).map zat⟩)]⟩ (hc (zc5 zal l) .nil) ?_
 refine NmQ (fun v=>zn5 v=some r) (fun v=>⟨[(1,.fn 175 [.ptr 100000 0]),(4,.row 25 0)],[(100000,[.nils])],[(25,⟨205,1,0,0,0,true,1,[100000],(v.1.map ea)⟩)],[],[(100000,⟨207,2,[],v.2.map zat⟩)]⟩) ?_ ?_
 ·refine zb5 ?_
  unfold zsp at hF
  refine Wk_nilrow1 4 60001 205 1 [100000] rfl rfl rfl ?_
  refine zcj (fs:=[1,4,9,10,11]) (bs:=[100000]) (rs:=[60001]) (ms:=[]) (aa:=[100000]) (nv:=[]) rfl ?_
  refine zau ⟨[],[(60001,25)],[],[]⟩ rfl ?_
  refine zrv hF [] (fun v7=>⟨[(1,.fn 175 [.ptr 100000 0]),(4,.row 25 0),(9,.sl 1 (l.map zal)),(10,.i (l.length:Int)),(11,.i v7.2.1)],[(100000,[.nils])],[(25,⟨205,1,0,0,0,true,1,[100000],(v7.1.map ea)⟩)],[],[(100000,⟨207,2,[],v7.2.2.map zat⟩)]⟩) ?_
  intro n1 v7 y1 hF ih1 dn1
  unfold zlm at hF
  refine NAR [] [1,4,9,10,11,12] [100000] [25] [] [100000] ⟨[(1,.fn 175 [.ptr 100000 0]),(4,.row 25 0),(9,.sl 1 (l.map zal)),(10,.i (l.length:Int)),(11,.i v7.2.1),(12,.bool (decide (v7.2.1<(l.length:Int))))],[(100000,[.nils])],[(25,⟨205,1,0,0,0,true,1,[100000],(v7.1.map ea)⟩)],[],[(100000,⟨207,2,[],v7.2.2.map zat⟩)]⟩ .nil ?_
  refine Nif hF ?_ ?_ <;> intro hb hF
  ·refine zb5 ?_
   have⟨h18,hF⟩:=aE hF
   refine NAR [.av (zal (zad l v7.2.1))] [1,4,5,6,9,10,11] [100000] [25] [] [100000] ⟨[(1,.fn 175 [.ptr 100000 0]),(4,.row 25 0),(5,.i v7.2.1),(6,.sl 5 ((zad l v7.2.1).map zab)),(9,.sl 1 (l.map zal)),(10,.i (l.length:Int)),(11,.i v7.2.1)],[(100000,[.nils])],[(25,⟨205,1,0,0,0,true,1,[100000],(v7.1.map ea)⟩)],[],[(100000,⟨207,2,[],v7.2.2.map zat⟩)]⟩ (hc (zgi zal h18) .nil) ?_
   refine NAR [.nat ((zad l v7.2.1).length:Int)] [1,4,5,6,9,10,11,18] [100000] [25] [] [100000] ⟨[(1,.fn 175 [.ptr 100000 0]),(4,.row 25 0),(5,.i v7.2.1),(6,.sl 5 ((zad l v7.2.1).map zab)),(9,.sl 1 (l.map zal)),(10,.i (l.length:Int)),(11,.i v7.2.1),(18,.bool (decide (0<((zad l v7.2.1).length:Int))))],[(100000,[.nils])],[(25,⟨205,1,0,0,0,true,1,[100000],(v7.1.map ea)⟩)],[],[(100000,⟨207,2,[],v7.2.2.map zat⟩)]⟩ (hc (zc5 zab (zad l v7.2.1)) .nil) ?_
   have⟨v8,hv,hF⟩:=oE hF
   refine Nmeet (⟨[(1,.fn 175 [.ptr 100000 0]),(4,.row 25 0),(9,.sl 1 (l.map zal)),(10,.i (l.length:Int)),(11,.i v7.2.1)],[(100000,[.nils])],[(25,⟨205,1,0,0,0,true,1,[100000],(v8.1.map ea)⟩)],[],[(100000,⟨207,2,[],v8.2.map zat⟩)]⟩:S) ?_ ?_
   ·have hF:=hv
    refine Nif hF ?_ ?_ <;> intro hb hF
    ·have⟨h19,hF⟩:=aE hF
     refine NAR [.raw [100000],.vw v7.2.2.length,.xs ((v7.2.2++[(⟨(zad l v7.2.1),v7.2.1⟩:source)]).map zat),.xs ((v7.1++([v7.2.2.length]:List Nat)).map ea)] [1,4,9,10,11] [100000] [25] [] [100000] ⟨[(1,.fn 175 [.ptr 100000 0]),(4,.row 25 1),(9,.sl 1 (l.map zal)),(10,.i (l.length:Int)),(11,.i v7.2.1)],[(100000,[.nils])],[(25,⟨205,1,1,0,0,true,1,[100000],((v7.1++([v7.2.2.length]:List Nat)).map ea)⟩)],[],[(100000,⟨207,2,[],(v7.2.2++[(⟨(zad l v7.2.1),v7.2.1⟩:source)]).map zat⟩)]⟩ (hc (arl_ok zat v7.2.2) (hc (app_ok zat v7.2.2 [(⟨(zad l v7.2.1),v7.2.1⟩:source)]) (hc (app_ok ea v7.1 ([v7.2.2.length]:List Nat)) (hc (zqv ea h19) .nil)))) ?_
     cases hF
     exact zgt [(25,⟨0,true,true,false⟩)]
    ·cases hF
     exact zgt []
   ·refine NAR [] [1,4,9,10,11] [100000] [25] [] [100000] ⟨[(1,.fn 175 [.ptr 100000 0]),(4,.row 25 0),(9,.sl 1 (l.map zal)),(10,.i (l.length:Int)),(11,.i (w64 (v7.2.1+1)))],[(100000,[.nils])],[(25,⟨205,1,0,0,0,true,1,[100000],(v8.1.map ea)⟩)],[],[(100000,⟨207,2,[],v8.2.map zat⟩)]⟩ .nil ?_
    exact zgb [] hF ih1
  ·refine zbm rfl ?_
   have hF:=zaj hF dn1
   exact ze4 (v7.1,v7.2.2) [] hF
 ·intro v hF
  unfold zn5 at hF
  refine NAR [.nat (v.1.length:Int)] [1,4,7] [100000] [25] [] [100000] ⟨[(1,.fn 175 [.ptr 100000 0]),(4,.row 25 0),(7,.i (w64 ((v.1.length:Int) - 1)))],[(100000,[.nils])],[(25,⟨205,1,0,0,0,true,1,[100000],(v.1.map ea)⟩)],[],[(100000,⟨207,2,[],v.2.map zat⟩)]⟩ (hc (zc5 ea v.1) .nil) ?_
  refine NmQ (fun v1=>znz v v1=some r) (fun v1=>⟨[(1,.fn 175 [.ptr 100000 0]),(4,.row 25 0)],[(100000,[.nils])],[(25,⟨205,1,0,0,0,true,1,[100000],(v1.map ea)⟩)],[],[(100000,⟨207,2,[],v.2.map zat⟩)]⟩) ?_ ?_
  ·refine zb5 ?_
   unfold zss at hF
   refine zrv hF [] (fun v6=>⟨[(1,.fn 175 [.ptr 100000 0]),(4,.row 25 0),(7,.i v6.2)],[(100000,[.nils])],[(25,⟨205,1,0,0,0,true,1,[100000],(v6.1.map ea)⟩)],[],[(100000,⟨207,2,[],v.2.map zat⟩)]⟩) ?_
   intro n1 v6 y1 hF ih1 dn1
   unfold zn7 at hF
   refine NAR [] [1,4,7,31] [100000] [25] [] [100000] ⟨[(1,.fn 175 [.ptr 100000 0]),(4,.row 25 0),(7,.i v6.2),(31,.bool (decide (0<=v6.2)))],[(100000,[.nils])],[(25,⟨205,1,0,0,0,true,1,[100000],(v6.1.map ea)⟩)],[],[(100000,⟨207,2,[],v.2.map zat⟩)]⟩ .nil ?_
   refine Nif hF ?_ ?_ <;> intro hb hF
   ·refine zb5 ?_
    have⟨x2,h17,hF⟩:=oE hF
    refine NAR [.callE [] [25] [] [100000] (.tup []) ⟨[],[],[(25,⟨205,1,0,0,0,true,1,[100000],(x2.map ea)⟩)],[],[(100000,⟨207,2,[],v.2.map zat⟩)]⟩] [1,4,7] [100000] [25] [] [100000] ⟨[(1,.fn 175 [.ptr 100000 0]),(4,.row 25 0),(7,.i v6.2)],[(100000,[.nils])],[(25,⟨205,1,0,0,0,true,1,[100000],(x2.map ea)⟩)],[],[(100000,⟨207,2,[],v.2.map zat⟩)]⟩ (hc (Pe.ren (zp3 0 0 true h17) ⟨[],[(100000,25)],[],[]⟩) .nil) ?_
    refine NAR [] [1,4,7] [100000] [25] [] [100000] ⟨[(1,.fn 175 [.ptr 100000 0]),(4,.row 25 0),(7,.i (w64 (v6.2 - 1)))],[(100000,[.nils])],[(25,⟨205,1,0,0,0,true,1,[100000],(x2.map ea)⟩)],[],[(100000,⟨207,2,[],v.2.map zat⟩)]⟩ .nil ?_
    exact zgb [] hF ih1
   ·refine zbm rfl ?_
    have hF:=zaj hF dn1
    exact ze4 v6.1 [] hF
  ·intro v1 hF
   unfold znz at hF
   refine NmQ (fun v2=>zst v2=some r) (fun v2=>⟨[],[(100000,[.row 50 0])],[(50,.z 53 5 0 (v2.1.map zab))],[],[(100000,⟨207,2,[],v2.2.map zat⟩)]⟩) ?_ ?_
   ·refine zb5 ?_
    unfold zrx at hF
    refine zav 100000 0 60000 53 5 rfl rfl rfl rfl rfl ?_
    refine zcj (fs:=[1,4]) (bs:=[100000]) (rs:=[25,60000]) (ms:=[]) (aa:=[100000]) (nv:=[]) rfl ?_
    refine zau ⟨[],[(60000,50)],[],[]⟩ rfl ?_
    refine zrv hF [(25,⟨0,true,false,false⟩)] (fun v3=>⟨[(1,.fn 175 [.ptr 100000 0]),(4,.row 25 0)],[(100000,[.row 50 0])],[(25,⟨205,1,0,0,0,false,1,[100000],(v3.2.1.map ea)⟩),(50,.z 53 5 0 (v3.1.map zab))],[],[(100000,⟨207,2,[],v3.2.2.map zat⟩)]⟩) ?_
    intro n1 v3 y1 hF ih1 dn1
    unfold zls at hF
    refine NAR [.nat (v3.2.1.length:Int)] [1,4,39] [100000] [25,50] [] [100000] ⟨[(1,.fn 175 [.ptr 100000 0]),(4,.row 25 0),(39,.bool (decide (0<(v3.2.1.length:Int))))],[(100000,[.row 50 0])],[(25,⟨205,1,0,0,0,false,1,[100000],(v3.2.1.map ea)⟩),(50,.z 53 5 0 (v3.1.map zab))],[],[(100000,⟨207,2,[],v3.2.2.map zat⟩)]⟩ (hc (zc5 ea v3.2.1) .nil) ?_
    refine Nif hF ?_ ?_ <;> intro hb hF
    ·refine zb5 ?_
     have⟨h0,h1,hF⟩:=zf7 hF
     refine NAR [.av (ea (zad v3.2.1 0))] [1,4,8] [100000] [25,50] [] [100000] ⟨[(1,.fn 175 [.ptr 100000 0]),(4,.row 25 0),(8,.aptr 100000 (zad v3.2.1 0) 0)],[(100000,[.row 50 0])],[(25,⟨205,1,0,0,0,false,1,[100000],(v3.2.1.map ea)⟩),(50,.z 53 5 0 (v3.1.map zab))],[],[(100000,⟨207,2,[],v3.2.2.map zat⟩)]⟩ (hc (zf4 ea h0) (hc (zec ea h1) .nil)) ?_
     have⟨h2,h3,hF⟩:=zf7 hF
     have⟨x,h4,hF⟩:=oE hF
     have p5:=(Pe.ren (merge_joined_1_v1_ok 0 0 true h4) ⟨[],[(100000,50)],[],[]⟩)
     refine NAR [.av (zat (zad v3.2.2 (((zad v3.2.1 0):Nat):Int))),.av (zab (zad ((zad v3.2.2 (((zad v3.2.1 0):Nat):Int)).cells) 0)),cE [100000] [50] [] [] p5] [1,4,8,51] [100000] [25,50] [] [100000] ⟨[(1,.fn 175 [.ptr 100000 0]),(4,.row 25 0),(8,.aptr 100000 (zad v3.2.1 0) 0),(51,.bool (!x.1))],[(100000,[.row 50 1])],[(25,⟨205,1,0,0,0,false,1,[100000],(v3.2.1.map ea)⟩),(50,.z 53 5 1 (x.2.map zab))],[],[(100000,⟨207,2,[],v3.2.2.map zat⟩)]⟩ (hc (zec zat h2) (hc (zgi zab h3) (hc p5 .nil))) ?_
     refine Nif hF ?_ ?_ <;> intro hb hF
     ·have hF:=zcr hF dn1
      cases hF
      exact Wz [(50,⟨0,true,true,false⟩)] hfin
     ·have⟨h6,hF⟩:=aE hF
      have⟨h7,h8,hF⟩:=zf7 hF
      refine NARL ((zem v3.2.2 (((zad v3.2.1 0):Nat):Int) (⟨(zc1 ((zad v3.2.2 (((zad v3.2.1 0):Nat):Int)).cells) 1),(zad v3.2.2 (((zad v3.2.1 0):Nat):Int)).rank⟩:source))) (fun v4:List source=>(⟨[(1,.fn 175 [.ptr 100000 0]),(4,.row 25 0),(8,.aptr 100000 (zad v3.2.1 0) 0)],[(100000,[.row 50 1])],[(25,⟨205,1,0,0,0,false,1,[100000],(v3.2.1.map ea)⟩),(50,.z 53 5 1 (x.2.map zab))],[],[(100000,⟨207,2,[],v4.map zat⟩)]⟩:S)) [.av (zat (zad v3.2.2 (((zad v3.2.1 0):Nat):Int))),.xs ((zc1 ((zad v3.2.2 (((zad v3.2.1 0):Nat):Int)).cells) 1).map zab),.av (zat (zad v3.2.2 (((zad v3.2.1 0):Nat):Int))),.xs ((zem v3.2.2 (((zad v3.2.1 0):Nat):Int) (⟨(zc1 ((zad v3.2.2 (((zad v3.2.1 0):Nat):Int)).cells) 1),(zad v3.2.2 (((zad v3.2.1 0):Nat):Int)).rank⟩:source)).map zat)] [1,4,8] [100000] [25,50] [] [100000] (hc (zec zat h6) (hc (sl10_ok zab h7) (hc (zec zat h8) (hc (set_ok zat v3.2.2 (((zad v3.2.1 0):Nat):Int) (⟨(zc1 ((zad v3.2.2 (((zad v3.2.1 0):Nat):Int)).cells) 1),(zad v3.2.2 (((zad v3.2.1 0):Nat):Int)).rank⟩:source)) .nil)))) (fun v4 hv=>?_)
      have hF:=zeg hF hv
      have⟨h9,hF⟩:=aE hF
      refine NAR [.av (zat (zad v4 (((zad v3.2.1 0):Nat):Int))),.nat (((zad v4 (((zad v3.2.1 0):Nat):Int)).cells).length:Int)] [1,4,65] [100000] [25,50] [] [100000] ⟨[(1,.fn 175 [.ptr 100000 0]),(4,.row 25 0),(65,.bool (decide ((((zad v4 (((zad v3.2.1 0):Nat):Int)).cells).length:Int)=0)))],[(100000,[.row 50 1])],[(25,⟨205,1,0,0,0,false,1,[100000],(v3.2.1.map ea)⟩),(50,.z 53 5 1 (x.2.map zab))],[],[(100000,⟨207,2,[],v4.map zat⟩)]⟩ (hc (zec zat h9) (hc (zc5 zab ((zad v4 (((zad v3.2.1 0):Nat):Int)).cells)) .nil)) ?_
      have⟨v5,hv,hF⟩:=oE hF
      refine Nmeet (⟨[(1,.fn 175 [.ptr 100000 0]),(4,.row 25 0)],[(100000,[.row 50 1])],[(25,⟨205,1,0,0,0,false,1,[100000],(v5.map ea)⟩),(50,.z 53 5 1 (x.2.map zab))],[],[(100000,⟨207,2,[],v4.map zat⟩)]⟩:S) ?_ ?_
      ·have hF:=hv
       refine Nif hF ?_ ?_ <;> intro hb hF
       ·have⟨h10,hF⟩:=aE hF
        have⟨h11,h12,hF⟩:=zf7 hF
        have⟨h13,hF⟩:=aE hF
        refine NAR [.nat (v3.2.1.length:Int),.av (ea (zad v3.2.1 (w64 ((v3.2.1.length:Int) - 1)))),.av (ea (zad v3.2.1 0)),.xs ((zem v3.2.1 0 (zad v3.2.1 (w64 ((v3.2.1.length:Int) - 1)))).map ea)] [1,4] [100000] [25,50] [] [100000] ⟨[(1,.fn 175 [.ptr 100000 0]),(4,.row 25 0)],[(100000,[.row 50 1])],[(25,⟨205,1,0,0,0,false,1,[100000],((zem v3.2.1 0 (zad v3.2.1 (w64 ((v3.2.1.length:Int) - 1)))).map ea)⟩),(50,.z 53 5 1 (x.2.map zab))],[],[(100000,⟨207,2,[],v4.map zat⟩)]⟩ (hc (zc5 ea v3.2.1) (hc (zf4 ea h10) (hc (zec ea h11) (hc (zf4 ea h12) (hc (zec ea h13) (hc (set_ok ea v3.2.1 0 (zad v3.2.1 (w64 ((v3.2.1.length:Int) - 1)))) (hc (xa2 ((0:Int).toNat)) .nil))))))) ?_
        have⟨h14,hF⟩:=aE hF
        refine NAR [.nat ((zem v3.2.1 0 (zad v3.2.1 (w64 ((v3.2.1.length:Int) - 1)))).length:Int),.vw ((w64 (((zem v3.2.1 0 (zad v3.2.1 (w64 ((v3.2.1.length:Int) - 1)))).length:Int) - 1)).toNat)] [1,4] [100000] [25,50] [] [100000] ⟨[(1,.fn 175 [.ptr 100000 0]),(4,.rowv 25 0 0 ((w64 (((zem v3.2.1 0 (zad v3.2.1 (w64 ((v3.2.1.length:Int) - 1)))).length:Int) - 1)).toNat))],[(100000,[.row 50 1])],[(25,⟨205,1,0,0,0,false,1,[100000],((zem v3.2.1 0 (zad v3.2.1 (w64 ((v3.2.1.length:Int) - 1)))).map ea)⟩),(50,.z 53 5 1 (x.2.map zab))],[],[(100000,⟨207,2,[],v4.map zat⟩)]⟩ (hc (zc5 ea (zem v3.2.1 0 (zad v3.2.1 (w64 ((v3.2.1.length:Int) - 1))))) (hc (vw01_ok (cm:=0) ea h14) .nil)) ?_
        have⟨h15,hF⟩:=aE hF
        refine Wk_truncL 4 25 0 ((w64 (((zem v3.2.1 0 (zad v3.2.1 (w64 ((v3.2.1.length:Int) - 1)))).length:Int) - 1)).toNat) (((zem v3.2.1 0 (zad v3.2.1 (w64 ((v3.2.1.length:Int) - 1)))).take ((w64 (((zem v3.2.1 0 (zad v3.2.1 (w64 ((v3.2.1.length:Int) - 1)))).length:Int) - 1)).toNat)).map ea) rfl rfl rfl rfl (tk_ok ea h15).1 (xa2 _) (xcz).symm ?_
        cases hF
        exact zgt [(25,⟨0,false,true,false⟩)]
       ·cases hF
        exact zgt []
      ·refine NAR [.nat (v5.length:Int)] [1,4,81] [100000] [25,50] [] [100000] ⟨[(1,.fn 175 [.ptr 100000 0]),(4,.row 25 0),(81,.bool (decide (0<(v5.length:Int))))],[(100000,[.row 50 1])],[(25,⟨205,1,0,0,0,false,1,[100000],(v5.map ea)⟩),(50,.z 53 5 1 (x.2.map zab))],[],[(100000,⟨207,2,[],v4.map zat⟩)]⟩ (hc (zc5 ea v5) .nil) ?_
       refine Nif hF ?_ ?_ <;> intro hb hF
       ·have⟨x1,h16,hF⟩:=oE hF
        refine NAR [.callE [] [25] [] [100000] (.tup []) ⟨[],[],[(25,⟨205,1,0,0,0,false,1,[100000],(x1.map ea)⟩)],[],[(100000,⟨207,2,[],v4.map zat⟩)]⟩] [1,4] [100000] [25,50] [] [100000] ⟨[(1,.fn 175 [.ptr 100000 0]),(4,.row 25 0)],[(100000,[.row 50 1])],[(25,⟨205,1,0,0,0,false,1,[100000],(x1.map ea)⟩),(50,.z 53 5 1 (x.2.map zab))],[],[(100000,⟨207,2,[],v4.map zat⟩)]⟩ (hc (Pe.ren (zp3 0 0 false h16) ⟨[],[(100000,25)],[],[]⟩) .nil) ?_
        exact zgb [(50,⟨0,true,true,false⟩)] hF ih1
       ·exact zgb [(50,⟨0,true,true,false⟩)] hF ih1
    ·refine zbm rfl ?_
     have hF:=zaj hF dn1
     exact ze4 (v3.1,v3.2.2) [] hF
   ·intro v2 hF
    unfold zst at hF
    cases hF
    exact Wk_end (hfin _ ⟨[50],[100000],[50],[],[],[],by kernel_rfl⟩)

/- merge.joined -/
def zkr (l:List Cs):Option Cs:=
 ob (merge_each l) fun x=>
 some x
theorem merge_joined_ok {l r}(hF:zkr l=some r):Pe Tryz.prog 165 (.w []) [.sl 1 (l.map zal)] (.row 6 0) ⟨[],[],[(6,.z 53 5 0 (r.map zab))],[],[]⟩:=by
 refine PT 8 [.tmp 2] [28] Tryz.func165 ?_
 intro Q g hfin
 unfold zkr at hF
 refine LR0 ?_
 refine LR0 ?_
 have⟨x,h0,hF⟩:=oE hF
 have p1:=(Pe.ren (merge_each_ok h0) ⟨[(100000,3)],[(50,6)],[],[]⟩)
 refine RJ (.e [3] [] p1 .z) ?_
 refine LR0 ?_
 cases hF
 exact Wz [] hfin

/- merge.Join -/
def zrq (l:List Cs):Option (Cs×Fault):=
 ob (zos l) fun x=>
 if (!decide (x.Code=0))=true then
  some (([]:Cs),x)
 else
  ob (zkr l) fun x1=>
  if (decide (1000<(x1.length:Int)))=true then
   lt (zmt 9 (-1)) fun x2=>
   some (([]:Cs),x2)
  else
   some (x1,(⟨0,0⟩:Fault))
theorem merge_Join_ok {l r}(hF:zrq l=some r):Pe Tryz.prog 137 (.w []) [.sl 1 (l.map zal)] (.tup [.row 13 0,.agg (zae r.2)]) ⟨[],[],[(13,.z 53 5 0 (r.1.map zab))],[],[]⟩:=by
 refine PT 20 [.tmp 2,.cell 3 35] [28,35] Tryz.func137 ?_
 intro Q g hfin
 unfold zrq at hF
 refine LR0 ?_
 have⟨x,h0,hF⟩:=oE hF
 refine RJ (.b (merge_lists_ok h0) .z) ?_
 refine LR0 ?_
 refine Nif hF ?_ ?_ <;> intro hb hF
 ·refine VD [] [2,3] [3] [] [] [(2,.nils),(3,.ptr 3 0)] [(3,(zae x))] [] [] .nil ?_
  cases hF
  refine zap 2 60000 53 5 rfl rfl rfl ?_
  refine zau ⟨[],[(60000,13)],[],[]⟩ rfl ?_
  exact Wz [] hfin
 ·have⟨x1,h1,hF⟩:=oE hF
  have p2:=(Pe.ren (merge_joined_ok h1) ⟨[],[(6,13)],[],[]⟩)
  refine RJ (.e [] [] p2 .z) ?_
  refine RJ (.l zab x1 .z) ?_
  refine Nif hF ?_ ?_ <;> intro hb hF
  ·have⟨x2,h3,hF⟩:=lS hF
   refine VR [.callB (.agg (zae x2))] [2,3] [3] [] [] [(2,.nils),(3,.ptr 3 0)] [(3,(zae x2))] [] [] (hc (zmz h3) .nil) ?_
   cases hF
   refine zap 2 60001 53 5 rfl rfl rfl ?_
   refine zau ⟨[],[(60001,13)],[],[]⟩ rfl ?_
   exact Wz [] hfin
  ·refine LR0 ?_
   cases hF
   exact Wz [] hfin

/- merge.Compact -/
def znm (v:Fault×Fault×Cs):Option (Cs×Fault):=
 some (v.2.2,v.2.1)
def zgf (v1:Fault×Fault×Cs×Int)(v4:Fault×Fault×Cell):Option (Fault×Fault×Cs):=
 zao (((v1.2.2.1++[v4.2.2]).length:Int)*64<=140737488351232) <|
 some (v4.1,v4.2.1,(v1.2.2.1++[v4.2.2]))
def zh1 (since:Int)(whole:Bool)(x:Cs×Fault)(v1:Fault×Fault×Cs×Int):Option ((Fault×Fault×Cs×Int)⊕(Cs×Fault)):=
 if (decide (v1.2.2.2<(x.1.length:Int)))=true then
  ob (
   zao (0<=v1.2.2.2/\v1.2.2.2<(x.1.length:Int)) <|
   zao (0<=v1.2.2.2/\v1.2.2.2<(x.1.length:Int)) <|
   zao ((decide (0<v1.2.2.2))=true->0<=w64 (v1.2.2.2 - 1)/\w64 (v1.2.2.2 - 1)<(x.1.length:Int)) <|
   zao ((decide (0<v1.2.2.2))=true->0<=w64 (v1.2.2.2 - 1)/\w64 (v1.2.2.2 - 1)<(x.1.length:Int)) <|
   zao (((decide (0<v1.2.2.2))&&(decide (((zad x.1 (w64 (v1.2.2.2 - 1))).Row)=((zad x.1 v1.2.2.2).Row))))=true->0<=w64 (v1.2.2.2 - 1)/\w64 (v1.2.2.2 - 1)<(x.1.length:Int)) <|
   zao (((decide (0<v1.2.2.2))&&(decide (((zad x.1 (w64 (v1.2.2.2 - 1))).Row)=((zad x.1 v1.2.2.2).Row))))=true->0<=w64 (v1.2.2.2 - 1)/\w64 (v1.2.2.2 - 1)<(x.1.length:Int)) <|
   lt (((decide (0<v1.2.2.2))&&(decide (((zad x.1 (w64 (v1.2.2.2 - 1))).Row)=((zad x.1 v1.2.2.2).Row))))&&(decide (((zad x.1 (w64 (v1.2.2.2 - 1))).Col)=((zad x.1 v1.2.2.2).Col)))) fun v3=>
   if (decide (since<((zad x.1 v1.2.2.2).Time)))=true then
    zgf v1 (v1.1,v1.2.1,(⟨(zad x.1 v1.2.2.2).Row,(zad x.1 v1.2.2.2).Col,(zad x.1 v1.2.2.2).Time,(zad x.1 v1.2.2.2).Gone,(zad x.1 v1.2.2.2).Value⟩:Cell))
   else
    zao (v3=true->0<=w64 (v1.2.2.2 - 1)/\w64 (v1.2.2.2 - 1)<(x.1.length:Int)) <|
    zao (v3=true->0<=w64 (v1.2.2.2 - 1)/\w64 (v1.2.2.2 - 1)<(x.1.length:Int)) <|
    if (v3&&(decide (((zad x.1 (w64 (v1.2.2.2 - 1))).Time)<=since)))=true then
     some (v1.1,v1.2.1,v1.2.2.1)
    else
     if (((zad x.1 v1.2.2.2).Gone)&&whole)=true then
      some (v1.1,v1.2.1,v1.2.2.1)
     else
      zgf v1 (v1.1,v1.2.1,(⟨(zad x.1 v1.2.2.2).Row,(zad x.1 v1.2.2.2).Col,(zad x.1 v1.2.2.2).Time,(zad x.1 v1.2.2.2).Gone,(zad x.1 v1.2.2.2).Value⟩:Cell))) fun v2=>
  some (Sum.inl (v2.1,v2.2.1,v2.2.2,w64 (v1.2.2.2+1)))
 else
  zev (znm (v1.1,v1.2.1,v1.2.2.1))
def znl (since:Int)(whole:Bool)(x:Cs×Fault)(v0:Fault×Fault×Cs×Int):Option (Cs×Fault):=
 zbg (fun y=>zh1 since whole x y) v0
def zle (l:List Cs)(since:Int)(whole:Bool):Option (Cs×Fault):=
 ob (zrq l) fun x=>
 if (!decide (x.2.Code=0))=true then
  some (([]:Cs),x.2)
 else
  if ((decide (since<0))||(decide (1000000000<since)))=true then
   lt (zmt 3 (-1)) fun x1=>
   some (([]:Cs),x1)
  else
   znl since whole x ((⟨0,0⟩:Fault),x.2,([]:Cs),0)
theorem merge_Compact_ok {l since whole r}(hF:zle l since whole=some r):Pe Tryz.prog 104 (.w []) [.sl 1 (l.map zal),.i since,.bool whole] (.tup [.row 87 0,.agg (zae r.2)]) ⟨[],[],[(87,.z 53 5 0 (r.1.map zab))],[],[]⟩:=by
 refine PT 91 [.tmp 6,.cell 7 35] [28,35] Tryz.func104 ?_
 intro Q g hfin
 unfold zle at hF
 refine LR0 ?_
 have⟨x,h0,hF⟩:=oE hF
 have p1:=(Pe.ren (merge_Join_ok h0) ⟨[],[(13,16)],[],[]⟩)
 refine RJ (.e [] [] p1 .z) ?_
 refine LR0 ?_
 refine Nif hF ?_ ?_ <;> intro hb hF
 ·refine VD [] [6,7] [7] [] [] [(6,.nils),(7,.ptr 7 0)] [(7,(zae x.2))] [] [] .nil ?_
  cases hF
  refine zap 6 60000 53 5 rfl rfl rfl ?_
  refine zau ⟨[],[(60000,87)],[],[]⟩ rfl ?_
  exact Wz [] hfin
 ·refine LR0 ?_
  refine Nif hF ?_ ?_ <;> intro hb hF
  ·have⟨x1,h2,hF⟩:=lS hF
   refine VR [.callB (.agg (zae x1))] [6,7] [7] [] [] [(6,.nils),(7,.ptr 7 0)] [(7,(zae x1))] [] [] (hc (zmz h2) .nil) ?_
   cases hF
   refine zap 6 60001 53 5 rfl rfl rfl ?_
   refine zau ⟨[],[(60001,87)],[],[]⟩ rfl ?_
   exact Wz [] hfin
  ·refine LR0 ?_
   refine VR [.nat (x.1.length:Int)] [1,2,7,8,9,10,30,31,32] [7,9] [16] [] [(1,.i since),(2,.bool whole),(7,.ptr 7 0),(8,.row 16 0),(9,.ptr 9 0),(10,.nils),(30,.row 16 0),(31,.i (x.1.length:Int)),(32,.i 0)] [(7,[.i 0,.i 0]),(9,(zae x.2))] [(16,.z 53 5 0 (x.1.map zab))] [] (hc (zc5 zab x.1) .nil) ?_
   refine NmS (fun v=>znm v=some r) (fun Z v=>Z.up [7,9,10] [7,9] [87] [] [(10,.row 87 0)] [(7,(zae v.1)),(9,(zae v.2.1))] [(87,.z 53 5 0 (v.2.2.map zab))] []) ?_ ?_
   ·refine zb5 ?_
    unfold znl at hF
    refine zap 10 60002 53 5 rfl rfl rfl ?_
    refine zcj (fs:=[1,2,7,8,9,10,30,31,32]) (bs:=[7,9]) (rs:=[16,60002]) (ms:=[]) (aa:=[]) (nv:=[]) rfl ?_
    refine zau ⟨[],[(60002,87)],[],[]⟩ rfl ?_
    refine zrv hF [] (fun v1=>⟨[(1,.i since),(2,.bool whole),(7,.ptr 7 0),(8,.row 16 0),(9,.ptr 9 0),(10,.row 87 0),(30,.row 16 0),(31,.i (x.1.length:Int)),(32,.i v1.2.2.2)],[(7,(zae v1.1)),(9,(zae v1.2.1))],[(16,.z 53 5 0 (x.1.map zab)),(87,.z 53 5 0 (v1.2.2.1.map zab))],[],[]⟩) ?_
    intro n1 v1 y1 hF ih1 dn1
    unfold zh1 at hF
    refine LR0 ?_
    refine Nif hF ?_ ?_ <;> intro hb hF
    ·have⟨v2,hv,hF⟩:=oE hF
     refine NmT (fun Z=>Z.up [1,2,7,8,9,10,30,31,32] [7,9] [16,87] [] [] [(7,(zae v2.1)),(9,(zae v2.2.1))] [(87,.z 53 5 0 (v2.2.2.map zab))] []) ?_ ?_
     ·have hF:=hv
      refine zb5 ?_
      have⟨h3,h4,hF⟩:=zf7 hF
      refine RJ (.x zab h3 (.r zab h4 .z)) ?_
      have⟨h5,h6,h7,h8,hF⟩:=zla hF
      refine NDL (((decide (0<v1.2.2.2))&&(decide (((zad x.1 (w64 (v1.2.2.2 - 1))).Row)=((zad x.1 v1.2.2.2).Row))))&&(decide (((zad x.1 (w64 (v1.2.2.2 - 1))).Col)=((zad x.1 v1.2.2.2).Col)))) (fun v3:Bool=>([(13,.bool v3)],[],[],[])) [.av (zab (zad x.1 (w64 (v1.2.2.2 - 1)))),.av (zab (zad x.1 (w64 (v1.2.2.2 - 1))))] [1,2,7,8,9,10,11,12,13,30,31,32] [7,9,12] [16,87] [] (hc (fun (ga0:(decide (0<v1.2.2.2))=true)=>(zf4 zab (h5 ga0))) (hc (fun (ga0:(decide (0<v1.2.2.2))=true)=>(zec zab (h6 ga0))) (hc (fun (ga0:((decide (0<v1.2.2.2))&&(decide (((zad x.1 (w64 (v1.2.2.2 - 1))).Row)=((zad x.1 v1.2.2.2).Row))))=true)=>(zf4 zab (h7 ga0))) (hc (fun (ga0:((decide (0<v1.2.2.2))&&(decide (((zad x.1 (w64 (v1.2.2.2 - 1))).Row)=((zad x.1 v1.2.2.2).Row))))=true)=>(zec zab (h8 ga0))) .nil)))) (fun v3 hv=>?_)
      have hF:=zeg hF hv
      refine zb5 ?_
      refine LR0 ?_
      refine NmS (fun v4=>zgf v1 v4=some v2) (fun Z v4=>Z.up [1,2,7,8,9,10,12,30,31,32] [7,9,12] [16,87] [] [] [(7,(zae v4.1)),(9,(zae v4.2.1)),(12,(zg9 v4.2.2))] [] []) ?_ ?_
      ·refine Nif hF ?_ ?_ <;> intro hb hF
       ·exact ze4 (v1.1,v1.2.1,(⟨(zad x.1 v1.2.2.2).Row,(zad x.1 v1.2.2.2).Col,(zad x.1 v1.2.2.2).Time,(zad x.1 v1.2.2.2).Gone,(zad x.1 v1.2.2.2).Value⟩:Cell)) [] hF
       ·have⟨h10,hF⟩:=aE hF
        have⟨h11,hF⟩:=aE hF
        refine RJ (.g (fun (ga0:v3=true)=>(zf4 zab (h10 ga0))) (.a (.av (zab (zad x.1 (w64 (v1.2.2.2 - 1))))) (.g (fun (ga0:v3=true)=>(zec zab (h11 ga0))) .z))) ?_
        refine Nif hF ?_ ?_ <;> intro hb hF
        ·refine zbm rfl ?_
         cases hF
         exact zgt []
        ·refine LR0 ?_
         refine Nif hF ?_ ?_ <;> intro hb hF
         ·refine zbm rfl ?_
          cases hF
          exact zgt []
         ·exact ze4 (v1.1,v1.2.1,(⟨(zad x.1 v1.2.2.2).Row,(zad x.1 v1.2.2.2).Col,(zad x.1 v1.2.2.2).Time,(zad x.1 v1.2.2.2).Gone,(zad x.1 v1.2.2.2).Value⟩:Cell)) [] hF
      ·intro v4 hF
       unfold zgf at hF
       have⟨h9,hF⟩:=aE hF
       refine RJ (.a (.sealed) (.p zab h9 .z)) ?_
       cases hF
       exact zgt [(87,⟨0,true,true,false⟩)]
     ·refine LR0 ?_
      exact zgb [] hF ih1
    ·refine zbm rfl ?_
     have hF:=zaj hF dn1
     exact ze4 (v1.1,v1.2.1,v1.2.2.1) [] hF
   ·intro v hF
    unfold znm at hF
    refine LD0 ?_
    cases hF
    exact Wz [] hfin

/- slices.Clone[[][]byte,[]byte] -/
def zd5 (s0:B9):Option B9:=
 ubO (decide (s0.length=0)) (
  some ([]:B9)) (
  zao (((([]:B9)++s0).length:Int)*24<=140737488351232) <|
  some (([]:B9)++s0))
theorem zn6 {s0 r}(hF:zd5 s0=some r):Pe Tryz.prog 105 (.w []) [.sl 1 (s0.map zaf)] (.row 5 0) ⟨[],[],[(5,.o 22 1 0 (r.map zaf))],[],[]⟩:=by
 refine PT 8 [.tmp 2] [25] Tryz.func105 ?_
 intro Q g hfin
 unfold zd5 at hF
 refine LR0 ?_
 refine NR [.bo (decide (s0.length=0))] [0,4] [] [] [(0,.sl 1 (s0.map zaf)),(4,.ub (decide (s0.length=0)) true)] (hc (ubn_ok zaf s0) .nil) ?_
 refine Wk_ub 4 rfl fun b hb1 hb2=>?_
 refine Nsplit rfl (fun hb=>?_) (fun hb=>?_)
 ·have hb:=hb1 hb
  have hF:=(ubO_elim hF).1 hb
  refine NR [] [2] [] [] [(2,.nils)] .nil ?_
  cases hF
  refine zap 2 60000 22 1 rfl rfl rfl ?_
  refine zau ⟨[],[(60000,5)],[],[]⟩ rfl ?_
  exact Wz [(5,⟨0,true,false,false⟩)] hfin
 ·have hF:=(ubO_elim hF).2
  have⟨h0,hF⟩:=aE hF
  refine RJ (.p zaf h0 .z) ?_
  cases hF
  exact Wz [(5,⟨0,true,true,false⟩)] hfin

/- tablet.Compact$1 -/
def zfz (box:B8)(box1:Int)(box2:B9)(box3 box4:Int)(box5 box6:Int)(box7:Tablet)(box8 box9:Int)(row:List Note)(row1:Cs)(row2:List Cs):Option (Fault×B8×Int×B9×Int×Int×Int×Cs×List Cs):=
 if ((decide (box6<0))||(decide ((box7.Files.length:Int)<=box6)))=true then
  lt (zce 3 (-2)) fun x=>
  some (x,box,box1,box2,box3,box4,box5,row1,row2)
 else
  if ((decide (box8<0))||(decide (1000000000<box8)))=true then
   lt (zce 3 (-3)) fun x1=>
   some (x1,box,box1,box2,box3,box4,box5,row1,row2)
  else
   lt (zfo box9) fun x2=>
   if (!decide (x2.Code=0))=true then
    some (x2,box,box1,box2,box3,box4,box5,row1,row2)
   else
    ob (zbp row1 box8) fun x3=>
    zao (0<=box6/\box6<=(row2.length:Int)) <|
    ob (zle (zc1 row2 box6) box8 ((decide (box6=0))&&(!x3))) fun x4=>
    if (!decide (x4.2.Code=0))=true then
     some (x4.2,box,box1,box2,box3,box4,box5,row1,row2)
    else
     ob (zo6 x4.1 box9) fun x5=>
     zao (0<=box6/\box6<=(box7.Files.length:Int)) <|
     ob (zd5 (zd8 box7.Files box6)) fun x6=>
     zao (((x6++([x5.1]:B9)).length:Int)*24<=140737488351232) <|
     some (x5.2,box,box1,(x6++([x5.1]:B9)),box3,(max box7.Since box8),box5,row1,row2)
theorem tablet_Compact_1_v1_ok (rk rc:Nat)(rn:Bool)(rk1 rc1:Nat)(rn1:Bool)(rk2 rc2:Nat)(rn2:Bool){box box1 box2 box3 box4 box5 box6 box7 box8 box9 row row1 row2 r}(hF:zfz box box1 box2 box3 box4 box5 box6 box7 box8 box9 row row1 row2=some r):Pe Tryz.prog 101 ⟨[],[(100000,[.sl 1 (box.map zas),.i box1,.sl 1 (box2.map zaf),.i box3,.i box4,.row 100000 0,.i box5,.row 100001 0,.row 100002 0]),(100001,[.i box6]),(100002,(zag box7)),(100003,[.i box8]),(100004,[.i box9])],[(100000,.q 50 2 0 rk rc rn (row.map zar)),(100001,.q 53 5 0 rk1 rc1 rn1 (row1.map zab)),(100002,.q 28 1 0 rk2 rc2 rn2 (row2.map zal))],[],[]⟩ [.ptr 100000 0,.ptr 100001 0,.ptr 100002 0,.ptr 100003 0,.ptr 100004 0] (.agg (zae r.1)) ⟨[],[(100000,[.sl 1 (r.2.1.map zas),.i r.2.2.1,.sl 1 (r.2.2.2.1.map zaf),.i r.2.2.2.2.1,.i r.2.2.2.2.2.1,.row 100000 0,.i r.2.2.2.2.2.2.1,.row 100001 0,.row 100002 0]),(100001,[.i box6]),(100002,(zag box7)),(100003,[.i box8]),(100004,[.i box9])],[(100000,.q 50 2 0 rk rc rn (row.map zar)),(100001,⟨53,5,0,(r.2.2.2.2.2.2.2.1.map zab).length,rc1,rn1,0,[],(r.2.2.2.2.2.2.2.1.map zab)⟩),(100002,⟨28,1,0,(r.2.2.2.2.2.2.2.2.map zal).length,rc2,rn2,0,[],(r.2.2.2.2.2.2.2.2.map zal)⟩)],[],[]⟩:=by
 refine PT 91 [.cell 6 35] [35] Tryz.func101 ?_
 intro Q g hfin
 unfold zfz at hF
 refine LR0 ?_
 refine zb5 ?_
 refine RJ (.a (.nat (box7.Files.length:Int)) (.g (fun (_:(!(decide (box6<0)))=true)=>(zc5 zaf box7.Files)) .z)) ?_
 refine Nif hF ?_ ?_ <;> intro hb hF
 ·have⟨x,h0,hF⟩:=lS hF
  refine RJ (.b (za2 h0) .z) ?_
  cases hF
  exact Wz [(100001,⟨0,true,true,true⟩),(100002,⟨0,true,true,true⟩)] hfin
 ·refine LR0 ?_
  refine Nif hF ?_ ?_ <;> intro hb hF
  ·have⟨x1,h1,hF⟩:=lS hF
   refine RJ (.b (za2 h1) .z) ?_
   cases hF
   exact Wz [(100001,⟨0,true,true,true⟩),(100002,⟨0,true,true,true⟩)] hfin
  ·have⟨x2,h2,hF⟩:=lS hF
   refine RJ (.b (zhc h2) .z) ?_
   refine LR0 ?_
   refine Nif hF ?_ ?_ <;> intro hb hF
   ·refine LR0 ?_
    cases hF
    exact Wz [(100001,⟨0,true,true,true⟩),(100002,⟨0,true,true,true⟩)] hfin
   ·have⟨x3,h3,hF⟩:=oE hF
    refine RJ (.q [100003] [] (Pe.ren (zin h3) ⟨[(100000,100003)],[],[],[]⟩) .z) ?_
    have⟨h4,hF⟩:=aE hF
    have⟨x4,h5,hF⟩:=oE hF
    have p6:=(Pe.ren (merge_Compact_ok h5) ⟨[],[(87,57)],[],[]⟩)
    refine DJ (.s10 zal h4 (.e [] [] p6 .z)) ?_
    refine LR0 ?_
    refine Nif hF ?_ ?_ <;> intro hb hF
    ·refine LR0 ?_
     cases hF
     exact Wz [] hfin
    ·have⟨x5,h7,hF⟩:=oE hF
     have p8:=(Pe.ren (file_Make_ok h7) ⟨[],[(76,67)],[],[]⟩)
     refine RJ (.e [] [] p8 .z) ?_
     have⟨h9,hF⟩:=aE hF
     have⟨x6,h10,hF⟩:=oE hF
     have p11:=(Pe.ren (zn6 h10) ⟨[],[(5,76)],[],[]⟩)
     have⟨h12,hF⟩:=aE hF
     refine DJ (.s01 zaf h9 (.e [] [] p11 (.a (.sealed) (.p zaf h12 .z)))) ?_
     refine VR [] [6] [6,100000,100001,100002,100003,100004] [76,100000,100001,100002] [] [(6,.ptr 6 0)] [(6,(zae x5.2)),(100000,[.sl 1 (box.map zas),.i box1,.row 76 1,.i box3,.i (max box7.Since box8),.row 100000 0,.i box5,.row 100001 0,.row 100002 0]),(100001,[.i box6]),(100002,(zag box7)),(100003,[.i box8]),(100004,[.i box9])] [(76,.o 22 1 1 ((x6++([x5.1]:B9)).map zaf)),(100000,.q 50 2 0 rk rc rn (row.map zar)),(100001,⟨53,5,0,(row1.map zab).length,rc1,rn1,0,[],(row1.map zab)⟩),(100002,⟨28,1,0,(row2.map zal).length,rc2,rn2,0,[],(row2.map zal)⟩)] [] .nil ?_
     cases hF
     refine zo1 [100000,100001,100002] 100000 rfl rfl ?_
     exact Wz [] hfin

/- tablet.with -/
def zm0 (t0:Tablet)(box:Int)(box1:Tablet)(box2 box3:Int):Option (B8×Int×B9×Int×Int×Fault):=
 ob (zf1 t0) fun x=>
 sm x (fun (x:Fault)=>
  if (!decide (x.Code=0))=true then
   some (([]:B8),0,([]:B9),0,0,x)
  else
   ob (znp box box1 box2 box3) fun x1=>
   if (!decide (x1.Code=0))=true then
    some (([]:B8),0,([]:B9),0,0,x1)
   else
    none) (fun (x:B8×Int×B9×Int×Int×List Note×Int×Cs×List Cs×Fault)=>
  if (!decide (x.2.2.2.2.2.2.2.2.2.Code=0))=true then
   some (([]:B8),0,([]:B9),0,0,x.2.2.2.2.2.2.2.2.2)
  else
   ob (zfz x.1 x.2.1 x.2.2.1 x.2.2.2.1 x.2.2.2.2.1 x.2.2.2.2.2.2.1 box box1 box2 box3 x.2.2.2.2.2.1 x.2.2.2.2.2.2.2.1 x.2.2.2.2.2.2.2.2.1) fun x1=>
   if (!decide (x1.1.Code=0))=true then
    some (([]:B8),0,([]:B9),0,0,x1.1)
   else
    ob (zh9 (⟨(⟨x1.2.1,x1.2.2.1⟩:Disk),x1.2.2.2.1,x1.2.2.2.2.1,x1.2.2.2.2.2.1⟩:Tablet)) fun x2=>
    some (x2.1,x2.2.1,x2.2.2.1,x2.2.2.2.1,x2.2.2.2.2,x1.1))
theorem tablet_with_v6_ok {t0 box box1 box2 box3 r}(hF:zm0 t0 box box1 box2 box3=some r):Pe Tryz.prog 62 ⟨[],[(100000,[.i box]),(100001,(zag box1)),(100002,[.i box2]),(100003,[.i box3])],[],[],[]⟩ [.agg (zag t0),.fn 101 [.ptr 100000 0,.ptr 100001 0,.ptr 100002 0,.ptr 100003 0]] (.tup [.agg [.row 30 0,.i r.2.1,.row 20030 0,.i r.2.2.2.1,.i r.2.2.2.2.1],.agg (zae r.2.2.2.2.2)]) ⟨[],[(100000,[.i box]),(100001,(zag box1)),(100002,[.i box2]),(100003,[.i box3])],[(30,.o 5 1 0 (r.1.map zas)),(20030,.o 22 1 0 (r.2.2.1.map zaf))],[],[]⟩:=by
 refine PT 32 [.cell 4 27,.cell 5 35] [27,35] Tryz.func62 ?_
 intro Q g hfin
 unfold zm0 at hF
 refine LR0 ?_
 have⟨x,h0,hF⟩:=oE hF
 rcases x with x | x
 ·have hF:=sm_l hF
  refine RJ (.b (zi2 h0) .z) ?_
  refine LR0 ?_
  refine Nif hF ?_ ?_ <;> intro hb hF
  ·refine VD [] [4,5] [4,5,100000,100001,100002,100003] [] [] [(4,.ptr 4 0),(5,.ptr 5 0)] [(4,[.nils,.i 0,.nils,.i 0,.i 0]),(5,(zae x)),(100000,[.i box]),(100001,(zag box1)),(100002,[.i box2]),(100003,[.i box3])] [] [] .nil ?_
   cases hF
   refine zav 4 0 60000 5 1 rfl rfl rfl rfl rfl ?_
   refine zav 4 2 60001 22 1 rfl rfl rfl rfl rfl ?_
   refine zau ⟨[],[(60000,30),(60001,20030)],[],[]⟩ rfl ?_
   exact Wz [(30,⟨0,true,false,false⟩),(20030,⟨0,true,false,false⟩)] hfin
  ·have⟨x1,h1,hF⟩:=oE hF
   refine RJ (.q [100000,100001,100002,100003] [] (Pe.ren (tablet_Compact_1_ok h1) ⟨[],[],[],[]⟩) .z) ?_
   refine LR0 ?_
   refine Nif hF ?_ ?_ <;> intro hb hF
   ·refine VD [] [4,5] [4,5,100000,100001,100002,100003] [] [] [(4,.ptr 4 0),(5,.ptr 5 0)] [(4,[.nils,.i 0,.nils,.i 0,.i 0]),(5,(zae x1)),(100000,[.i box]),(100001,(zag box1)),(100002,[.i box2]),(100003,[.i box3])] [] [] .nil ?_
    cases hF
    refine zav 4 0 60002 5 1 rfl rfl rfl rfl rfl ?_
    refine zav 4 2 60003 22 1 rfl rfl rfl rfl rfl ?_
    refine zau ⟨[],[(60002,30),(60003,20030)],[],[]⟩ rfl ?_
    exact Wz [(30,⟨0,true,false,false⟩),(20030,⟨0,true,false,false⟩)] hfin
   ·cases hF
 ·have hF:=sm_r hF
  have p1:=(Pe.ren (zi6 h0) ⟨[(49,10)],[(54,10),(143,20010),(149,40010)],[],[]⟩)
  refine RJ (.e [] [] p1 .z) ?_
  refine LR0 ?_
  refine Nif hF ?_ ?_ <;> intro hb hF
  ·refine VD [] [4,5] [4,5,100000,100001,100002,100003] [] [] [(4,.ptr 4 0),(5,.ptr 5 0)] [(4,[.nils,.i 0,.nils,.i 0,.i 0]),(5,(zae x.2.2.2.2.2.2.2.2.2)),(100000,[.i box]),(100001,(zag box1)),(100002,[.i box2]),(100003,[.i box3])] [] [] .nil ?_
   cases hF
   refine zav 4 0 60004 5 1 rfl rfl rfl rfl rfl ?_
   refine zav 4 2 60005 22 1 rfl rfl rfl rfl rfl ?_
   refine zau ⟨[],[(60004,30),(60005,20030)],[],[]⟩ rfl ?_
   exact Wz [(30,⟨0,true,false,false⟩),(20030,⟨0,true,false,false⟩)] hfin
  ·have⟨x1,h2,hF⟩:=oE hF
   have p3:=(Pe.ren (tablet_Compact_1_v1_ok ((x.2.2.2.2.2.1.map zar).length) 0 true ((x.2.2.2.2.2.2.2.1.map zab).length) 0 false 0 0 true h2) ⟨[(100000,10),(100001,100000),(100002,100001),(100003,100002),(100004,100003)],[(100000,10),(100001,40010),(100002,20010)],[],[]⟩)
   refine RJ (.e [10,100000,100001,100002,100003] [10,40010,20010] p3 .z) ?_
   refine LR0 ?_
   refine Nif hF ?_ ?_ <;> intro hb hF
   ·refine VD [] [4,5] [4,5,100000,100001,100002,100003] [] [] [(4,.ptr 4 0),(5,.ptr 5 0)] [(4,[.nils,.i 0,.nils,.i 0,.i 0]),(5,(zae x1.1)),(100000,[.i box]),(100001,(zag box1)),(100002,[.i box2]),(100003,[.i box3])] [] [] .nil ?_
    cases hF
    refine zav 4 0 60006 5 1 rfl rfl rfl rfl rfl ?_
    refine zav 4 2 60007 22 1 rfl rfl rfl rfl rfl ?_
    refine zau ⟨[],[(60006,30),(60007,20030)],[],[]⟩ rfl ?_
    exact Wz [(30,⟨0,true,false,false⟩),(20030,⟨0,true,false,false⟩)] hfin
   ·have⟨x2,h4,hF⟩:=oE hF
    have p5:=(Pe.ren (zlz h4) ⟨[],[(8,30),(13,20030)],[],[]⟩)
    refine DJ (.e [] [] p5 .z) ?_
    cases hF
    exact Wz [] hfin

/- tablet.Compact -/
/- tablet.Compact -/
def zhf (t0:Tablet)(at0 since size:Int):Option (Tablet×Fault):=
 ob (zm0 t0 at0 t0 since size) fun x=>
 some ((⟨(⟨x.1,x.2.1⟩:Disk),x.2.2.1,x.2.2.2.1,x.2.2.2.2.1⟩:Tablet),x.2.2.2.2.2)
theorem tablet_Compact_v1_ok {t0 at0 since size r}(hF:zhf t0 at0 since size=some r):Pe Tryz.prog 51 S.none [.agg (zag t0),.i at0,.i since,.i size] (.tup [.agg (zag r.1),.agg (zae r.2)]) S.none:=by
 refine PT 15 [.cell 8 27,.cell 9 35] [27,35] Tryz.func51 ?_
 intro Q g hfin
 unfold zhf at hF
 refine LR0 ?_
 have⟨x,h0,hF⟩:=oE hF
 have p1:=(Pe.ren (tablet_with_v6_ok h0) ⟨[(100000,5),(100001,4),(100002,6),(100003,7)],[(30,12),(20030,20012)],[],[]⟩)
 refine RJ (.e [5,4,6,7] [] p1 .z) ?_
 cases hF
 exact Wz [] hfin

end
end G
end Go.Proofs.YticbfakiihfgmaaGreat
