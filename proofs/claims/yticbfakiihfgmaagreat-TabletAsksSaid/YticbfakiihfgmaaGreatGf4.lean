/- The program's functions as plain functions, and that they are these. Written by a program (dec2.py). -/
import Derived.Test.YticbfakiihfgmaaGreatGf3
namespace Go.Proofs.YticbfakiihfgmaaGreat
open Go Go.Dm
set_option linter.unusedVariables false
set_option linter.unusedSimpArgs false
set_option maxRecDepth 100000
namespace G
noncomputable section
/- slices.DeleteFunc[[]api.Cell,api.Cell] -/
/- tablet.Part$1 -/
/- tablet.with -/
/- tablet.Part -/
/- tablet.Part -/
/- cell.Asked -/
def cell_Asked (a0:Ask):Fault:=
 if ((decide (a0.Time<0))||(decide (1000000000<a0.Time)))=true then
  lt (cell_fault 3 (-1)) fun x=>
  x
 else
  if ((decide (a0.Many<0))||(decide (1000<a0.Many)))=true then
   lt (cell_fault 3 (-2)) fun x1=>
   x1
  else
   (⟨0,0⟩:Fault)
theorem cell_Asked_ok {a0 r} (hF:cell_Asked a0=r):Pe Tryz.prog 97 S.none [.agg (c_Ask a0)] (.agg (zae r)) S.none:=by
 refine PT 22 [.cell 2 35] [35] Tryz.func97 ?_
 intro Q g hfin
 unfold cell_Asked at hF
 refine LR0 ?_
 refine LR0 ?_
 refine Nif hF ?_ ?_ <;> intro hb hF
 ·obtain ⟨x,h0,hF⟩:=lS hF
  refine RJ (.b (cell_fault_ok h0) .z) ?_
  cases hF
  exact Wz [] hfin
 ·refine LR0 ?_
  refine Nif hF ?_ ?_ <;> intro hb hF
  ·obtain ⟨x1,h1,hF⟩:=lS hF
   refine RJ (.b (cell_fault_ok h1) .z) ?_
   cases hF
   exact Wz [] hfin
  ·refine LR0 ?_
   cases hF
   exact Wz [] hfin

/- (*tablet.tab).early -/
def tablet_tab_early (time:Int) (box:List UInt8) (box1:Int) (box2:List (List UInt8)) (box3 box4 box5:Int) (row:List Note) (row1:List Cell) (row2:List (List Cell)):Fault:=
 if (decide (time<box4))=true then
  lt (zbq 12 (-1)) fun x=>
  x
 else
  (⟨0,0⟩:Fault)
theorem tablet_tab_early_ok (rk rc:Nat) (rn:Bool) (rk1 rc1:Nat) (rn1:Bool) (rk2 rc2:Nat) (rn2:Bool) {time box box1 box2 box3 box4 box5 row row1 row2 r} (hF:tablet_tab_early time box box1 box2 box3 box4 box5 row row1 row2=r):Pe Tryz.prog 98 ⟨[],[(100000,[.sl 1 (box.map zaq),.i box1,.sl 1 (box2.map zah),.i box3,.i box4,.row 100000 0,.i box5,.row 100001 0,.row 100002 0])],[(100000,.q 50 2 0 rk rc rn (row.map zam)),(100001,.q 53 5 0 rk1 rc1 rn1 (row1.map zac)),(100002,.q 28 1 0 rk2 rc2 rn2 (row2.map zar))],[],[]⟩ [.ptr 100000 0,.i time] (.agg (zae r)) ⟨[],[(100000,[.sl 1 (box.map zaq),.i box1,.sl 1 (box2.map zah),.i box3,.i box4,.row 100000 0,.i box5,.row 100001 0,.row 100002 0])],[(100000,.q 50 2 0 rk rc rn (row.map zam)),(100001,.q 53 5 0 rk1 rc1 rn1 (row1.map zac)),(100002,.q 28 1 0 rk2 rc2 rn2 (row2.map zar))],[],[]⟩:=by
 refine PT 14 [.cell 4 35] [35] Tryz.func98 ?_
 intro Q g hfin
 unfold tablet_tab_early at hF
 refine LR0 ?_
 refine LR0 ?_
 refine Nif hF ?_ ?_ <;> intro hb hF
 ·obtain ⟨x,h0,hF⟩:=lS hF
  refine RJ (.b (zay h0) .z) ?_
  cases hF
  exact Wz [] hfin
 ·refine LR0 ?_
  cases hF
  exact Wz [] hfin

/- cell.Seen -/
def cell_Seen_J1 (v:List Cell):Option (List Cell):=
 some v
def cell_Seen_J2 (v1:Ask×List Cell×List UInt8×List UInt8×Bool×Int) (v2:Ask×List Cell×List UInt8×List UInt8×Bool):Option ((Ask×List Cell×List UInt8×List UInt8×Bool×Int)⊕(List Cell)):=
 some (Sum.inl (v2.1,v2.2.1,v2.2.2.1,v2.2.2.2.1,v2.2.2.2.2,w64 (v1.2.2.2.2.2+1)))
def cell_Seen_B1 (l:List Cell) (v1:Ask×List Cell×List UInt8×List UInt8×Bool×Int):Option ((Ask×List Cell×List UInt8×List UInt8×Bool×Int)⊕(List Cell)):=
 if (decide (v1.2.2.2.2.2<(l.length:Int)))=true then
  zan (0≤v1.2.2.2.2.2∧v1.2.2.2.2.2<(l.length:Int)) <|
  if (((Op.bytesLess ((zad l v1.2.2.2.2.2).Row) v1.1.From)||((!decide (v1.1.To=([]:List UInt8)))&&(!Op.bytesLess ((zad l v1.2.2.2.2.2).Row) v1.1.To)))||(decide (v1.1.Time<((zad l v1.2.2.2.2.2).Time))))=true then
   cell_Seen_J2 v1 (v1.1,v1.2.1,v1.2.2.1,v1.2.2.2.1,v1.2.2.2.2.1)
  else
   if ((v1.2.2.2.2.1&&(decide (((zad l v1.2.2.2.2.2).Row)=v1.2.2.1)))&&(decide (((zad l v1.2.2.2.2.2).Col)=v1.2.2.2.1)))=true then
    cell_Seen_J2 v1 (v1.1,v1.2.1,v1.2.2.1,v1.2.2.2.1,v1.2.2.2.2.1)
   else
    if ((zad l v1.2.2.2.2.2).Gone)=true then
     cell_Seen_J2 v1 (v1.1,v1.2.1,(zad l v1.2.2.2.2.2).Row,(zad l v1.2.2.2.2.2).Col,true)
    else
     if (decide ((v1.2.1.length:Int)=v1.1.Many))=true then
      inrO (cell_Seen_J1 v1.2.1)
     else
      zan (((v1.2.1++[(⟨(zad l v1.2.2.2.2.2).Row,(zad l v1.2.2.2.2.2).Col,(zad l v1.2.2.2.2.2).Time,(zad l v1.2.2.2.2.2).Gone,(zad l v1.2.2.2.2.2).Value⟩:Cell)]).length:Int)*64≤140737488351232) <|
      lt ((v1.2.1++[(⟨(zad l v1.2.2.2.2.2).Row,(zad l v1.2.2.2.2.2).Col,(zad l v1.2.2.2.2.2).Time,(zad l v1.2.2.2.2.2).Gone,(zad l v1.2.2.2.2.2).Value⟩:Cell)])) fun v3=>
      cell_Seen_J2 v1 (v1.1,v3,(zad l v1.2.2.2.2.2).Row,(zad l v1.2.2.2.2.2).Col,true)
 else
  inrO (cell_Seen_J1 v1.2.1)
def cell_Seen_L1 (l:List Cell) (v0:Ask×List Cell×List UInt8×List UInt8×Bool×Int):Option (List Cell):=
 zbe (fun y=>cell_Seen_B1 l y) v0
def cell_Seen (l:List Cell) (a0:Ask):Option (List Cell):=
 cell_Seen_L1 l (a0,([]:List Cell),([]:List UInt8),([]:List UInt8),false,0)
theorem cell_Seen_ok {l a0 r} (hF:cell_Seen l a0=some r):Pe Tryz.prog 99 (.w []) [.sl 5 (l.map zac),.agg (c_Ask a0)] (.row 68 0) ⟨[],[],[(68,.z 53 5 0 (r.map zac))],[],[]⟩:=by
 refine PT 71 [.tmp 4] [28] Tryz.func99 ?_
 intro Q g hfin
 unfold cell_Seen at hF
 refine LR0 ?_
 refine LR0 ?_
 refine LR0 ?_
 refine VR [.nat (l.length:Int)] [3,5,6,7,8,11,12,13] [3] [] [] [(3,.ptr 3 0),(5,.nils),(6,.str ([]:List UInt8)),(7,.str ([]:List UInt8)),(8,.bool false),(11,.sl 5 (l.map zac)),(12,.i (l.length:Int)),(13,.i 0)] [(3,(c_Ask a0))] [] [] (hc (len_ok zac l) .nil) ?_
 refine NmQ (fun v=>cell_Seen_J1 v=some r) (fun v=>⟨[(5,.row 68 0)],[],[(68,.z 53 5 0 (v.map zac))],[],[]⟩) ?_ ?_
 ·refine zcd ?_
  unfold cell_Seen_L1 at hF
  refine zao 5 60000 53 5 rfl rfl rfl ?_
  refine Wk_trim (fs:=[3,5,6,7,8,11,12,13]) (bs:=[3]) (rs:=[60000]) (ms:=[]) (aa:=[]) (nv:=[]) rfl ?_
  refine zat ⟨[],[(60000,68)],[],[]⟩ rfl ?_
  refine Nitr hF [] (fun v1=>⟨[(3,.ptr 3 0),(5,.row 68 0),(6,.str v1.2.2.1),(7,.str v1.2.2.2.1),(8,.bool v1.2.2.2.2.1),(11,.sl 5 (l.map zac)),(12,.i (l.length:Int)),(13,.i v1.2.2.2.2.2)],[(3,(c_Ask v1.1))],[(68,.z 53 5 0 (v1.2.1.map zac))],[],[]⟩) ?_
  intro n1 v1 y1 hF ih1 dn1
  unfold cell_Seen_B1 at hF
  refine LR0 ?_
  refine Nif hF ?_ ?_ <;> intro hb hF
  ·refine NmS (fun v2=>cell_Seen_J2 v1 v2=some y1) (fun Z v2=>Z.up [3,5,6,7,8,11,12,13] [3] [68] [] [(6,.str v2.2.2.1),(7,.str v2.2.2.2.1),(8,.bool v2.2.2.2.2)] [(3,(c_Ask v2.1))] [(68,.z 53 5 0 (v2.2.1.map zac))] []) ?_ ?_
   ·refine zcd ?_
    obtain ⟨h0,hF⟩:=aE hF
    refine RJ (.i zac h0 .z) ?_
    refine LR0 ?_
    refine Nif hF ?_ ?_ <;> intro hb hF
    ·refine zbr rfl ?_
     exact metQ (v1.1,v1.2.1,v1.2.2.1,v1.2.2.2.1,v1.2.2.2.2.1) [] hF
    ·refine LR0 ?_
     refine Nif hF ?_ ?_ <;> intro hb hF
     ·refine zbr rfl ?_
      exact metQ (v1.1,v1.2.1,v1.2.2.1,v1.2.2.2.1,v1.2.2.2.2.1) [] hF
     ·refine LD0 ?_
      refine LR0 ?_
      refine Nif hF ?_ ?_ <;> intro hb hF
      ·refine zbr rfl ?_
       exact metQ (v1.1,v1.2.1,(zad l v1.2.2.2.2.2).Row,(zad l v1.2.2.2.2.2).Col,true) [] hF
      ·refine RJ (.l zac v1.2.1 .z) ?_
       refine Nif hF ?_ ?_ <;> intro hb hF
       ·refine zbr rfl ?_
        have hF:=zai hF dn1
        exact metQ v1.2.1 [] hF
       ·obtain ⟨h1,hF⟩:=aE hF
        obtain ⟨v3,hv,hF⟩:=lS hF
        refine RJ (.a (.sealed) (.pN zac hv h1 .z)) ?_
        exact metQ (v1.1,v3,(zad l v1.2.2.2.2.2).Row,(zad l v1.2.2.2.2.2).Col,true) [(68,⟨0,true,true,false⟩)] hF
   ·intro v2 hF
    unfold cell_Seen_J2 at hF
    refine LR0 ?_
    exact Nrnq [] hF ih1
  ·refine zbr rfl ?_
   have hF:=zai hF dn1
   exact metQ v1.2.1 [] hF
 ·intro v hF
  unfold cell_Seen_J1 at hF
  refine LR0 ?_
  cases hF
  exact Wz [] hfin

/- tablet.Scan -/
/- tablet.Scan -/
def tablet_Scan_v1 (t0:Tablet) (a0:Ask):Option (List Cell×Fault):=
 ob (tablet_load t0) fun x=>
 sm x (fun (x:Fault)=>
  ob (
   if (decide (x.Code=0))=true then
    lt (cell_Asked a0) fun x1=>
    some (a0,(⟨0,0⟩:Fault),x1)
   else
    some (a0,(⟨0,0⟩:Fault),x)) fun (v:Ask×Fault×Fault)=>
  ob (
   if (decide (v.2.2.Code=0))=true then
    none
   else
    some (v.1,v.2.1,v.2.2)) fun v1=>
  if (!decide (v1.2.2.Code=0))=true then
   some (([]:List Cell),v1.2.2)
  else
   none) (fun (x:List UInt8×Int×List (List UInt8)×Int×Int×List Note×Int×List Cell×List (List Cell)×Fault)=>
  ob (
   if (decide (x.2.2.2.2.2.2.2.2.2.Code=0))=true then
    lt (cell_Asked a0) fun x1=>
    some (a0,(⟨0,0⟩:Fault),x1)
   else
    some (a0,(⟨0,0⟩:Fault),x.2.2.2.2.2.2.2.2.2)) fun (v:Ask×Fault×Fault)=>
  ob (
   if (decide (v.2.2.Code=0))=true then
    lt (tablet_tab_early v.1.Time x.1 x.2.1 x.2.2.1 x.2.2.2.1 x.2.2.2.2.1 x.2.2.2.2.2.2.1 x.2.2.2.2.2.1 x.2.2.2.2.2.2.2.1 x.2.2.2.2.2.2.2.2.1) fun x2=>
    some (v.1,v.2.1,x2)
   else
    some (v.1,v.2.1,v.2.2)) fun v1=>
  if (!decide (v1.2.2.Code=0))=true then
   some (([]:List Cell),v1.2.2)
  else
   ob (tablet_tab_all x.1 x.2.1 x.2.2.1 x.2.2.2.1 x.2.2.2.2.1 x.2.2.2.2.2.2.1 x.2.2.2.2.2.1 x.2.2.2.2.2.2.2.1 x.2.2.2.2.2.2.2.2.1) fun x3=>
   ob (cell_Seen x3.1 v1.1) fun x4=>
   some (x4,v1.2.2))
theorem tablet_Scan_v1_ok {t0 a0 r} (hF:tablet_Scan_v1 t0 a0=some r):Pe Tryz.prog 42 S.none [.agg (zap t0),.agg (c_Ask a0)] (.tup [.sl 5 (r.1.map zac),.agg (zae r.2)]) S.none:=by
 refine PT 34 [.tmp 4,.cell 5 35] [28,35] Tryz.func42 ?_
 intro Q g hfin
 unfold tablet_Scan_v1 at hF
 refine LR0 ?_
 obtain ⟨x,h0,hF⟩:=oE hF
 rcases x with x | x
 ·have hF:=sm_l hF
  refine RJ (.b (tablet_load_okl h0) .z) ?_
  refine LR0 ?_
  obtain ⟨v,hv,hF⟩:=oE hF
  refine NmT (fun Z=>Z.up [3,5,6,7] [3,5,7] [] [] [] [(3,(c_Ask v.1)),(5,(zae v.2.1)),(7,(zae v.2.2))] [] []) ?_ ?_
  ·have hF:=hv
   refine Nif hF ?_ ?_ <;> intro hb hF
   ·obtain ⟨x1,h1,hF⟩:=lS hF
    refine RJ (.b (cell_Asked_ok h1) .z) ?_
    cases hF
    exact met' []
   ·cases hF
    exact met' []
  ·refine LR0 ?_
   obtain ⟨v1,hv,hF⟩:=oE hF
   refine NmT (fun Z=>Z.up [3,5,6,7] [3,5,7] [] [] [] [(3,(c_Ask v1.1)),(5,(zae v1.2.1)),(7,(zae v1.2.2))] [] []) ?_ ?_
   ·have hF:=hv
    refine Nif hF ?_ ?_ <;> intro hb hF
    ·cases hF
    ·cases hF
     exact met' []
   ·refine LR0 ?_
    refine Nif hF ?_ ?_ <;> intro hb hF
    ·refine LD0 ?_
     cases hF
     exact Wz [] hfin
    ·cases hF
 ·have hF:=sm_r hF
  have p1:=(Pe.ren (tablet_load_okr h0) ⟨[(49,10)],[(54,10),(143,20010),(149,40010)],[],[]⟩)
  refine RJ (.e [] [] p1 .z) ?_
  refine LR0 ?_
  obtain ⟨v,hv,hF⟩:=oE hF
  refine NmT (fun Z=>Z.up [3,5,6,7] [3,5,7,10] [10,20010,40010] [] [] [(3,(c_Ask v.1)),(5,(zae v.2.1)),(7,(zae v.2.2))] [] []) ?_ ?_
  ·have hF:=hv
   refine Nif hF ?_ ?_ <;> intro hb hF
   ·obtain ⟨x1,h2,hF⟩:=lS hF
    refine RJ (.b (cell_Asked_ok h2) .z) ?_
    cases hF
    exact met' []
   ·cases hF
    exact met' []
  ·refine LR0 ?_
   obtain ⟨v1,hv,hF⟩:=oE hF
   refine NmT (fun Z=>Z.up [3,5,6,7] [3,5,7,10] [10,20010,40010] [] [] [(3,(c_Ask v1.1)),(5,(zae v1.2.1)),(7,(zae v1.2.2))] [] []) ?_ ?_
   ·have hF:=hv
    refine Nif hF ?_ ?_ <;> intro hb hF
    ·obtain ⟨x2,h3,hF⟩:=lS hF
     refine RJ (.q [10] [10,40010,20010] (Pe.ren (tablet_tab_early_ok ((x.2.2.2.2.2.1.map zam).length) 0 true ((x.2.2.2.2.2.2.2.1.map zac).length) 0 false 0 0 true h3) ⟨[(100000,10)],[(100000,10),(100001,40010),(100002,20010)],[],[]⟩) .z) ?_
     cases hF
     exact met' []
    ·cases hF
     exact met' []
   ·refine LR0 ?_
    refine Nif hF ?_ ?_ <;> intro hb hF
    ·refine LD0 ?_
     cases hF
     exact Wz [] hfin
    ·obtain ⟨x3,h4,hF⟩:=oE hF
     have p5:=(Pe.ren (tablet_tab_all_ok ((x.2.2.2.2.2.1.map zam).length) 0 true ((x.2.2.2.2.2.2.2.1.map zac).length) 0 false 0 0 true h4) ⟨[(100000,10)],[(100000,10),(100001,40010),(100002,20010),(5,30)],[],[]⟩)
     obtain ⟨x4,h6,hF⟩:=oE hF
     have p7:=(Pe.ren (cell_Seen_ok h6) ⟨[],[(68,32)],[],[]⟩)
     refine DJ (.e [10] [10,40010,20010] p5 (.e [] [] p7 .z)) ?_
     cases hF
     exact Wz [] hfin

/- tabularylaw.TabletHalves -/
/- tablet.Check -/
def tablet_Check (t0:Tablet):Option Fault:=
 ob (tablet_load t0) fun x=>
 sm x (fun (x:Fault)=>
  some x) (fun (x:List UInt8×Int×List (List UInt8)×Int×Int×List Note×Int×List Cell×List (List Cell)×Fault)=>
  some x.2.2.2.2.2.2.2.2.2)
theorem tablet_Check_ok {t0 r} (hF:tablet_Check t0=some r):Pe Tryz.prog 43 S.none [.agg (zap t0)] (.agg (zae r)) S.none:=by
 refine PT 11 [.cell 2 35] [35] Tryz.func43 ?_
 intro Q g hfin
 unfold tablet_Check at hF
 refine LR0 ?_
 obtain ⟨x,h0,hF⟩:=oE hF
 rcases x with x | x
 ·have hF:=sm_l hF
  refine RJ (.b (tablet_load_okl h0) .z) ?_
  refine LR0 ?_
  cases hF
  exact Wz [] hfin
 ·have hF:=sm_r hF
  have p1:=(Pe.ren (tablet_load_okr h0) ⟨[(49,7)],[(54,7),(143,20007),(149,40007)],[],[]⟩)
  refine RJ (.e [] [] p1 .z) ?_
  refine LR0 ?_
  cases hF
  exact Wz [] hfin

/- slices.BinarySearchFunc[[]api.Cell,api.Cell,api.Cell] -/
def zaw (x:List Cell) (v:Cell×Int):Option (Int×Bool):=
 zan ((decide (v.2<(x.length:Int)))=true→0≤v.2∧v.2<(x.length:Int)) <|
 ob (if (decide (v.2<(x.length:Int)))=true then (cell_Order (⟨(zad x v.2).Row,(zad x v.2).Col,(zad x v.2).Time,(zad x v.2).Gone,(zad x v.2).Value⟩:Cell) v.1) else some default) fun x1=>
 some (v.2,(decide (v.2<(x.length:Int)))&&(decide (x1=0)))
def zax (x:List Cell) (v1:Cell×Int×Int):Option ((Cell×Int×Int)⊕(Int×Bool)):=
 if (decide (v1.2.1<v1.2.2))=true then
  lt (w64 (Int.fdiv (IntKind.u64.wrap (w64 (v1.2.1+v1.2.2))) (2 ^ (min (1:Int).toNat 64)))) fun v2=>
  zan (0≤v2∧v2<(x.length:Int)) <|
  ob (cell_Order (⟨(zad x v2).Row,(zad x v2).Col,(zad x v2).Time,(zad x v2).Gone,(zad x v2).Value⟩:Cell) v1.1) fun x2=>
  if (decide (x2<0))=true then
   some (Sum.inl (v1.1,w64 (v2+1),v1.2.2))
  else
   some (Sum.inl (v1.1,v1.2.1,v2))
 else
  inrO (zaw x (v1.1,v1.2.1))
def zbo (x:List Cell) (v0:Cell×Int×Int):Option (Int×Bool):=
 zbe (fun y=>zax x y) v0
def za6 (x:List Cell) (target:Cell):Option (Int×Bool):=
 zbo x (target,0,(x.length:Int))
theorem slices_BinarySearchFunc_api_Cell_api_Cell_api_Cell_ok {x target r} (hF:za6 x target=some r):Pe Tryz.prog 135 S.none [.sl 5 (x.map zac),.agg (c_Cell target),.fn 136 []] (.tup [.i r.1,.bool r.2]) S.none:=by
 refine PT 49 [.tmp 6,.tmp 7] [3,4] Tryz.func135 ?_
 intro Q g hfin
 unfold za6 at hF
 refine LR0 ?_
 refine RJ (.l zac x .z) ?_
 refine LR0 ?_
 refine NmS (fun v=>zaw x v=some r) (fun Z v=>Z.up [0,2,4,8,9] [4] [] [] [(9,.i v.2)] [(4,(c_Cell v.1))] [] []) ?_ ?_
 ·refine zcd ?_
  unfold zbo at hF
  refine Nits hF [] (fun Z v1=>Z.up [0,2,4,8,9,10] [4] [] [] [(9,.i v1.2.1),(10,.i v1.2.2)] [(4,(c_Cell v1.1))] [] []) ?_
  intro n1 v1 y1 hF ih1 dn1
  unfold zax at hF
  refine LR0 ?_
  refine Nif hF ?_ ?_ <;> intro hb hF
  ·refine zcd ?_
   refine NRL (w64 (Int.fdiv (IntKind.u64.wrap (w64 (v1.2.1+v1.2.2))) (2 ^ (min (1:Int).toNat 64)))) (fun v2:Int=>([(11,.i v2)],[],[],[])) [] [0,2,4,8,9,10,11] [4] [] [] (hc (by decide:(0:Int)≤1) .nil) (fun v2 hv=>?_)
   have hF:=lt_elim hF hv
   obtain ⟨h2,hF⟩:=aE hF
   obtain ⟨x2,h3,hF⟩:=oE hF
   refine DJ (.i zac h2 (.b (cell_Order_ok h3) .z)) ?_
   refine Nif hF ?_ ?_ <;> intro hb hF
   ·refine LR0 ?_
    exact Nrnq [] hF ih1
   ·refine LR0 ?_
    exact Nrnq [] hF ih1
  ·refine zbr rfl ?_
   have hF:=zai hF dn1
   exact metQ (v1.1,v1.2.1) [] hF
 ·intro v hF
  unfold zaw at hF
  obtain ⟨h0,hF⟩:=aE hF
  obtain ⟨x1,h1,hF⟩:=oE hF
  refine DJ (.a (.av (zac (zad x v.2))) (.g (fun (ga0:(decide (v.2<(x.length:Int)))=true)=>(idx_ok zac (h0 ga0))) (.a (.callB (.i x1)) (.g (fun (ga0:(decide (v.2<(x.length:Int)))=true)=>(cell_Order_ok (ite_t h1 ga0))) .z)))) ?_
  cases hF
  exact Wz [] hfin

/- cell.Newest -/
def cell_Newest (l:List Cell) (row col:List UInt8) (time:Int):Option (Cell×Bool):=
 ob (za6 l (⟨row,col,time,false,([]:List UInt8)⟩:Cell)) fun x=>
 zan ((decide (x.1<(l.length:Int)))=true→0≤x.1∧x.1<(l.length:Int)) <|
 zan (((decide (x.1<(l.length:Int)))&&(decide (((zad l x.1).Row)=row)))=true→0≤x.1∧x.1<(l.length:Int)) <|
 if (((decide (x.1<(l.length:Int)))&&(decide (((zad l x.1).Row)=row)))&&(decide (((zad l x.1).Col)=col)))=true then
  zan (0≤x.1∧x.1<(l.length:Int)) <|
  some ((⟨(zad l x.1).Row,(zad l x.1).Col,(zad l x.1).Time,(zad l x.1).Gone,(zad l x.1).Value⟩:Cell),true)
 else
  some ((⟨([]:List UInt8),([]:List UInt8),0,false,([]:List UInt8)⟩:Cell),false)
theorem cell_Newest_ok {l row col time r} (hF:cell_Newest l row col time=some r):Pe Tryz.prog 100 S.none [.sl 5 (l.map zac),.str row,.str col,.i time] (.tup [.agg (c_Cell r.1),.bool r.2]) S.none:=by
 refine PT 48 [.cell 8 53,.tmp 9] [53,4] Tryz.func100 ?_
 intro Q g hfin
 unfold cell_Newest at hF
 refine LR0 ?_
 obtain ⟨x,h0,hF⟩:=oE hF
 refine RJ (.b (slices_BinarySearchFunc_api_Cell_api_Cell_api_Cell_ok h0) .z) ?_
 obtain ⟨h1,h2,hF⟩:=asrt2 hF
 refine RJ (.l zac l (.a (.av (zac (zad l x.1))) (.g (fun (ga0:(decide (x.1<(l.length:Int)))=true)=>(idx_ok zac (h1 ga0))) (.a (.av (zac (zad l x.1))) (.g (fun (ga0:((decide (x.1<(l.length:Int)))&&(decide (((zad l x.1).Row)=row)))=true)=>(idx_ok zac (h2 ga0))) .z))))) ?_
 refine Nif hF ?_ ?_ <;> intro hb hF
 ·obtain ⟨h3,hF⟩:=aE hF
  refine RJ (.i zac h3 .z) ?_
  cases hF
  exact Wz [] hfin
 ·refine LR0 ?_
  cases hF
  exact Wz [] hfin

/- tablet.Get -/
def tablet_Get (t0:Tablet) (row col:List UInt8) (time:Int):Option (List UInt8×Bool×Fault):=
 ob (tablet_load t0) fun x=>
 sm x (fun (x:Fault)=>
  ob (
   if ((decide (x.Code=0))&&((decide (time<0))||(decide (1000000000<time))))=true then
    lt (zbq 3 (-1)) fun x1=>
    some ((⟨0,0⟩:Fault),x1)
   else
    some ((⟨0,0⟩:Fault),x)) fun (v:Fault×Fault)=>
  ob (
   if (decide (v.2.Code=0))=true then
    none
   else
    some (v.1,v.2)) fun v1=>
  if (!decide (v1.2.Code=0))=true then
   some (([]:List UInt8),false,v1.2)
  else
   none) (fun (x:List UInt8×Int×List (List UInt8)×Int×Int×List Note×Int×List Cell×List (List Cell)×Fault)=>
  ob (
   if ((decide (x.2.2.2.2.2.2.2.2.2.Code=0))&&((decide (time<0))||(decide (1000000000<time))))=true then
    lt (zbq 3 (-1)) fun x1=>
    some ((⟨0,0⟩:Fault),x1)
   else
    some ((⟨0,0⟩:Fault),x.2.2.2.2.2.2.2.2.2)) fun (v:Fault×Fault)=>
  ob (
   if (decide (v.2.Code=0))=true then
    lt (tablet_tab_early time x.1 x.2.1 x.2.2.1 x.2.2.2.1 x.2.2.2.2.1 x.2.2.2.2.2.2.1 x.2.2.2.2.2.1 x.2.2.2.2.2.2.2.1 x.2.2.2.2.2.2.2.2.1) fun x2=>
    some (v.1,x2)
   else
    some (v.1,v.2)) fun v1=>
  if (!decide (v1.2.Code=0))=true then
   some (([]:List UInt8),false,v1.2)
  else
   ob (tablet_tab_all x.1 x.2.1 x.2.2.1 x.2.2.2.1 x.2.2.2.2.1 x.2.2.2.2.2.2.1 x.2.2.2.2.2.1 x.2.2.2.2.2.2.2.1 x.2.2.2.2.2.2.2.2.1) fun x3=>
   ob (cell_Newest x3.1 row col time) fun x4=>
   some (x4.1.Value,x4.2&&(!x4.1.Gone),v1.2))
theorem tablet_Get_ok {t0 row col time r} (hF:tablet_Get t0 row col time=some r):Pe Tryz.prog 44 S.none [.agg (zap t0),.str row,.str col,.i time] (.tup [.str r.1,.bool r.2.1,.agg (zae r.2.2)]) S.none:=by
 refine PT 60 [.tmp 8,.tmp 9,.cell 10 35] [9,4,35] Tryz.func44 ?_
 intro Q g hfin
 unfold tablet_Get at hF
 refine LR0 ?_
 obtain ⟨x,h0,hF⟩:=oE hF
 rcases x with x | x
 ·have hF:=sm_l hF
  refine RJ (.b (tablet_load_okl h0) .z) ?_
  refine LR0 ?_
  obtain ⟨v,hv,hF⟩:=oE hF
  refine NmT (fun Z=>Z.up [1,2,3,10,11,12] [10,12] [] [] [] [(10,(zae v.1)),(12,(zae v.2))] [] []) ?_ ?_
  ·have hF:=hv
   refine Nif hF ?_ ?_ <;> intro hb hF
   ·obtain ⟨x1,h1,hF⟩:=lS hF
    refine RJ (.b (zay h1) .z) ?_
    cases hF
    exact met' []
   ·cases hF
    exact met' []
  ·refine LR0 ?_
   obtain ⟨v1,hv,hF⟩:=oE hF
   refine NmT (fun Z=>Z.up [1,2,3,10,11,12] [10,12] [] [] [] [(10,(zae v1.1)),(12,(zae v1.2))] [] []) ?_ ?_
   ·have hF:=hv
    refine Nif hF ?_ ?_ <;> intro hb hF
    ·cases hF
    ·cases hF
     exact met' []
   ·refine LR0 ?_
    refine Nif hF ?_ ?_ <;> intro hb hF
    ·refine LD0 ?_
     cases hF
     exact Wz [] hfin
    ·cases hF
 ·have hF:=sm_r hF
  have p1:=(Pe.ren (tablet_load_okr h0) ⟨[(49,17)],[(54,17),(143,20017),(149,40017)],[],[]⟩)
  refine RJ (.e [] [] p1 .z) ?_
  refine LR0 ?_
  obtain ⟨v,hv,hF⟩:=oE hF
  refine NmT (fun Z=>Z.up [1,2,3,10,11,12] [10,12,17] [17,20017,40017] [] [] [(10,(zae v.1)),(12,(zae v.2))] [] []) ?_ ?_
  ·have hF:=hv
   refine Nif hF ?_ ?_ <;> intro hb hF
   ·obtain ⟨x1,h2,hF⟩:=lS hF
    refine RJ (.b (zay h2) .z) ?_
    cases hF
    exact met' []
   ·cases hF
    exact met' []
  ·refine LR0 ?_
   obtain ⟨v1,hv,hF⟩:=oE hF
   refine NmT (fun Z=>Z.up [1,2,3,10,11,12] [10,12,17] [17,20017,40017] [] [] [(10,(zae v1.1)),(12,(zae v1.2))] [] []) ?_ ?_
   ·have hF:=hv
    refine Nif hF ?_ ?_ <;> intro hb hF
    ·obtain ⟨x2,h3,hF⟩:=lS hF
     refine RJ (.q [17] [17,40017,20017] (Pe.ren (tablet_tab_early_ok ((x.2.2.2.2.2.1.map zam).length) 0 true ((x.2.2.2.2.2.2.2.1.map zac).length) 0 false 0 0 true h3) ⟨[(100000,17)],[(100000,17),(100001,40017),(100002,20017)],[],[]⟩) .z) ?_
     cases hF
     exact met' []
    ·cases hF
     exact met' []
   ·refine LR0 ?_
    refine Nif hF ?_ ?_ <;> intro hb hF
    ·refine LD0 ?_
     cases hF
     exact Wz [] hfin
    ·obtain ⟨x3,h4,hF⟩:=oE hF
     have p5:=(Pe.ren (tablet_tab_all_ok ((x.2.2.2.2.2.1.map zam).length) 0 true ((x.2.2.2.2.2.2.2.1.map zac).length) 0 false 0 0 true h4) ⟨[(100000,17)],[(100000,17),(100001,40017),(100002,20017),(5,44)],[],[]⟩)
     obtain ⟨x4,h6,hF⟩:=oE hF
     refine RJ (.e [17] [17,40017,20017] p5 (.b (cell_Newest_ok h6) .z)) ?_
     refine LD0 ?_
     cases hF
     exact Wz [] hfin

/- tabularyref.SeenCell -/
def R_SeenCell_J1 (l:List Cell) (v:Cell×Int):Option (Cell×Bool):=
 zan ((!(decide (v.2<0)))=true→0≤v.2∧v.2<(l.length:Int)) <|
 if ((decide (v.2<0))||((zad l v.2).Gone))=true then
  some ((⟨([]:List UInt8),([]:List UInt8),0,false,([]:List UInt8)⟩:Cell),false)
 else
  zan (0≤v.2∧v.2<(l.length:Int)) <|
  some ((⟨(zad l v.2).Row,(zad l v.2).Col,(zad l v.2).Time,(zad l v.2).Gone,(zad l v.2).Value⟩:Cell),true)
def R_SeenCell_B1 (l:List Cell) (row col:List UInt8) (time:Int) (v1:Cell×Int×Int):Option ((Cell×Int×Int)⊕(Cell×Bool)):=
 if (decide (v1.2.2<(l.length:Int)))=true then
  zan (0≤v1.2.2∧v1.2.2<(l.length:Int)) <|
  zan ((decide (((zad l v1.2.2).Row)=row))=true→0≤v1.2.2∧v1.2.2<(l.length:Int)) <|
  zan (((decide (((zad l v1.2.2).Row)=row))&&(decide (((zad l v1.2.2).Col)=col)))=true→0≤v1.2.2∧v1.2.2<(l.length:Int)) <|
  zan ((!(decide (v1.2.1<0)))=true→(((decide (((zad l v1.2.2).Row)=row))&&(decide (((zad l v1.2.2).Col)=col)))&&(decide (((zad l v1.2.2).Time)≤time)))=true→0≤v1.2.2∧v1.2.2<(l.length:Int)) <|
  zan ((!(decide (v1.2.1<0)))=true→(((decide (((zad l v1.2.2).Row)=row))&&(decide (((zad l v1.2.2).Col)=col)))&&(decide (((zad l v1.2.2).Time)≤time)))=true→0≤v1.2.1∧v1.2.1<(l.length:Int)) <|
  ob (
   if ((((decide (((zad l v1.2.2).Row)=row))&&(decide (((zad l v1.2.2).Col)=col)))&&(decide (((zad l v1.2.2).Time)≤time)))&&((decide (v1.2.1<0))||(decide (((zad l v1.2.1).Time)<((zad l v1.2.2).Time)))))=true then
    some (v1.1,v1.2.2)
   else
    some (v1.1,v1.2.1)) fun v2=>
  some (Sum.inl (v2.1,v2.2,w64 (v1.2.2+1)))
 else
  inrO (R_SeenCell_J1 l (v1.1,v1.2.1))
def R_SeenCell_L1 (l:List Cell) (row col:List UInt8) (time:Int) (v0:Cell×Int×Int):Option (Cell×Bool):=
 zbe (fun y=>R_SeenCell_B1 l row col time y) v0
def R_SeenCell (l:List Cell) (row col:List UInt8) (time:Int):Option (Cell×Bool):=
 R_SeenCell_L1 l row col time ((⟨([]:List UInt8),([]:List UInt8),0,false,([]:List UInt8)⟩:Cell),(-1),0)
theorem R_SeenCell_ok {l row col time r} (hF:R_SeenCell l row col time=some r):Pe Tryz.prog 45 S.none [.sl 5 (l.map zac),.str row,.str col,.i time] (.tup [.agg (c_Cell r.1),.bool r.2]) S.none:=by
 refine PT 75 [.cell 8 53,.tmp 9] [53,4] Tryz.func45 ?_
 intro Q g hfin
 unfold R_SeenCell at hF
 refine LR0 ?_
 refine LR0 ?_
 refine LR0 ?_
 refine NmS (fun v=>R_SeenCell_J1 l v=some r) (fun Z v=>Z.up [0,8,10] [8] [] [] [(10,.i v.2)] [(8,(c_Cell v.1))] [] []) ?_ ?_
 ·refine zcd ?_
  unfold R_SeenCell_L1 at hF
  refine Nits hF [] (fun Z v1=>Z.up [0,1,2,3,8,10,11] [8] [] [] [(10,.i v1.2.1),(11,.i v1.2.2)] [(8,(c_Cell v1.1))] [] []) ?_
  intro n1 v1 y1 hF ih1 dn1
  unfold R_SeenCell_B1 at hF
  refine RJ (.l zac l .z) ?_
  refine Nif hF ?_ ?_ <;> intro hb hF
  ·refine zcd ?_
   obtain ⟨h2,h3,h4,h5,hF⟩:=asrt4 hF
   obtain ⟨h6,hF⟩:=aE hF
   refine DJ (.i zac h2 (.a (.av (zac (zad l v1.2.2))) (.g (fun (ga0:(decide (((zad l v1.2.2).Row)=row))=true)=>(idx_ok zac (h3 ga0))) (.a (.av (zac (zad l v1.2.2))) (.g (fun (ga0:((decide (((zad l v1.2.2).Row)=row))&&(decide (((zad l v1.2.2).Col)=col)))=true)=>(idx_ok zac (h4 ga0))) (.a (.av (zac (zad l v1.2.2))) (.g (fun (ga0:(!(decide (v1.2.1<0)))=true) (ga1:(((decide (((zad l v1.2.2).Row)=row))&&(decide (((zad l v1.2.2).Col)=col)))&&(decide (((zad l v1.2.2).Time)≤time)))=true)=>(idx_ok zac (h5 ga0 ga1))) (.a (.av (zac (zad l v1.2.1))) (.g (fun (ga0:(!(decide (v1.2.1<0)))=true) (ga1:(((decide (((zad l v1.2.2).Row)=row))&&(decide (((zad l v1.2.2).Col)=col)))&&(decide (((zad l v1.2.2).Time)≤time)))=true)=>(idx_ok zac (h6 ga0 ga1))) .z))))))))) ?_
   obtain ⟨v2,hv,hF⟩:=oE hF
   refine NmT (fun Z=>Z.up [0,1,2,3,8,10,11] [8] [] [] [(10,.i v2.2)] [(8,(c_Cell v2.1))] [] []) ?_ ?_
   ·have hF:=hv
    refine Nif hF ?_ ?_ <;> intro hb hF
    ·refine LR0 ?_
     cases hF
     exact met' []
    ·cases hF
     exact met' []
   ·refine LR0 ?_
    exact Nrnq [] hF ih1
  ·refine zbr rfl ?_
   have hF:=zai hF dn1
   exact metQ (v1.1,v1.2.1) [] hF
 ·intro v hF
  unfold R_SeenCell_J1 at hF
  obtain ⟨h0,hF⟩:=aE hF
  refine RJ (.a (.av (zac (zad l v.2))) (.g (fun (ga0:(!(decide (v.2<0)))=true)=>(idx_ok zac (h0 ga0))) .z)) ?_
  refine Nif hF ?_ ?_ <;> intro hb hF
  ·refine LR0 ?_
   cases hF
   exact Wz [] hfin
  ·obtain ⟨h1,hF⟩:=aE hF
   refine RJ (.i zac h1 .z) ?_
   cases hF
   exact Wz [] hfin

/- tabularyref.AskFault -/
def R_AskFault (a0:Ask):Fault:=
 if ((decide (a0.Time<0))||(decide (1000000000<a0.Time)))=true then
  lt (R_F 3 (-1)) fun x=>
  x
 else
  if ((decide (a0.Many<0))||(decide (1000<a0.Many)))=true then
   lt (R_F 3 (-2)) fun x1=>
   x1
  else
   (⟨0,0⟩:Fault)
theorem R_AskFault_ok {a0 r} (hF:R_AskFault a0=r):Pe Tryz.prog 46 S.none [.agg (c_Ask a0)] (.agg (zae r)) S.none:=by
 refine PT 22 [.cell 2 35] [35] Tryz.func46 ?_
 intro Q g hfin
 unfold R_AskFault at hF
 refine LR0 ?_
 refine LR0 ?_
 refine Nif hF ?_ ?_ <;> intro hb hF
 ·obtain ⟨x,h0,hF⟩:=lS hF
  refine RJ (.b (R_F_ok h0) .z) ?_
  cases hF
  exact Wz [] hfin
 ·refine LR0 ?_
  refine Nif hF ?_ ?_ <;> intro hb hF
  ·obtain ⟨x1,h1,hF⟩:=lS hF
   refine RJ (.b (R_F_ok h1) .z) ?_
   cases hF
   exact Wz [] hfin
  ·refine LR0 ?_
   cases hF
   exact Wz [] hfin

/- tabularyref.Scanned -/
def R_Scanned_v1_J1 (v:List Cell):Option (List Cell):=
 some v
def R_Scanned_v1_B1 (l:List Cell) (v1:Ask×List Cell×Int):Option ((Ask×List Cell×Int)⊕(List Cell)):=
 if ((decide (v1.2.2<(l.length:Int)))&&(decide ((v1.2.1.length:Int)<v1.1.Many)))=true then
  ob (
   zan (0≤v1.2.2∧v1.2.2<(l.length:Int)) <|
   if ((Op.bytesLess ((zad l v1.2.2).Row) v1.1.From)||((!decide (v1.1.To=([]:List UInt8)))&&(!Op.bytesLess ((zad l v1.2.2).Row) v1.1.To)))=true then
    some (v1.1,v1.2.1)
   else
    ob (R_SeenCell l ((zad l v1.2.2).Row) ((zad l v1.2.2).Col) v1.1.Time) fun x=>
    if (x.2&&(decide (x.1.Row=(zad l v1.2.2).Row)&&(decide (x.1.Col=(zad l v1.2.2).Col)&&(decide (x.1.Time=(zad l v1.2.2).Time)&&((x.1.Gone == ((zad l v1.2.2).Gone))&&(decide (x.1.Value=(zad l v1.2.2).Value)&&true))))))=true then
     zan (((v1.2.1++[(⟨(zad l v1.2.2).Row,(zad l v1.2.2).Col,(zad l v1.2.2).Time,(zad l v1.2.2).Gone,(zad l v1.2.2).Value⟩:Cell)]).length:Int)*64≤140737488351232) <|
     lt ((v1.2.1++[(⟨(zad l v1.2.2).Row,(zad l v1.2.2).Col,(zad l v1.2.2).Time,(zad l v1.2.2).Gone,(zad l v1.2.2).Value⟩:Cell)])) fun v3=>
     some (v1.1,v3)
    else
     some (v1.1,v1.2.1)) fun v2=>
  some (Sum.inl (v2.1,v2.2,w64 (v1.2.2+1)))
 else
  inrO (R_Scanned_v1_J1 v1.2.1)
def R_Scanned_v1_L1 (l:List Cell) (v0:Ask×List Cell×Int):Option (List Cell):=
 zbe (fun y=>R_Scanned_v1_B1 l y) v0
def R_Scanned_v1 (l:List Cell) (a0:Ask):Option (List Cell):=
 R_Scanned_v1_L1 l (a0,([]:List Cell),0)
theorem R_Scanned_v1_ok {l a0 r} (hF:R_Scanned_v1 l a0=some r):Pe Tryz.prog 49 S.none [.sl 5 (l.map zac),.agg (c_Ask a0)] (.sl 5 (r.map zac)) S.none:=by
 refine PT 66 [.tmp 4] [28] Tryz.func49 ?_
 intro Q g hfin
 unfold R_Scanned_v1 at hF
 refine LR0 ?_
 refine LR0 ?_
 refine VR [] [0,3,5,6] [3] [] [] [(0,.sl 5 (l.map zac)),(3,.ptr 3 0),(5,.nils),(6,.i 0)] [(3,(c_Ask a0))] [] [] .nil ?_
 refine NmQ (fun v=>R_Scanned_v1_J1 v=some r) (fun v=>⟨[(5,.row 64 0)],[],[(64,.z 53 5 0 (v.map zac))],[],[]⟩) ?_ ?_
 ·refine zcd ?_
  unfold R_Scanned_v1_L1 at hF
  refine zao 5 60000 53 5 rfl rfl rfl ?_
  refine Wk_trim (fs:=[0,3,5,6]) (bs:=[3]) (rs:=[60000]) (ms:=[]) (aa:=[]) (nv:=[]) rfl ?_
  refine zat ⟨[],[(60000,64)],[],[]⟩ rfl ?_
  refine Nitr hF [] (fun v1=>⟨[(0,.sl 5 (l.map zac)),(3,.ptr 3 0),(5,.row 64 0),(6,.i v1.2.2)],[(3,(c_Ask v1.1))],[(64,.z 53 5 0 (v1.2.1.map zac))],[],[]⟩) ?_
  intro n1 v1 y1 hF ih1 dn1
  unfold R_Scanned_v1_B1 at hF
  refine RJ (.l zac l (.a (.nat (v1.2.1.length:Int)) (.g (fun (_:(decide (v1.2.2<(l.length:Int)))=true)=>(len_ok zac v1.2.1)) .z))) ?_
  refine Nif hF ?_ ?_ <;> intro hb hF
  ·obtain ⟨v2,hv,hF⟩:=oE hF
   refine NmT (fun Z=>Z.up [0,3,5,6] [3] [64] [] [] [(3,(c_Ask v2.1))] [(64,.z 53 5 0 (v2.2.map zac))] []) ?_ ?_
   ·have hF:=hv
    refine zcd ?_
    obtain ⟨h0,hF⟩:=aE hF
    refine RJ (.i zac h0 .z) ?_
    refine LR0 ?_
    refine Nif hF ?_ ?_ <;> intro hb hF
    ·refine zbr rfl ?_
     cases hF
     exact met' []
    ·obtain ⟨x,h1,hF⟩:=oE hF
     refine RJ (.b (R_SeenCell_ok h1) .z) ?_
     refine LR0 ?_
     refine Nif hF ?_ ?_ <;> intro hb hF
     ·obtain ⟨h2,hF⟩:=aE hF
      obtain ⟨v3,hv,hF⟩:=lS hF
      refine RJ (.a (.sealed) (.pN zac hv h2 .z)) ?_
      cases hF
      exact met' [(64,⟨0,true,true,false⟩)]
     ·cases hF
      exact met' []
   ·refine LR0 ?_
    exact Nrnq [] hF ih1
  ·refine zbr rfl ?_
   have hF:=zai hF dn1
   exact metQ v1.2.1 [] hF
 ·intro v hF
  unfold R_Scanned_v1_J1 at hF
  refine LR0 ?_
  cases hF
  exact Wz [] hfin

/- tabularylaw.TabletAsks$1 -/
def law_TabletAsks_1 (box:Inside) (box1:Ask):Option (List Cell):=
 ob (R_Scanned_v1 box.All box1) fun x=>
 some x
theorem law_TabletAsks_1_ok {box box1 r} (hF:law_TabletAsks_1 box box1=some r):Pe Tryz.prog 48 ⟨[],[(100000,(c_Inside box)),(100001,(c_Ask box1))],[],[],[]⟩ [.ptr 100000 0,.ptr 100001 0] (.sl 5 (r.map zac)) ⟨[],[(100000,(c_Inside box)),(100001,(c_Ask box1))],[],[],[]⟩:=by
 refine PT 7 [.tmp 2] [28] Tryz.func48 ?_
 intro Q g hfin
 unfold law_TabletAsks_1 at hF
 refine LR0 ?_
 obtain ⟨x,h0,hF⟩:=oE hF
 refine RJ (.c (R_Scanned_v1_ok h0) .z) ?_
 cases hF
 exact Wz [] hfin

/- tabularylaw.cellsAs -/
def law_cellsAs (l:List Cell) (f w0:Fault) (box:Inside) (box1:Ask):Option Bool:=
 if (!(decide (f.Code=w0.Code)&&(decide (f.At=w0.At)&&true)))=true then
  some false
 else
  if (!decide (w0.Code=0))=true then
   some (decide ((l.length:Int)=0))
  else
   ob (law_TabletAsks_1 box box1) fun x=>
   ob (R_SameCells l x) fun x1=>
   some x1
theorem law_cellsAs_ok {l f w0 box box1 r} (hF:law_cellsAs l f w0 box box1=some r):Pe Tryz.prog 47 ⟨[],[(100000,(c_Inside box)),(100001,(c_Ask box1))],[],[],[]⟩ [.sl 5 (l.map zac),.agg (zae f),.agg (zae w0),.fn 48 [.ptr 100000 0,.ptr 100001 0]] (.bool r) ⟨[],[(100000,(c_Inside box)),(100001,(c_Ask box1))],[],[],[]⟩:=by
 refine PT 22 [.tmp 8] [4] Tryz.func47 ?_
 intro Q g hfin
 unfold law_cellsAs at hF
 refine LR0 ?_
 refine LR0 ?_
 refine Nif hF ?_ ?_ <;> intro hb hF
 ·refine LR0 ?_
  cases hF
  exact Wz [] hfin
 ·refine LR0 ?_
  refine Nif hF ?_ ?_ <;> intro hb hF
  ·refine RJ (.l zac l .z) ?_
   cases hF
   exact Wz [] hfin
  ·obtain ⟨x,h0,hF⟩:=oE hF
   obtain ⟨x1,h1,hF⟩:=oE hF
   refine RJ (.q [100000,100001] [] (Pe.ren (law_TabletAsks_1_ok h0) ⟨[],[],[],[]⟩) (.b (R_SameCells_ok h1) .z)) ?_
   cases hF
   exact Wz [] hfin

/- tabularyref.RowsOf -/
def R_RowsOf_v1_J1 (v:List (List UInt8)):Option (List (List UInt8)):=
 some v
def R_RowsOf_v1_B1 (l:List Cell) (v1:List (List UInt8)×Int):Option ((List (List UInt8)×Int)⊕(List (List UInt8))):=
 if (decide (v1.2<(l.length:Int)))=true then
  zan ((!(decide ((v1.1.length:Int)=0)))=true→0≤w64 ((v1.1.length:Int) - 1)∧w64 ((v1.1.length:Int) - 1)<(v1.1.length:Int)) <|
  zan ((!(decide ((v1.1.length:Int)=0)))=true→0≤w64 ((v1.1.length:Int) - 1)∧w64 ((v1.1.length:Int) - 1)<(v1.1.length:Int)) <|
  zan ((!(decide ((v1.1.length:Int)=0)))=true→0≤v1.2∧v1.2<(l.length:Int)) <|
  ob (
   if ((decide ((v1.1.length:Int)=0))||(!decide ((zad v1.1 (w64 ((v1.1.length:Int) - 1)))=((zad l v1.2).Row))))=true then
    zan (0≤v1.2∧v1.2<(l.length:Int)) <|
    zan (((v1.1++([(zad l v1.2).Row]:List (List UInt8))).length:Int)*16≤140737488351232) <|
    some (v1.1++([(zad l v1.2).Row]:List (List UInt8)))
   else
    some v1.1) fun v2=>
  some (Sum.inl (v2,w64 (v1.2+1)))
 else
  inrO (R_RowsOf_v1_J1 v1.1)
def R_RowsOf_v1_L1 (l:List Cell) (v0:List (List UInt8)×Int):Option (List (List UInt8)):=
 zbe (fun y=>R_RowsOf_v1_B1 l y) v0
def R_RowsOf_v1 (l:List Cell):Option (List (List UInt8)):=
 R_RowsOf_v1_L1 l (([]:List (List UInt8)),0)
theorem R_RowsOf_v1_ok {l r} (hF:R_RowsOf_v1 l=some r):Pe Tryz.prog 50 S.none [.sl 5 (l.map zac)] (.sl 1 (r.map zbs)) S.none:=by
 refine PT 38 [.tmp 2] [86] Tryz.func50 ?_
 intro Q g hfin
 unfold R_RowsOf_v1 at hF
 refine LR0 ?_
 refine LR0 ?_
 refine NR [] [0,3,4] [] [] [(0,.sl 5 (l.map zac)),(3,.nils),(4,.i 0)] .nil ?_
 refine NmQ (fun v=>R_RowsOf_v1_J1 v=some r) (fun v=>⟨[(3,.row 36 0)],[],[(36,.z 9 1 0 (v.map zbs))],[],[]⟩) ?_ ?_
 ·refine zcd ?_
  unfold R_RowsOf_v1_L1 at hF
  refine zao 3 60000 9 1 rfl rfl rfl ?_
  refine Wk_trim (fs:=[0,3,4]) (bs:=[]) (rs:=[60000]) (ms:=[]) (aa:=[]) (nv:=[]) rfl ?_
  refine zat ⟨[],[(60000,36)],[],[]⟩ rfl ?_
  refine Nitr hF [] (fun v1=>⟨[(0,.sl 5 (l.map zac)),(3,.row 36 0),(4,.i v1.2)],[],[(36,.z 9 1 0 (v1.1.map zbs))],[],[]⟩) ?_
  intro n1 v1 y1 hF ih1 dn1
  unfold R_RowsOf_v1_B1 at hF
  refine RJ (.l zac l .z) ?_
  refine Nif hF ?_ ?_ <;> intro hb hF
  ·refine zcd ?_
   refine RJ (.l zbs v1.1 .z) ?_
   obtain ⟨h0,h1,hF⟩:=asrt2 hF
   obtain ⟨h2,hF⟩:=aE hF
   refine DJ (.g (fun (ga0:(!(decide ((v1.1.length:Int)=0)))=true)=>(ixr_ok zbs (h0 ga0))) (.a (.av (zbs (zad v1.1 (w64 ((v1.1.length:Int) - 1))))) (.g (fun (ga0:(!(decide ((v1.1.length:Int)=0)))=true)=>(ldr_ok zbs (h1 ga0))) (.a (.av (zac (zad l v1.2))) (.g (fun (ga0:(!(decide ((v1.1.length:Int)=0)))=true)=>(idx_ok zac (h2 ga0))) .z))))) ?_
   obtain ⟨v2,hv,hF⟩:=oE hF
   refine NmT (fun Z=>Z.up [0,3,4] [] [36] [] [] [] [(36,.z 9 1 0 (v2.map zbs))] []) ?_ ?_
   ·have hF:=hv
    refine Nif hF ?_ ?_ <;> intro hb hF
    ·obtain ⟨h3,hF⟩:=aE hF
     obtain ⟨h4,hF⟩:=aE hF
     refine RJ (.i zac h3 (.a (.sealed) (.p zbs h4 .z))) ?_
     cases hF
     exact met' [(36,⟨0,true,true,false⟩)]
    ·cases hF
     exact met' []
   ·refine LR0 ?_
    exact Nrnq [] hF ih1
  ·refine zbr rfl ?_
   have hF:=zai hF dn1
   exact metQ v1.1 [] hF
 ·intro v hF
  unfold R_RowsOf_v1_J1 at hF
  refine LR0 ?_
  cases hF
  exact Wz [] hfin

/- tabularylaw.TabletAsks -/
def law_TabletAsks (t0:Tablet) (row col:List UInt8) (time:Int) (a0:Ask):Option Bool:=
 ob (law_tabletBegun) fun x=>
 if (!x)=true then
  some false
 else
  ob (law_vastTablet t0) fun x1=>
  if x1=true then
   some true
  else
   ob (law_ownTablet t0) fun x2=>
   ob (tablet_Check x2) fun x3=>
   ob (tablet_Get x2 row col time) fun x4=>
   ob (tablet_Scan_v1 x2 a0) fun x5=>
   ob (tablet_Halve x2) fun x6=>
   ob (R_InsideOf_v1 t0) fun x7=>
   ob (if (!(!(decide (x3.Code=x7.2.Code)&&(decide (x3.At=x7.2.At)&&true))))=true then (R_SameTablet x2 t0) else some default) fun x8=>
   if ((!(decide (x3.Code=x7.2.Code)&&(decide (x3.At=x7.2.At)&&true)))||(!x8))=true then
    some false
   else
    ob (
     if ((decide (x7.2.Code=0))&&((decide (time<0))||(decide (1000000000<time))))=true then
      lt (R_F 3 (-1)) fun x9=>
      some (t0,a0,x4.2.2,x5.2,x6.2,x7.1,x7.2,x9)
     else
      some (t0,a0,x4.2.2,x5.2,x6.2,x7.1,x7.2,x7.2)) fun (v:Tablet×Ask×Fault×Fault×Fault×Inside×Fault×Fault)=>
    ob (
     if ((decide (v.2.2.2.2.2.2.2.Code=0))&&(decide (time<v.1.Since)))=true then
      lt (R_F 12 (-1)) fun x10=>
      some (v.1,v.2.1,v.2.2.1,v.2.2.2.1,v.2.2.2.2.1,v.2.2.2.2.2.1,v.2.2.2.2.2.2.1,x10)
     else
      some (v.1,v.2.1,v.2.2.1,v.2.2.2.1,v.2.2.2.2.1,v.2.2.2.2.2.1,v.2.2.2.2.2.2.1,v.2.2.2.2.2.2.2)) fun (v1:Tablet×Ask×Fault×Fault×Fault×Inside×Fault×Fault)=>
    ob (R_SeenCell v1.2.2.2.2.2.1.All row col time) fun x11=>
    ob (
     if (!decide (v1.2.2.2.2.2.2.2.Code=0))=true then
      some (v1.1,v1.2.1,v1.2.2.1,v1.2.2.2.1,v1.2.2.2.2.1,v1.2.2.2.2.2.1,v1.2.2.2.2.2.2.1,v1.2.2.2.2.2.2.2,(⟨([]:List UInt8),([]:List UInt8),0,false,([]:List UInt8)⟩:Cell),false)
     else
      some (v1.1,v1.2.1,v1.2.2.1,v1.2.2.2.1,v1.2.2.2.2.1,v1.2.2.2.2.2.1,v1.2.2.2.2.2.2.1,v1.2.2.2.2.2.2.2,x11.1,x11.2)) fun (v2:Tablet×Ask×Fault×Fault×Fault×Inside×Fault×Fault×Cell×Bool)=>
    if (((!(decide (v2.2.2.1.Code=v2.2.2.2.2.2.2.2.1.Code)&&(decide (v2.2.2.1.At=v2.2.2.2.2.2.2.2.1.At)&&true)))||(!decide (x4.1=v2.2.2.2.2.2.2.2.2.1.Value)))||(!(x4.2.1 == v2.2.2.2.2.2.2.2.2.2)))=true then
     some false
    else
     ob (
      if (decide (v2.2.2.2.2.2.2.1.Code=0))=true then
       lt (R_AskFault v2.2.1) fun x12=>
       some (v2.1,v2.2.1,v2.2.2.2.1,v2.2.2.2.2.1,v2.2.2.2.2.2.1,v2.2.2.2.2.2.2.1,x12)
      else
       some (v2.1,v2.2.1,v2.2.2.2.1,v2.2.2.2.2.1,v2.2.2.2.2.2.1,v2.2.2.2.2.2.2.1,v2.2.2.2.2.2.2.1)) fun v3=>
     ob (
      if ((decide (v3.2.2.2.2.2.2.Code=0))&&(decide (v3.2.1.Time<v3.1.Since)))=true then
       lt (R_F 12 (-1)) fun x13=>
       some (v3.2.1,v3.2.2.1,v3.2.2.2.1,v3.2.2.2.2.1,v3.2.2.2.2.2.1,x13)
      else
       some (v3.2.1,v3.2.2.1,v3.2.2.2.1,v3.2.2.2.2.1,v3.2.2.2.2.2.1,v3.2.2.2.2.2.2)) fun (v4:Ask×Fault×Fault×Inside×Fault×Fault)=>
     ob (law_cellsAs x5.1 v4.2.1 v4.2.2.2.2.2 v4.2.2.2.1 v4.1) fun x14=>
     if (!x14)=true then
      some false
     else
      ob (R_RowsOf_v1 v4.2.2.2.1.All) fun x15=>
      ob (
       if ((decide (v4.2.2.2.2.1.Code=0))&&(decide ((x15.length:Int)<2)))=true then
        lt (R_F 6 0) fun x16=>
        some (v4.2.2.1,x16)
       else
        some (v4.2.2.1,v4.2.2.2.2.1)) fun v5=>
      if (!decide (v5.2.Code=0))=true then
       lt ((decide (v5.1.Code=v5.2.Code)&&(decide (v5.1.At=v5.2.At)&&true))&&(decide (x6.1=([]:List UInt8)))) fun v6=>
       some v6
      else
       zan ((decide (v5.1.Code=0))=true→0≤w64 (Int.tdiv (x15.length:Int) 2)∧w64 (Int.tdiv (x15.length:Int) 2)<(x15.length:Int)) <|
       lt ((decide (v5.1.Code=0))&&(decide (x6.1=(zad x15 (w64 (Int.tdiv (x15.length:Int) 2)))))) fun v7=>
       some v7
theorem law_TabletAsks_ok {t0 row col time a0 r} (hF:law_TabletAsks t0 row col time a0=some r):Pe Tryz.prog 5 S.none [.agg (zap t0),.str row,.str col,.i time,.agg (c_Ask a0)] (.bool r) S.none:=by
 refine PT 177 [.tmp 10] [4] Tryz.func5 ?_
 intro Q g hfin
 unfold law_TabletAsks at hF
 refine LR0 ?_
 obtain ⟨x,h0,hF⟩:=oE hF
 refine RJ (.b (law_tabletBegun_ok h0) .z) ?_
 refine Nif hF ?_ ?_ <;> intro hb hF
 ·refine LR0 ?_
  cases hF
  exact Wz [] hfin
 ·obtain ⟨x1,h1,hF⟩:=oE hF
  refine RJ (.b (law_vastTablet_ok h1) .z) ?_
  refine Nif hF ?_ ?_ <;> intro hb hF
  ·refine LR0 ?_
   cases hF
   exact Wz [] hfin
  ·obtain ⟨x2,h2,hF⟩:=oE hF
   refine RJ (.c (law_ownTablet_ok h2) .z) ?_
   obtain ⟨x3,h3,hF⟩:=oE hF
   refine RJ (.b (tablet_Check_ok h3) .z) ?_
   obtain ⟨x4,h4,hF⟩:=oE hF
   refine RJ (.b (tablet_Get_ok h4) .z) ?_
   obtain ⟨x5,h5,hF⟩:=oE hF
   refine RJ (.c (tablet_Scan_v1_ok h5) .z) ?_
   obtain ⟨x6,h6,hF⟩:=oE hF
   refine RJ (.b (tablet_Halve_ok h6) .z) ?_
   obtain ⟨x7,h7,hF⟩:=oE hF
   refine RJ (.c (R_InsideOf_v1_ok h7) .z) ?_
   obtain ⟨x8,h8,hF⟩:=oE hF
   refine RJ (.a (.callB (.bool x8)) (.g (fun (ga0:(!(!(decide (x3.Code=x7.2.Code)&&(decide (x3.At=x7.2.At)&&true))))=true)=>(R_SameTablet_ok (ite_t h8 ga0))) .z)) ?_
   refine Nif hF ?_ ?_ <;> intro hb hF
   ·refine LR0 ?_
    cases hF
    exact Wz [] hfin
   ·refine LR0 ?_
    refine LR0 ?_
    obtain ⟨v,hv,hF⟩:=oE hF
    refine NmT (fun Z=>Z.up [1,2,3,5,9,13,14,15,16,17,18,19,20,21,22] [5,9,15,17,19,20,21,22] [] [] [] [(5,(zap v.1)),(9,(c_Ask v.2.1)),(15,(zae v.2.2.1)),(17,(zae v.2.2.2.1)),(19,(zae v.2.2.2.2.1)),(20,(c_Inside v.2.2.2.2.2.1)),(21,(zae v.2.2.2.2.2.2.1)),(22,(zae v.2.2.2.2.2.2.2))] [] []) ?_ ?_
    ·have hF:=hv
     refine Nif hF ?_ ?_ <;> intro hb hF
     ·obtain ⟨x9,h9,hF⟩:=lS hF
      refine RJ (.b (R_F_ok h9) .z) ?_
      cases hF
      exact met' []
     ·cases hF
      exact met' []
    ·refine LR0 ?_
     obtain ⟨v1,hv,hF⟩:=oE hF
     refine NmT (fun Z=>Z.up [1,2,3,5,9,13,14,15,16,17,18,19,20,21,22] [5,9,15,17,19,20,21,22] [] [] [] [(5,(zap v1.1)),(9,(c_Ask v1.2.1)),(15,(zae v1.2.2.1)),(17,(zae v1.2.2.2.1)),(19,(zae v1.2.2.2.2.1)),(20,(c_Inside v1.2.2.2.2.2.1)),(21,(zae v1.2.2.2.2.2.2.1)),(22,(zae v1.2.2.2.2.2.2.2))] [] []) ?_ ?_
     ·have hF:=hv
      refine Nif hF ?_ ?_ <;> intro hb hF
      ·obtain ⟨x10,h10,hF⟩:=lS hF
       refine RJ (.b (R_F_ok h10) .z) ?_
       cases hF
       exact met' []
      ·cases hF
       exact met' []
     ·obtain ⟨x11,h11,hF⟩:=oE hF
      refine RJ (.b (R_SeenCell_ok h11) .z) ?_
      refine LR0 ?_
      obtain ⟨v2,hv,hF⟩:=oE hF
      refine NmT (fun Z=>Z.up [5,9,13,14,15,16,17,18,19,20,21,22,23,24] [5,9,15,17,19,20,21,22,23] [] [] [(24,.bool v2.2.2.2.2.2.2.2.2.2)] [(5,(zap v2.1)),(9,(c_Ask v2.2.1)),(15,(zae v2.2.2.1)),(17,(zae v2.2.2.2.1)),(19,(zae v2.2.2.2.2.1)),(20,(c_Inside v2.2.2.2.2.2.1)),(21,(zae v2.2.2.2.2.2.2.1)),(22,(zae v2.2.2.2.2.2.2.2.1)),(23,(c_Cell v2.2.2.2.2.2.2.2.2.1))] [] []) ?_ ?_
      ·have hF:=hv
       refine Nif hF ?_ ?_ <;> intro hb hF
       ·refine LR0 ?_
        cases hF
        exact met' []
       ·cases hF
        exact met' []
      ·refine LR0 ?_
       refine Nif hF ?_ ?_ <;> intro hb hF
       ·refine LR0 ?_
        cases hF
        exact Wz [] hfin
       ·refine LR0 ?_
        refine LR0 ?_
        obtain ⟨v3,hv,hF⟩:=oE hF
        refine NmT (fun Z=>Z.up [5,9,16,17,18,19,20,21,22] [5,9,17,19,20,21,22] [] [] [] [(5,(zap v3.1)),(9,(c_Ask v3.2.1)),(17,(zae v3.2.2.1)),(19,(zae v3.2.2.2.1)),(20,(c_Inside v3.2.2.2.2.1)),(21,(zae v3.2.2.2.2.2.1)),(22,(zae v3.2.2.2.2.2.2))] [] []) ?_ ?_
        ·have hF:=hv
         refine Nif hF ?_ ?_ <;> intro hb hF
         ·obtain ⟨x12,h12,hF⟩:=lS hF
          refine RJ (.b (R_AskFault_ok h12) .z) ?_
          cases hF
          exact met' []
         ·cases hF
          exact met' []
        ·refine LR0 ?_
         obtain ⟨v4,hv,hF⟩:=oE hF
         refine NmT (fun Z=>Z.up [9,16,17,18,19,20,21,22] [9,17,19,20,21,22] [] [] [] [(9,(c_Ask v4.1)),(17,(zae v4.2.1)),(19,(zae v4.2.2.1)),(20,(c_Inside v4.2.2.2.1)),(21,(zae v4.2.2.2.2.1)),(22,(zae v4.2.2.2.2.2))] [] []) ?_ ?_
         ·have hF:=hv
          refine Nif hF ?_ ?_ <;> intro hb hF
          ·obtain ⟨x13,h13,hF⟩:=lS hF
           refine RJ (.b (R_F_ok h13) .z) ?_
           cases hF
           exact met' []
          ·cases hF
           exact met' []
         ·obtain ⟨x14,h14,hF⟩:=oE hF
          refine RJ (.q [20,9] [] (Pe.ren (law_cellsAs_ok h14) ⟨[(100000,20),(100001,9)],[],[],[]⟩) .z) ?_
          refine Nif hF ?_ ?_ <;> intro hb hF
          ·refine LR0 ?_
           cases hF
           exact Wz [] hfin
          ·obtain ⟨x15,h15,hF⟩:=oE hF
           refine RJ (.c (R_RowsOf_v1_ok h15) .z) ?_
           refine LR0 ?_
           refine RJ (.a (.nat (x15.length:Int)) (.g (fun (_:(decide (v4.2.2.2.2.1.Code=0))=true)=>(len_ok zbs x15)) .z)) ?_
           obtain ⟨v5,hv,hF⟩:=oE hF
           refine NmT (fun Z=>Z.up [18,19,22,25] [19,22] [] [] [] [(19,(zae v5.1)),(22,(zae v5.2))] [] []) ?_ ?_
           ·have hF:=hv
            refine Nif hF ?_ ?_ <;> intro hb hF
            ·obtain ⟨x16,h16,hF⟩:=lS hF
             refine RJ (.b (R_F_ok h16) .z) ?_
             cases hF
             exact met' []
            ·cases hF
             exact met' []
           ·refine LR0 ?_
            refine Nif hF ?_ ?_ <;> intro hb hF
            ·refine NRL ((decide (v5.1.Code=v5.2.Code)&&(decide (v5.1.At=v5.2.At)&&true))&&(decide (x6.1=([]:List UInt8)))) (fun v6:Bool=>([(10,.bool v6)],[],[],[])) [] [10] [] [] [] .nil (fun v6 hv=>?_)
             have hF:=lt_elim hF hv
             cases hF
             exact Wz [] hfin
            ·obtain ⟨h17,hF⟩:=aE hF
             refine NRL ((decide (v5.1.Code=0))&&(decide (x6.1=(zad x15 (w64 (Int.tdiv (x15.length:Int) 2)))))) (fun v7:Bool=>([(10,.bool v7)],[],[],[])) [.nat (x15.length:Int),.av (zbs (zad x15 (w64 (Int.tdiv (x15.length:Int) 2))))] [10] [] [] [] (hc (fun (_:(decide (v5.1.Code=0))=true)=>(len_ok zbs x15)) (hc (fun (_:(decide (v5.1.Code=0))=true)=>(by decide:(2:Int)≠0)) (hc (fun (ga0:(decide (v5.1.Code=0))=true)=>(idx_ok zbs (h17 ga0))) .nil))) (fun v7 hv=>?_)
             have hF:=lt_elim hF hv
             cases hF
             exact Wz [] hfin

/- tablet.Compact$1 -/
/- tablet.Compact$1$1 -/
/- slices.IndexFunc[[]api.Cell,api.Cell] -/
/- slices.ContainsFunc[[]api.Cell,api.Cell] -/
/- merge.fault -/
/- merge.lists -/
/- (merge.heap).less -/
/- (merge.heap).down -/
/- merge.joined$1 -/
/- merge.each -/
/- merge.joined -/
/- merge.Join -/
/- merge.Compact -/
/- slices.Clone[[][]byte,[]byte] -/
/- tablet.Compact$1 -/
/- tablet.with -/
/- tablet.Compact -/
/- tablet.Compact -/
/- tabularyref.Compacted -/
/- tabularylaw.TabletMakes$1 -/
/- tabularylaw.tabletAs -/
/- tabularyref.Between -/
/- tabularylaw.TabletMakes$2 -/
/- tabularylaw.tabletAs -/
/- tabularylaw.TabletMakes -/
/- tabularylaw.TabletKeeps$1 -/
/- tabularylaw.cellsAs -/
/- tabularylaw.TabletKeeps -/
end
end G
end Go.Proofs.YticbfakiihfgmaaGreat
