/- The program's functions as plain functions, and that they are these. Written by a program (dec2.py). -/
import Derived.Test.YticbfakiihfgmaaGreatGf3
namespace Go.Proofs.YticbfakiihfgmaaGreat
open Go Go.Dm
set_option linter.unusedVariables false
set_option linter.unusedSimpArgs false
set_option maxRecDepth 100000
namespace G
noncomputable section
/- tabularylaw.TabletDoes$3 -/
def law_TabletDoes_3 (box:Tablet) (box1:Int) (box2:Tablet):Option (Tablet×Tablet×Tablet):=
 zaq (0≤w64 (box.Log.Kept+box1)∧w64 (box.Log.Kept+box1)≤(box.Log.Bytes.length:Int)) <|
 ob (R_Logged_v1 (zds box.Log.Bytes (w64 (box.Log.Kept+box1)))) fun x=>
 zaq ((!(decide ((x.1.length:Int)=0)))=true→0≤w64 ((x.1.length:Int) - 1)∧w64 ((x.1.length:Int) - 1)<(x.1.length:Int)) <|
 ob (
  if ((decide ((x.1.length:Int)=0))||(decide (((zaf x.1 (w64 ((x.1.length:Int) - 1))).Seq)<box.Done)))=true then
   some (box,box2,(⟨(⟨([]:List UInt8),0⟩:Disk),([]:List (List UInt8)),0,0⟩:Tablet),0)
  else
   some (box,box2,(⟨(⟨([]:List UInt8),0⟩:Disk),([]:List (List UInt8)),0,0⟩:Tablet),x.2)) fun (v:Tablet×Tablet×Tablet×Int)=>
 zaq (0≤v.2.2.2∧v.2.2.2≤(v.1.Log.Bytes.length:Int)) <|
 some ((⟨(⟨(zds v.1.Log.Bytes v.2.2.2),v.2.2.2⟩:Disk),v.2.1.Files,v.2.1.Done,v.2.1.Since⟩:Tablet),v.1,(⟨(⟨(zds v.1.Log.Bytes v.2.2.2),v.2.2.2⟩:Disk),v.2.1.Files,v.2.1.Done,v.2.1.Since⟩:Tablet))
theorem law_TabletDoes_3_ok {box box1 box2 r} (hF:law_TabletDoes_3 box box1 box2=some r):Pe Tryz.prog 31 ⟨[],[(100000,(zae box)),(100001,[.i box1]),(100002,(zae box2))],[],[],[]⟩ [.ptr 100000 0,.ptr 100001 0,.ptr 100002 0] (.agg (zae r.1)) ⟨[],[(100000,(zae r.2.1)),(100001,[.i box1]),(100002,(zae r.2.2))],[],[],[]⟩:=by
 refine PT 43 [.cell 3 27] [27] Tryz.func31 ?_
 intro Q g hfin
 unfold law_TabletDoes_3 at hF
 refine LR0 ?_
 obtain ⟨h0,hF⟩:=aE hF
 obtain ⟨x,h1,hF⟩:=oE hF
 refine RJ (.s01 zan h0 (.c (R_Logged_v1_ok h1) .z)) ?_
 obtain ⟨h2,hF⟩:=aE hF
 refine VD [.nat (x.1.length:Int),.nat (x.1.length:Int),.av (zak (zaf x.1 (w64 ((x.1.length:Int) - 1))))] [0,2,3,5,33] [3,100000,100001,100002] [] [] [(0,.ptr 100000 0),(2,.ptr 100002 0),(3,.ptr 3 0),(5,.i x.2),(33,.bool ((decide ((x.1.length:Int)=0))||(decide (((zaf x.1 (w64 ((x.1.length:Int) - 1))).Seq)<box.Done))))] [(3,[.nils,.i 0,.nils,.i 0,.i 0]),(100000,(zae box)),(100001,[.i box1]),(100002,(zae box2))] [] [] (hc (zdv zak x.1) (hc (fun (_:(!(decide ((x.1.length:Int)=0)))=true)=>(zdv zak x.1)) (hc (fun (ga0:(!(decide ((x.1.length:Int)=0)))=true)=>(idx_ok zak (h2 ga0))) .nil))) ?_
 obtain ⟨v,hv,hF⟩:=oE hF
 refine NmT (fun Z=>Z.up [0,2,3,5] [3,100000,100001,100002] [] [] [(5,.i v.2.2.2)] [(3,(zae v.2.2.1)),(100000,(zae v.1)),(100002,(zae v.2.1))] [] []) ?_ ?_
 ·have hF:=hv
  refine Nif hF ?_ ?_ <;> intro hb hF
  ·refine VR [] [0,2,3,5] [3,100000,100001,100002] [] [] [(0,.ptr 100000 0),(2,.ptr 100002 0),(3,.ptr 3 0),(5,.i 0)] [(3,[.nils,.i 0,.nils,.i 0,.i 0]),(100000,(zae box)),(100001,[.i box1]),(100002,(zae box2))] [] [] .nil ?_
   refine Wk_coeB 3 [.sl 1 (([]:List UInt8).map zan),.i 0,.sl 1 (([]:List (List UInt8)).map zag),.i 0,.i 0] rfl (.cons (CoeS.nils 1) (.cons (CoeS.refl _) (.cons (CoeS.nils 1) (.cons (CoeS.refl _) (.cons (CoeS.refl _) .nil))))) ?_
   cases hF
   exact met' []
  ·refine Wk_coeB 3 [.sl 1 (([]:List UInt8).map zan),.i 0,.sl 1 (([]:List (List UInt8)).map zag),.i 0,.i 0] rfl (.cons (CoeS.nils 1) (.cons (CoeS.refl _) (.cons (CoeS.nils 1) (.cons (CoeS.refl _) (.cons (CoeS.refl _) .nil))))) ?_
   cases hF
   exact met' []
 ·obtain ⟨h3,hF⟩:=aE hF
  refine RJ (.s01 zan h3 .z) ?_
  refine LR0 ?_
  cases hF
  exact Wz [] hfin

/- tabularylaw.tabletAs -/
def law_tabletAs_v2 (t0:Tablet) (f w0:Fault) (box:Tablet) (box1:Int) (box2:Tablet):Option (Bool×Tablet×Tablet):=
 if (!(decide (f.Code=w0.Code)&&(decide (f.At=w0.At)&&true)))=true then
  some (false,box,box2)
 else
  if (!decide (w0.Code=0))=true then
   ob (zbb t0 (⟨(⟨([]:List UInt8),0⟩:Disk),([]:List (List UInt8)),0,0⟩:Tablet)) fun x=>
   some (x,box,box2)
  else
   ob (law_TabletDoes_3 box box1 box2) fun x1=>
   ob (zbb t0 x1.1) fun x2=>
   some (x2,x1.2.1,x1.2.2)
theorem law_tabletAs_v2_ok {t0 f w0 box box1 box2 r} (hF:law_tabletAs_v2 t0 f w0 box box1 box2=some r):Pe Tryz.prog 27 ⟨[],[(100000,(zae box)),(100001,[.i box1]),(100002,(zae box2))],[],[],[]⟩ [.agg (zae t0),.agg (zad f),.agg (zad w0),.fn 31 [.ptr 100000 0,.ptr 100001 0,.ptr 100002 0]] (.bool r.1) ⟨[],[(100000,(zae r.2.1)),(100001,[.i box1]),(100002,(zae r.2.2))],[],[],[]⟩:=by
 refine PT 22 [.tmp 8] [4] Tryz.func27 ?_
 intro Q g hfin
 unfold law_tabletAs_v2 at hF
 refine LR0 ?_
 refine LR0 ?_
 refine Nif hF ?_ ?_ <;> intro hb hF
 ·refine LR0 ?_
  cases hF
  exact Wz [] hfin
 ·refine LR0 ?_
  refine Nif hF ?_ ?_ <;> intro hb hF
  ·obtain ⟨x,h0,hF⟩:=oE hF
   refine RJ (.b (zc3 h0) .z) ?_
   cases hF
   exact Wz [] hfin
  ·obtain ⟨x1,h1,hF⟩:=oE hF
   have p2:=(Pe.ren (law_TabletDoes_3_ok h1) ⟨[],[],[],[]⟩)
   obtain ⟨x2,h3,hF⟩:=oE hF
   refine DJ (.e [100000,100001,100002] [] p2 (.b (zc3 h3) .z)) ?_
   cases hF
   exact Wz [] hfin

/- tabularylaw.sizeFault -/
def law_sizeFault (size:Int):Fault:=
 if ((decide (size<50))||(decide (4000<size)))=true then
  lt (R_F 3 (-1)) fun x=>
  x
 else
  (⟨0,0⟩:Fault)
theorem law_sizeFault_ok {size r} (hF:law_sizeFault size=r):Pe Tryz.prog 33 S.none [.i size] (.agg (zad r)) S.none:=by
 refine PT 11 [.cell 2 35] [35] Tryz.func33 ?_
 intro Q g hfin
 unfold law_sizeFault at hF
 refine LR0 ?_
 refine LR0 ?_
 refine Nif hF ?_ ?_ <;> intro hb hF
 ·obtain ⟨x,h0,hF⟩:=lS hF
  refine RJ (.b (zeh h0) .z) ?_
  cases hF
  exact Wz [] hfin
 ·refine LR0 ?_
  cases hF
  exact Wz [] hfin

/- tabularyref.MadeFault -/
def R_MadeFault (l:List Cell) (size:Int):Option Fault:=
 if (decide (500<(l.length:Int)))=true then
  lt (R_F 2 (-1)) fun x=>
  some x
 else
  ob (R_FileOf l size) fun x1=>
  if (decide (60000<(x1.length:Int)))=true then
   lt (R_F 9 0) fun x2=>
   some x2
  else
   some (⟨0,0⟩:Fault)
theorem R_MadeFault_ok {l size r} (hF:R_MadeFault l size=some r):Pe Tryz.prog 34 S.none [.sl 5 (l.map zac),.i size] (.agg (zad r)) S.none:=by
 refine PT 16 [.cell 4 35] [35] Tryz.func34 ?_
 intro Q g hfin
 unfold R_MadeFault at hF
 refine LR0 ?_
 refine RJ (.l zac l .z) ?_
 refine Nif hF ?_ ?_ <;> intro hb hF
 ·obtain ⟨x,h0,hF⟩:=lS hF
  refine RJ (.b (zeh h0) .z) ?_
  cases hF
  exact Wz [] hfin
 ·obtain ⟨x1,h1,hF⟩:=oE hF
  have p2:=(Pe.ren (R_FileOf_ok h1) ⟨[],[(45,11)],[],[]⟩)
  refine RJ (.e [] [] p2 (.l zan x1 .z)) ?_
  refine Nif hF ?_ ?_ <;> intro hb hF
  ·obtain ⟨x2,h3,hF⟩:=lS hF
   refine RJ (.b (zeh h3) .z) ?_
   cases hF
   exact Wz [] hfin
  ·refine LR0 ?_
   cases hF
   exact Wz [] hfin

/- tabularylaw.TabletDoes$4 -/
def law_TabletDoes_4_v1 (box:Tablet) (box1:Inside) (box2:Int):Option Tablet:=
 ob (R_FileOf box1.Mem box2) fun x=>
 zaq (((([x]:List (List UInt8))++box.Files).length:Int)*24≤140737488351232) <|
 some (⟨box.Log,(([x]:List (List UInt8))++box.Files),box1.Last,box.Since⟩:Tablet)
theorem law_TabletDoes_4_v1_ok {box box1 box2 r} (hF:law_TabletDoes_4_v1 box box1 box2=some r):Pe Tryz.prog 35 ⟨[],[(100000,(zae box)),(100001,(zdj box1)),(100002,[.i box2])],[],[],[]⟩ [.ptr 100000 0,.ptr 100001 0,.ptr 100002 0] (.agg (zae r)) ⟨[],[(100000,(zae box)),(100001,(zdj box1)),(100002,[.i box2])],[],[],[]⟩:=by
 refine PT 19 [.cell 3 27] [27] Tryz.func35 ?_
 intro Q g hfin
 unfold law_TabletDoes_4_v1 at hF
 refine LR0 ?_
 obtain ⟨x,h0,hF⟩:=oE hF
 have p1:=(Pe.ren (R_FileOf_ok h0) ⟨[],[(45,9)],[],[]⟩)
 obtain ⟨h2,hF⟩:=aE hF
 refine DJ (.e [] [] p1 (.p zag h2 .z)) ?_
 cases hF
 exact Wz [] hfin

/- tabularylaw.tabletAs -/
def zdn (t0:Tablet) (f w0:Fault) (box:Tablet) (box1:Inside) (box2:Int):Option Bool:=
 if (!(decide (f.Code=w0.Code)&&(decide (f.At=w0.At)&&true)))=true then
  some false
 else
  if (!decide (w0.Code=0))=true then
   ob (zbb t0 (⟨(⟨([]:List UInt8),0⟩:Disk),([]:List (List UInt8)),0,0⟩:Tablet)) fun x=>
   some x
  else
   ob (law_TabletDoes_4_v1 box box1 box2) fun x1=>
   ob (zbb t0 x1) fun x2=>
   some x2
theorem law_tabletAs_v3_ok {t0 f w0 box box1 box2 r} (hF:zdn t0 f w0 box box1 box2=some r):Pe Tryz.prog 27 ⟨[],[(100000,(zae box)),(100001,(zdj box1)),(100002,[.i box2])],[],[],[]⟩ [.agg (zae t0),.agg (zad f),.agg (zad w0),.fn 35 [.ptr 100000 0,.ptr 100001 0,.ptr 100002 0]] (.bool r) ⟨[],[(100000,(zae box)),(100001,(zdj box1)),(100002,[.i box2])],[],[],[]⟩:=by
 refine PT 22 [.tmp 8] [4] Tryz.func27 ?_
 intro Q g hfin
 unfold zdn at hF
 refine LR0 ?_
 refine LR0 ?_
 refine Nif hF ?_ ?_ <;> intro hb hF
 ·refine LR0 ?_
  cases hF
  exact Wz [] hfin
 ·refine LR0 ?_
  refine Nif hF ?_ ?_ <;> intro hb hF
  ·obtain ⟨x,h0,hF⟩:=oE hF
   refine RJ (.b (zc3 h0) .z) ?_
   cases hF
   exact Wz [] hfin
  ·obtain ⟨x1,h1,hF⟩:=oE hF
   obtain ⟨x2,h2,hF⟩:=oE hF
   refine DJ (.q [100000,100001,100002] [] (Pe.ren (law_TabletDoes_4_v1_ok h1) ⟨[],[],[],[]⟩) (.b (zc3 h2) .z)) ?_
   cases hF
   exact Wz [] hfin

/- tabularyref.Above -/
def R_Above_v1_J1 (v:List Note):Option (List Note):=
 some v
def R_Above_v1_B1 (l:List Note) (num:Int) (v1:List Note×Int):Option ((List Note×Int)⊕(List Note)):=
 if (decide (v1.2<(l.length:Int)))=true then
  zaq (0≤v1.2∧v1.2<(l.length:Int)) <|
  ob (
   if (decide (num<((zaf l v1.2).Seq)))=true then
    zaq (0≤v1.2∧v1.2<(l.length:Int)) <|
    zaq (((v1.1++[(⟨(zaf l v1.2).Seq,(zaf l v1.2).Cells⟩:Note)]).length:Int)*32≤140737488351232) <|
    some (v1.1++[(⟨(zaf l v1.2).Seq,(zaf l v1.2).Cells⟩:Note)])
   else
    some v1.1) fun v2=>
  some (Sum.inl (v2,w64 (v1.2+1)))
 else
  zem (R_Above_v1_J1 v1.1)
def R_Above_v1_L1 (l:List Note) (num:Int) (v0:List Note×Int):Option (List Note):=
 zbc (fun y=>R_Above_v1_B1 l num y) v0
def R_Above_v1 (l:List Note) (num:Int):Option (List Note):=
 R_Above_v1_L1 l num (([]:List Note),0)
theorem R_Above_v1_ok {l num r} (hF:R_Above_v1 l num=some r):Pe Tryz.prog 39 S.none [.sl 2 (l.map zak),.i num] (.sl 2 (r.map zak)) S.none:=by
 refine PT 28 [.tmp 4] [41] Tryz.func39 ?_
 intro Q g hfin
 unfold R_Above_v1 at hF
 refine LR0 ?_
 refine LR0 ?_
 refine NR [] [0,1,5,6] [] [] [(0,.sl 2 (l.map zak)),(1,.i num),(5,.nils),(6,.i 0)] .nil ?_
 refine NmQ (fun v=>R_Above_v1_J1 v=some r) (fun v=>⟨[(5,.row 26 0)],[],[(26,.z 50 2 0 (v.map zak))],[],[]⟩) ?_ ?_
 ·refine zcb ?_
  unfold R_Above_v1_L1 at hF
  refine zap 5 60000 50 2 rfl rfl rfl ?_
  refine zci (fs:=[0,1,5,6]) (bs:=[]) (rs:=[60000]) (ms:=[]) (aa:=[]) (nv:=[]) rfl ?_
  refine zat ⟨[],[(60000,26)],[],[]⟩ rfl ?_
  refine Nitr hF [] (fun v1=>⟨[(0,.sl 2 (l.map zak)),(1,.i num),(5,.row 26 0),(6,.i v1.2)],[],[(26,.z 50 2 0 (v1.1.map zak))],[],[]⟩) ?_
  intro n1 v1 y1 hF ih1 dn1
  unfold R_Above_v1_B1 at hF
  refine RJ (.l zak l .z) ?_
  refine Nif hF ?_ ?_ <;> intro hb hF
  ·refine zcb ?_
   obtain ⟨h0,hF⟩:=aE hF
   refine RJ (.i zak h0 .z) ?_
   obtain ⟨v2,hv,hF⟩:=oE hF
   refine NmT (fun Z=>Z.up [0,1,5,6] [] [26] [] [] [] [(26,.z 50 2 0 (v2.map zak))] []) ?_ ?_
   ·have hF:=hv
    refine Nif hF ?_ ?_ <;> intro hb hF
    ·obtain ⟨h1,hF⟩:=aE hF
     obtain ⟨h2,hF⟩:=aE hF
     refine RJ (.i zak h1 (.a (.sealed) (.p zak h2 .z))) ?_
     cases hF
     exact met' [(26,⟨0,true,true,false⟩)]
    ·cases hF
     exact met' []
   ·refine LR0 ?_
    exact Nrnq [] hF ih1
  ·refine zbv rfl ?_
   have hF:=zaj hF dn1
   exact ze6 v1.1 [] hF
 ·intro v hF
  unfold R_Above_v1_J1 at hF
  refine LR0 ?_
  cases hF
  exact Wz [] hfin

/- tabularyref.LogOf -/
def R_LogOf_v1_J1 (v:List UInt8):Option (List UInt8):=
 some v
def R_LogOf_v1_B1 (l:List Note) (v1:List UInt8×Int):Option ((List UInt8×Int)⊕(List UInt8)):=
 if (decide (v1.2<(l.length:Int)))=true then
  zaq (0≤v1.2∧v1.2<(l.length:Int)) <|
  ob (R_NoteBytes (⟨(zaf l v1.2).Seq,(zaf l v1.2).Cells⟩:Note)) fun x=>
  ob (R_Framed x) fun x1=>
  zaq (((v1.1++x1).length:Int)*1≤140737488351232) <|
  some (Sum.inl ((v1.1++x1),w64 (v1.2+1)))
 else
  zem (R_LogOf_v1_J1 v1.1)
def R_LogOf_v1_L1 (l:List Note) (v0:List UInt8×Int):Option (List UInt8):=
 zbc (fun y=>R_LogOf_v1_B1 l y) v0
def R_LogOf_v1 (l:List Note):Option (List UInt8):=
 R_LogOf_v1_L1 l (([]:List UInt8),0)
theorem R_LogOf_v1_ok {l r} (hF:R_LogOf_v1 l=some r):Pe Tryz.prog 38 S.none [.sl 2 (l.map zak)] (.sl 1 (r.map zan)) S.none:=by
 refine PT 20 [.tmp 2] [22] Tryz.func38 ?_
 intro Q g hfin
 unfold R_LogOf_v1 at hF
 refine LR0 ?_
 refine LR0 ?_
 refine NR [] [0,3,4] [] [] [(0,.sl 2 (l.map zak)),(3,.nils),(4,.i 0)] .nil ?_
 refine NmQ (fun v=>R_LogOf_v1_J1 v=some r) (fun v=>⟨[(3,.row 18 0)],[],[(18,.z 5 1 0 (v.map zan))],[],[]⟩) ?_ ?_
 ·refine zcb ?_
  unfold R_LogOf_v1_L1 at hF
  refine zap 3 60000 5 1 rfl rfl rfl ?_
  refine zci (fs:=[0,3,4]) (bs:=[]) (rs:=[60000]) (ms:=[]) (aa:=[]) (nv:=[]) rfl ?_
  refine zat ⟨[],[(60000,18)],[],[]⟩ rfl ?_
  refine Nitr hF [] (fun v1=>⟨[(0,.sl 2 (l.map zak)),(3,.row 18 0),(4,.i v1.2)],[],[(18,.z 5 1 0 (v1.1.map zan))],[],[]⟩) ?_
  intro n1 v1 y1 hF ih1 dn1
  unfold R_LogOf_v1_B1 at hF
  refine RJ (.l zak l .z) ?_
  refine Nif hF ?_ ?_ <;> intro hb hF
  ·refine zcb ?_
   obtain ⟨h0,hF⟩:=aE hF
   obtain ⟨x,h1,hF⟩:=oE hF
   have p2:=(Pe.ren (R_NoteBytes_ok h1) ⟨[],[(7,16)],[],[]⟩)
   obtain ⟨x1,h3,hF⟩:=oE hF
   have p4:=(Pe.ren (R_Framed_ok h3) ⟨[],[(13,17)],[],[]⟩)
   obtain ⟨h5,hF⟩:=aE hF
   refine RJ (.i zak h0 (.e [] [] p2 (.e [] [] p4 (.p zan h5 .z)))) ?_
   refine LR0 ?_
   exact Nrnq [(18,⟨0,true,true,false⟩)] hF ih1
  ·refine zbv rfl ?_
   have hF:=zaj hF dn1
   exact ze6 v1.1 [] hF
 ·intro v hF
  unfold R_LogOf_v1_J1 at hF
  refine LR0 ?_
  cases hF
  exact Wz [] hfin

/- tabularylaw.TabletDoes$5 -/
def law_TabletDoes_5 (box:Inside) (box1:Tablet):Option Tablet:=
 ob (R_Above_v1 box.Notes box1.Done) fun x=>
 ob (R_LogOf_v1 x) fun x1=>
 some (⟨(⟨x1,(x1.length:Int)⟩:Disk),box1.Files,box1.Done,box1.Since⟩:Tablet)
theorem law_TabletDoes_5_ok {box box1 r} (hF:law_TabletDoes_5 box box1=some r):Pe Tryz.prog 37 ⟨[],[(100000,(zdj box)),(100001,(zae box1))],[],[],[]⟩ [.ptr 100000 0,.ptr 100001 0] (.agg (zae r)) ⟨[],[(100000,(zdj box)),(100001,(zae box1))],[],[],[]⟩:=by
 refine PT 21 [.cell 2 27] [27] Tryz.func37 ?_
 intro Q g hfin
 unfold law_TabletDoes_5 at hF
 refine LR0 ?_
 obtain ⟨x,h0,hF⟩:=oE hF
 obtain ⟨x1,h1,hF⟩:=oE hF
 refine RJ (.c (R_Above_v1_ok h0) (.c (R_LogOf_v1_ok h1) .z)) ?_
 refine RJ (.l zan x1 .z) ?_
 cases hF
 exact Wz [] hfin

/- tabularylaw.tabletAs -/
def zdo (t0:Tablet) (f w0:Fault) (box:Inside) (box1:Tablet):Option Bool:=
 if (!(decide (f.Code=w0.Code)&&(decide (f.At=w0.At)&&true)))=true then
  some false
 else
  if (!decide (w0.Code=0))=true then
   ob (zbb t0 (⟨(⟨([]:List UInt8),0⟩:Disk),([]:List (List UInt8)),0,0⟩:Tablet)) fun x=>
   some x
  else
   ob (law_TabletDoes_5 box box1) fun x1=>
   ob (zbb t0 x1) fun x2=>
   some x2
theorem law_tabletAs_v4_ok {t0 f w0 box box1 r} (hF:zdo t0 f w0 box box1=some r):Pe Tryz.prog 27 ⟨[],[(100000,(zdj box)),(100001,(zae box1))],[],[],[]⟩ [.agg (zae t0),.agg (zad f),.agg (zad w0),.fn 37 [.ptr 100000 0,.ptr 100001 0]] (.bool r) ⟨[],[(100000,(zdj box)),(100001,(zae box1))],[],[],[]⟩:=by
 refine PT 22 [.tmp 8] [4] Tryz.func27 ?_
 intro Q g hfin
 unfold zdo at hF
 refine LR0 ?_
 refine LR0 ?_
 refine Nif hF ?_ ?_ <;> intro hb hF
 ·refine LR0 ?_
  cases hF
  exact Wz [] hfin
 ·refine LR0 ?_
  refine Nif hF ?_ ?_ <;> intro hb hF
  ·obtain ⟨x,h0,hF⟩:=oE hF
   refine RJ (.b (zc3 h0) .z) ?_
   cases hF
   exact Wz [] hfin
  ·obtain ⟨x1,h1,hF⟩:=oE hF
   obtain ⟨x2,h2,hF⟩:=oE hF
   refine DJ (.q [100000,100001] [] (Pe.ren (law_TabletDoes_5_ok h1) ⟨[],[],[],[]⟩) (.b (zc3 h2) .z)) ?_
   cases hF
   exact Wz [] hfin

/- tabularylaw.TabletDoes -/
def law_TabletDoes_J1 (l:List Cell) (num size:Int) (x5:Tablet×Int×Fault) (v1:Tablet×Tablet×Fault×Tablet×Fault×Tablet×Fault×Tablet×Fault×Tablet×Fault×Inside×Fault×Fault×Note):Option Bool:=
 ob (
  if (decide (v1.2.2.2.2.2.2.2.2.2.2.2.2.2.1.Code=0))=true then
   ob (R_NoteBytes_v1 v1.2.2.2.2.2.2.2.2.2.2.2.2.2.2) fun x14=>
   ob (R_Framed_v1 x14) fun x15=>
   if (decide (60000<(w64 ((v1.1.Log.Bytes.length:Int)+(x15.length:Int)))))=true then
    lt (R_F 9 0) fun x16=>
    some (v1.1,v1.2.1,v1.2.2.1,v1.2.2.2.1,v1.2.2.2.2.1,v1.2.2.2.2.2.1,v1.2.2.2.2.2.2.1,v1.2.2.2.2.2.2.2.1,v1.2.2.2.2.2.2.2.2.1,v1.2.2.2.2.2.2.2.2.2.1,v1.2.2.2.2.2.2.2.2.2.2.1,v1.2.2.2.2.2.2.2.2.2.2.2.1,v1.2.2.2.2.2.2.2.2.2.2.2.2.1,x16,v1.2.2.2.2.2.2.2.2.2.2.2.2.2.2,x15)
   else
    some (v1.1,v1.2.1,v1.2.2.1,v1.2.2.2.1,v1.2.2.2.2.1,v1.2.2.2.2.2.1,v1.2.2.2.2.2.2.1,v1.2.2.2.2.2.2.2.1,v1.2.2.2.2.2.2.2.2.1,v1.2.2.2.2.2.2.2.2.2.1,v1.2.2.2.2.2.2.2.2.2.2.1,v1.2.2.2.2.2.2.2.2.2.2.2.1,v1.2.2.2.2.2.2.2.2.2.2.2.2.1,v1.2.2.2.2.2.2.2.2.2.2.2.2.2.1,v1.2.2.2.2.2.2.2.2.2.2.2.2.2.2,x15)
  else
   some (v1.1,v1.2.1,v1.2.2.1,v1.2.2.2.1,v1.2.2.2.2.1,v1.2.2.2.2.2.1,v1.2.2.2.2.2.2.1,v1.2.2.2.2.2.2.2.1,v1.2.2.2.2.2.2.2.2.1,v1.2.2.2.2.2.2.2.2.2.1,v1.2.2.2.2.2.2.2.2.2.2.1,v1.2.2.2.2.2.2.2.2.2.2.2.1,v1.2.2.2.2.2.2.2.2.2.2.2.2.1,v1.2.2.2.2.2.2.2.2.2.2.2.2.2.1,v1.2.2.2.2.2.2.2.2.2.2.2.2.2.2,([]:List UInt8))) fun v2=>
 ob (
  if (decide (v2.2.2.2.2.2.2.2.2.2.2.2.2.2.1.Code=0))=true then
   ob (ze7 v2.2.2.2.2.2.2.2.2.2.2.2.1.Mem) fun x17=>
   ob (R_PutCells x17 l) fun x18=>
   ob (ze7 v2.2.2.2.2.2.2.2.2.2.2.2.1.All) fun x19=>
   ob (R_PutCells x19 l) fun x20=>
   lt (R_Heavy (⟨v2.2.2.2.2.2.2.2.2.2.2.2.1.Notes,v2.2.2.2.2.2.2.2.2.2.2.2.1.Last,x18,v2.2.2.2.2.2.2.2.2.2.2.2.1.Files,x20⟩:Inside)) fun x21=>
   some (v2.1,v2.2.1,v2.2.2.1,v2.2.2.2.1,v2.2.2.2.2.1,v2.2.2.2.2.2.1,v2.2.2.2.2.2.2.1,v2.2.2.2.2.2.2.2.1,v2.2.2.2.2.2.2.2.2.1,v2.2.2.2.2.2.2.2.2.2.1,v2.2.2.2.2.2.2.2.2.2.2.1,v2.2.2.2.2.2.2.2.2.2.2.2.1,v2.2.2.2.2.2.2.2.2.2.2.2.2.1,x21,v2.2.2.2.2.2.2.2.2.2.2.2.2.2.2.1)
  else
   some (v2.1,v2.2.1,v2.2.2.1,v2.2.2.2.1,v2.2.2.2.2.1,v2.2.2.2.2.2.1,v2.2.2.2.2.2.2.1,v2.2.2.2.2.2.2.2.1,v2.2.2.2.2.2.2.2.2.1,v2.2.2.2.2.2.2.2.2.2.1,v2.2.2.2.2.2.2.2.2.2.2.1,v2.2.2.2.2.2.2.2.2.2.2.2.1,v2.2.2.2.2.2.2.2.2.2.2.2.2.1,v2.2.2.2.2.2.2.2.2.2.2.2.2.2.1,v2.2.2.2.2.2.2.2.2.2.2.2.2.2.2.1)) fun v3=>
 ob (law_tabletAs v3.2.1 v3.2.2.1 v3.2.2.2.2.2.2.2.2.2.2.2.2.2.1 v3.1 v2.2.2.2.2.2.2.2.2.2.2.2.2.2.2.2 v3.1) fun x22=>
 if (((!x22.1)||((!decide (x5.2.1=v3.2.2.2.2.2.2.2.2.2.2.2.2.2.2.Seq))&&(decide (v3.2.2.2.2.2.2.2.2.2.2.2.2.2.1.Code=0))))||((!decide (x5.2.1=0))&&(!decide (v3.2.2.2.2.2.2.2.2.2.2.2.2.2.1.Code=0))))=true then
  some false
 else
  ob (law_tabletAs_v1 v3.2.2.2.1 v3.2.2.2.2.1 v3.2.2.2.2.2.2.2.2.2.2.2.2.1 v3.1 (⟨(⟨x22.2.1,x22.2.2.1⟩:Disk),x22.2.2.2.1,x22.2.2.2.2.1,x22.2.2.2.2.2⟩:Tablet)) fun x23=>
  if (!x23.1)=true then
   some false
  else
   ob (
    if ((decide (v3.2.2.2.2.2.2.2.2.2.2.2.2.1.Code=0))&&((decide (num<0))||(decide ((w64 ((v3.1.Log.Bytes.length:Int) - v3.1.Log.Kept))<num))))=true then
     lt (R_F 3 (-1)) fun x24=>
     some (v3.1,v3.2.2.2.2.2.1,v3.2.2.2.2.2.2.1,v3.2.2.2.2.2.2.2.1,v3.2.2.2.2.2.2.2.2.1,v3.2.2.2.2.2.2.2.2.2.1,v3.2.2.2.2.2.2.2.2.2.2.1,v3.2.2.2.2.2.2.2.2.2.2.2.1,v3.2.2.2.2.2.2.2.2.2.2.2.2.1,x24,x23.2)
    else
     some (v3.1,v3.2.2.2.2.2.1,v3.2.2.2.2.2.2.1,v3.2.2.2.2.2.2.2.1,v3.2.2.2.2.2.2.2.2.1,v3.2.2.2.2.2.2.2.2.2.1,v3.2.2.2.2.2.2.2.2.2.2.1,v3.2.2.2.2.2.2.2.2.2.2.2.1,v3.2.2.2.2.2.2.2.2.2.2.2.2.1,v3.2.2.2.2.2.2.2.2.2.2.2.2.1,x23.2)) fun (v4:Tablet×Tablet×Fault×Tablet×Fault×Tablet×Fault×Inside×Fault×Fault×Tablet)=>
   ob (law_tabletAs_v2 v4.2.1 v4.2.2.1 v4.2.2.2.2.2.2.2.2.2.1 v4.1 num v4.2.2.2.2.2.2.2.2.2.2) fun x25=>
   if (!x25.1)=true then
    some false
   else
    ob (
     if (decide (v4.2.2.2.2.2.2.2.2.1.Code=0))=true then
      lt (law_sizeFault size) fun x26=>
      some (x25.2.1,v4.2.2.2.1,v4.2.2.2.2.1,v4.2.2.2.2.2.1,v4.2.2.2.2.2.2.1,v4.2.2.2.2.2.2.2.1,v4.2.2.2.2.2.2.2.2.1,x26)
     else
      some (x25.2.1,v4.2.2.2.1,v4.2.2.2.2.1,v4.2.2.2.2.2.1,v4.2.2.2.2.2.2.1,v4.2.2.2.2.2.2.2.1,v4.2.2.2.2.2.2.2.2.1,v4.2.2.2.2.2.2.2.2.1)) fun v5=>
    ob (
     if ((decide (v5.2.2.2.2.2.2.2.Code=0))&&(decide (v5.2.2.2.2.2.1.Last=v5.1.Done)))=true then
      lt (R_F 6 0) fun x27=>
      some (v5.1,v5.2.1,v5.2.2.1,v5.2.2.2.1,v5.2.2.2.2.1,v5.2.2.2.2.2.1,v5.2.2.2.2.2.2.1,x27)
     else
      some (v5.1,v5.2.1,v5.2.2.1,v5.2.2.2.1,v5.2.2.2.2.1,v5.2.2.2.2.2.1,v5.2.2.2.2.2.2.1,v5.2.2.2.2.2.2.2)) fun v6=>
    ob (
     if ((decide (v6.2.2.2.2.2.2.2.Code=0))&&(decide ((v6.1.Files.length:Int)=10)))=true then
      lt (R_F 2 (-2)) fun x28=>
      some (v6.1,v6.2.1,v6.2.2.1,v6.2.2.2.1,v6.2.2.2.2.1,v6.2.2.2.2.2.1,v6.2.2.2.2.2.2.1,x28)
     else
      some (v6.1,v6.2.1,v6.2.2.1,v6.2.2.2.1,v6.2.2.2.2.1,v6.2.2.2.2.2.1,v6.2.2.2.2.2.2.1,v6.2.2.2.2.2.2.2)) fun (v7:Tablet×Tablet×Fault×Tablet×Fault×Inside×Fault×Fault)=>
    ob (
     if (decide (v7.2.2.2.2.2.2.2.Code=0))=true then
      ob (R_MadeFault v7.2.2.2.2.2.1.Mem size) fun x29=>
      some (v7.1,v7.2.1,v7.2.2.1,v7.2.2.2.1,v7.2.2.2.2.1,v7.2.2.2.2.2.1,v7.2.2.2.2.2.2.1,x29)
     else
      some (v7.1,v7.2.1,v7.2.2.1,v7.2.2.2.1,v7.2.2.2.2.1,v7.2.2.2.2.2.1,v7.2.2.2.2.2.2.1,v7.2.2.2.2.2.2.2)) fun v8=>
    ob (zdn v8.2.1 v8.2.2.1 v8.2.2.2.2.2.2.2 v8.1 v8.2.2.2.2.2.1 size) fun x30=>
    if (!x30)=true then
     some false
    else
     ob (zdo v8.2.2.2.1 v8.2.2.2.2.1 v8.2.2.2.2.2.2.1 v8.2.2.2.2.2.1 v8.1) fun x31=>
     some x31
def zeb (l:List Cell) (num size:Int) (x5:Tablet×Int×Fault) (v9:Tablet×Tablet×Fault×Tablet×Fault×Tablet×Fault×Tablet×Fault×Tablet×Fault×Inside×Fault×Fault×Note×Int):Option ((Tablet×Tablet×Fault×Tablet×Fault×Tablet×Fault×Tablet×Fault×Tablet×Fault×Inside×Fault×Fault×Note×Int)⊕Bool):=
 if ((decide (v9.2.2.2.2.2.2.2.2.2.2.2.2.2.2.2<(l.length:Int)))&&(decide (v9.2.2.2.2.2.2.2.2.2.2.2.2.2.1.Code=0)))=true then
  zaq (0≤v9.2.2.2.2.2.2.2.2.2.2.2.2.2.2.2∧v9.2.2.2.2.2.2.2.2.2.2.2.2.2.2.2<(l.length:Int)) <|
  ob (
   if (decide (((zaf l v9.2.2.2.2.2.2.2.2.2.2.2.2.2.2.2).Time)<v9.1.Since))=true then
    lt (R_F 12 v9.2.2.2.2.2.2.2.2.2.2.2.2.2.2.2) fun x32=>
    some (v9.1,v9.2.1,v9.2.2.1,v9.2.2.2.1,v9.2.2.2.2.1,v9.2.2.2.2.2.1,v9.2.2.2.2.2.2.1,v9.2.2.2.2.2.2.2.1,v9.2.2.2.2.2.2.2.2.1,v9.2.2.2.2.2.2.2.2.2.1,v9.2.2.2.2.2.2.2.2.2.2.1,v9.2.2.2.2.2.2.2.2.2.2.2.1,v9.2.2.2.2.2.2.2.2.2.2.2.2.1,x32,v9.2.2.2.2.2.2.2.2.2.2.2.2.2.2.1)
   else
    some (v9.1,v9.2.1,v9.2.2.1,v9.2.2.2.1,v9.2.2.2.2.1,v9.2.2.2.2.2.1,v9.2.2.2.2.2.2.1,v9.2.2.2.2.2.2.2.1,v9.2.2.2.2.2.2.2.2.1,v9.2.2.2.2.2.2.2.2.2.1,v9.2.2.2.2.2.2.2.2.2.2.1,v9.2.2.2.2.2.2.2.2.2.2.2.1,v9.2.2.2.2.2.2.2.2.2.2.2.2.1,v9.2.2.2.2.2.2.2.2.2.2.2.2.2.1,v9.2.2.2.2.2.2.2.2.2.2.2.2.2.2.1)) fun v10=>
  some (Sum.inl (v10.1,v10.2.1,v10.2.2.1,v10.2.2.2.1,v10.2.2.2.2.1,v10.2.2.2.2.2.1,v10.2.2.2.2.2.2.1,v10.2.2.2.2.2.2.2.1,v10.2.2.2.2.2.2.2.2.1,v10.2.2.2.2.2.2.2.2.2.1,v10.2.2.2.2.2.2.2.2.2.2.1,v10.2.2.2.2.2.2.2.2.2.2.2.1,v10.2.2.2.2.2.2.2.2.2.2.2.2.1,v10.2.2.2.2.2.2.2.2.2.2.2.2.2.1,v10.2.2.2.2.2.2.2.2.2.2.2.2.2.2,w64 (v9.2.2.2.2.2.2.2.2.2.2.2.2.2.2.2+1)))
 else
  zem (law_TabletDoes_J1 l num size x5 (v9.1,v9.2.1,v9.2.2.1,v9.2.2.2.1,v9.2.2.2.2.1,v9.2.2.2.2.2.1,v9.2.2.2.2.2.2.1,v9.2.2.2.2.2.2.2.1,v9.2.2.2.2.2.2.2.2.1,v9.2.2.2.2.2.2.2.2.2.1,v9.2.2.2.2.2.2.2.2.2.2.1,v9.2.2.2.2.2.2.2.2.2.2.2.1,v9.2.2.2.2.2.2.2.2.2.2.2.2.1,v9.2.2.2.2.2.2.2.2.2.2.2.2.2.1,v9.2.2.2.2.2.2.2.2.2.2.2.2.2.2.1))
def law_TabletDoes_L1 (l:List Cell) (num size:Int) (x5:Tablet×Int×Fault) (v0:Tablet×Tablet×Fault×Tablet×Fault×Tablet×Fault×Tablet×Fault×Tablet×Fault×Inside×Fault×Fault×Note×Int):Option Bool:=
 zbc (fun y=>zeb l num size x5 y) v0
def law_TabletDoes (t0:Tablet) (l:List Cell) (num size:Int):Option Bool:=
 ob (law_tabletBegun) fun x=>
 if (!x)=true then
  some false
 else
  ob (law_vastTablet t0) fun x1=>
  lt (law_many (l.length:Int)) fun x2=>
  if (x1||x2)=true then
   some true
  else
   ob (law_ownTablet t0) fun x3=>
   ob (ze7 l) fun x4=>
   ob (tablet_Put_v1 x3 x4) fun x5=>
   ob (tablet_Sync_v1 x3) fun x6=>
   ob (tablet_Crash_v1 x3 num) fun x7=>
   ob (tablet_Flush_v1 x3 size) fun x8=>
   ob (tablet_Cut_v1 x3) fun x9=>
   ob (R_InsideOf_v1 t0) fun x10=>
   ob (zbb x3 t0) fun x11=>
   ob (if (!(!x11))=true then (R_SameCells x4 l) else some default) fun x12=>
   if ((!x11)||(!x12))=true then
    some false
   else
    ob (
     if (decide (x10.2.Code=0))=true then
      ob (R_NoteFault (⟨w64 (x10.1.Last+1),l⟩:Note)) fun x13=>
      some (t0,x5.1,x5.2.2,x6.1,x6.2,x7.1,x7.2,x8.1,x8.2,x9.1,x9.2,x10.1,x10.2,x13,(⟨w64 (x10.1.Last+1),l⟩:Note))
     else
      some (t0,x5.1,x5.2.2,x6.1,x6.2,x7.1,x7.2,x8.1,x8.2,x9.1,x9.2,x10.1,x10.2,x10.2,(⟨w64 (x10.1.Last+1),l⟩:Note))) fun v=>
    law_TabletDoes_L1 l num size x5 (v.1,v.2.1,v.2.2.1,v.2.2.2.1,v.2.2.2.2.1,v.2.2.2.2.2.1,v.2.2.2.2.2.2.1,v.2.2.2.2.2.2.2.1,v.2.2.2.2.2.2.2.2.1,v.2.2.2.2.2.2.2.2.2.1,v.2.2.2.2.2.2.2.2.2.2.1,v.2.2.2.2.2.2.2.2.2.2.2.1,v.2.2.2.2.2.2.2.2.2.2.2.2.1,v.2.2.2.2.2.2.2.2.2.2.2.2.2.1,v.2.2.2.2.2.2.2.2.2.2.2.2.2.2,0)
theorem law_TabletDoes_ok {t0 l num size r} (hF:law_TabletDoes t0 l num size=some r):Pe Tryz.prog 3 S.none [.agg (zae t0),.sl 5 (l.map zac),.i num,.i size] (.bool r) S.none:=by
 refine PT 257 [.tmp 8] [4] Tryz.func3 ?_
 intro Q g hfin
 unfold law_TabletDoes at hF
 refine LR0 ?_
 obtain ⟨x,h0,hF⟩:=oE hF
 refine RJ (.b (law_tabletBegun_ok h0) .z) ?_
 refine Nif hF ?_ ?_ <;> intro hb hF
 ·refine LR0 ?_
  cases hF
  exact Wz [] hfin
 ·obtain ⟨x1,h1,hF⟩:=oE hF
  obtain ⟨x2,h2,hF⟩:=lS hF
  refine RJ (.b (law_vastTablet_ok h1) (.a (.nat (l.length:Int)) (.g (fun (_:(!x1)=true)=>(zdv zac l)) (.a (.callB (.bool x2)) (.g (fun (ga0:(!x1)=true)=>(law_many_ok h2)) .z))))) ?_
  refine Nif hF ?_ ?_ <;> intro hb hF
  ·refine LR0 ?_
   cases hF
   exact Wz [] hfin
  ·obtain ⟨x3,h3,hF⟩:=oE hF
   refine RJ (.c (law_ownTablet_ok h3) .z) ?_
   obtain ⟨x4,h4,hF⟩:=oE hF
   refine RJ (.c (law_ownCells_v1_ok h4) .z) ?_
   obtain ⟨x5,h5,hF⟩:=oE hF
   refine RJ (.c (tablet_Put_v1_ok h5) .z) ?_
   obtain ⟨x6,h6,hF⟩:=oE hF
   refine RJ (.c (tablet_Sync_v1_ok h6) .z) ?_
   obtain ⟨x7,h7,hF⟩:=oE hF
   refine RJ (.c (tablet_Crash_v1_ok h7) .z) ?_
   obtain ⟨x8,h8,hF⟩:=oE hF
   refine RJ (.c (tablet_Flush_v1_ok h8) .z) ?_
   obtain ⟨x9,h9,hF⟩:=oE hF
   refine RJ (.c (tablet_Cut_v1_ok h9) .z) ?_
   obtain ⟨x10,h10,hF⟩:=oE hF
   refine RJ (.c (R_InsideOf_v1_ok h10) .z) ?_
   obtain ⟨x11,h11,hF⟩:=oE hF
   obtain ⟨x12,h12,hF⟩:=oE hF
   refine RJ (.b (zc3 h11) (.a (.callB (.bool x12)) (.g (fun (ga0:(!(!x11))=true)=>(R_SameCells_ok (ite_t h12 ga0))) .z))) ?_
   refine Nif hF ?_ ?_ <;> intro hb hF
   ·refine LR0 ?_
    cases hF
    exact Wz [] hfin
   ·refine LR0 ?_
    refine LR0 ?_
    refine LR0 ?_
    obtain ⟨v,hv,hF⟩:=oE hF
    refine NmT (fun Z=>Z.up [1,4,6,7,11,12,13,14,15,16,17,18,19,20,21,22,23,24,25] [4,6,7,11,13,14,15,16,17,18,19,20,21,22,23,24,25] [] [] [] [(4,(zae v.1)),(11,(zae v.2.1)),(13,(zad v.2.2.1)),(14,(zae v.2.2.2.1)),(15,(zad v.2.2.2.2.1)),(16,(zae v.2.2.2.2.2.1)),(17,(zad v.2.2.2.2.2.2.1)),(18,(zae v.2.2.2.2.2.2.2.1)),(19,(zad v.2.2.2.2.2.2.2.2.1)),(20,(zae v.2.2.2.2.2.2.2.2.2.1)),(21,(zad v.2.2.2.2.2.2.2.2.2.2.1)),(22,(zdj v.2.2.2.2.2.2.2.2.2.2.2.1)),(23,(zad v.2.2.2.2.2.2.2.2.2.2.2.2.1)),(24,(zad v.2.2.2.2.2.2.2.2.2.2.2.2.2.1)),(25,(c_Note v.2.2.2.2.2.2.2.2.2.2.2.2.2.2))] [] []) ?_ ?_
    ·have hF:=hv
     refine Nif hF ?_ ?_ <;> intro hb hF
     ·obtain ⟨x13,h13,hF⟩:=oE hF
      refine RJ (.b (R_NoteFault_ok h13) .z) ?_
      cases hF
      exact met' []
     ·cases hF
      exact met' []
    ·refine LR0 ?_
     refine NmS (fun v1=>law_TabletDoes_J1 l num size x5 v1=some r) (fun Z v1=>Z.up [1,4,6,7,11,12,13,14,15,16,17,18,19,20,21,22,23,24,25] [4,6,7,11,13,14,15,16,17,18,19,20,21,22,23,24,25] [] [] [] [(4,(zae v1.1)),(11,(zae v1.2.1)),(13,(zad v1.2.2.1)),(14,(zae v1.2.2.2.1)),(15,(zad v1.2.2.2.2.1)),(16,(zae v1.2.2.2.2.2.1)),(17,(zad v1.2.2.2.2.2.2.1)),(18,(zae v1.2.2.2.2.2.2.2.1)),(19,(zad v1.2.2.2.2.2.2.2.2.1)),(20,(zae v1.2.2.2.2.2.2.2.2.2.1)),(21,(zad v1.2.2.2.2.2.2.2.2.2.2.1)),(22,(zdj v1.2.2.2.2.2.2.2.2.2.2.2.1)),(23,(zad v1.2.2.2.2.2.2.2.2.2.2.2.2.1)),(24,(zad v1.2.2.2.2.2.2.2.2.2.2.2.2.2.1)),(25,(c_Note v1.2.2.2.2.2.2.2.2.2.2.2.2.2.2))] [] []) ?_ ?_
     ·refine zcb ?_
      unfold law_TabletDoes_L1 at hF
      refine Nits hF [] (fun Z v9=>Z.up [1,4,6,7,11,12,13,14,15,16,17,18,19,20,21,22,23,24,25,26] [4,6,7,11,13,14,15,16,17,18,19,20,21,22,23,24,25] [] [] [(26,.i v9.2.2.2.2.2.2.2.2.2.2.2.2.2.2.2)] [(4,(zae v9.1)),(11,(zae v9.2.1)),(13,(zad v9.2.2.1)),(14,(zae v9.2.2.2.1)),(15,(zad v9.2.2.2.2.1)),(16,(zae v9.2.2.2.2.2.1)),(17,(zad v9.2.2.2.2.2.2.1)),(18,(zae v9.2.2.2.2.2.2.2.1)),(19,(zad v9.2.2.2.2.2.2.2.2.1)),(20,(zae v9.2.2.2.2.2.2.2.2.2.1)),(21,(zad v9.2.2.2.2.2.2.2.2.2.2.1)),(22,(zdj v9.2.2.2.2.2.2.2.2.2.2.2.1)),(23,(zad v9.2.2.2.2.2.2.2.2.2.2.2.2.1)),(24,(zad v9.2.2.2.2.2.2.2.2.2.2.2.2.2.1)),(25,(c_Note v9.2.2.2.2.2.2.2.2.2.2.2.2.2.2.1))] [] []) ?_
      intro n1 v9 y1 hF ih1 dn1
      unfold zeb at hF
      refine RJ (.l zac l .z) ?_
      refine Nif hF ?_ ?_ <;> intro hb hF
      ·refine zcb ?_
       obtain ⟨h35,hF⟩:=aE hF
       refine DJ (.i zac h35 .z) ?_
       obtain ⟨v10,hv,hF⟩:=oE hF
       refine NmT (fun Z=>Z.up [1,4,6,7,11,12,13,14,15,16,17,18,19,20,21,22,23,24,25,26] [4,6,7,11,13,14,15,16,17,18,19,20,21,22,23,24,25] [] [] [] [(4,(zae v10.1)),(11,(zae v10.2.1)),(13,(zad v10.2.2.1)),(14,(zae v10.2.2.2.1)),(15,(zad v10.2.2.2.2.1)),(16,(zae v10.2.2.2.2.2.1)),(17,(zad v10.2.2.2.2.2.2.1)),(18,(zae v10.2.2.2.2.2.2.2.1)),(19,(zad v10.2.2.2.2.2.2.2.2.1)),(20,(zae v10.2.2.2.2.2.2.2.2.2.1)),(21,(zad v10.2.2.2.2.2.2.2.2.2.2.1)),(22,(zdj v10.2.2.2.2.2.2.2.2.2.2.2.1)),(23,(zad v10.2.2.2.2.2.2.2.2.2.2.2.2.1)),(24,(zad v10.2.2.2.2.2.2.2.2.2.2.2.2.2.1)),(25,(c_Note v10.2.2.2.2.2.2.2.2.2.2.2.2.2.2))] [] []) ?_ ?_
       ·have hF:=hv
        refine Nif hF ?_ ?_ <;> intro hb hF
        ·obtain ⟨x32,h36,hF⟩:=lS hF
         refine RJ (.b (zeh h36) .z) ?_
         cases hF
         exact met' []
        ·cases hF
         exact met' []
       ·refine LR0 ?_
        exact Nrnq [] hF ih1
      ·refine zbv rfl ?_
       have hF:=zaj hF dn1
       exact ze6 (v9.1,v9.2.1,v9.2.2.1,v9.2.2.2.1,v9.2.2.2.2.1,v9.2.2.2.2.2.1,v9.2.2.2.2.2.2.1,v9.2.2.2.2.2.2.2.1,v9.2.2.2.2.2.2.2.2.1,v9.2.2.2.2.2.2.2.2.2.1,v9.2.2.2.2.2.2.2.2.2.2.1,v9.2.2.2.2.2.2.2.2.2.2.2.1,v9.2.2.2.2.2.2.2.2.2.2.2.2.1,v9.2.2.2.2.2.2.2.2.2.2.2.2.2.1,v9.2.2.2.2.2.2.2.2.2.2.2.2.2.2.1) [] hF
     ·intro v1 hF
      unfold law_TabletDoes_J1 at hF
      refine LR0 ?_
      refine VR [] [1,4,6,7,11,12,13,14,15,16,17,18,19,20,21,22,23,24,25,27,121] [4,6,7,11,13,14,15,16,17,18,19,20,21,22,23,24,25,27] [] [] [(1,.sl 5 (l.map zac)),(4,.ptr 4 0),(6,.ptr 6 0),(7,.ptr 7 0),(11,.ptr 11 0),(12,.i x5.2.1),(13,.ptr 13 0),(14,.ptr 14 0),(15,.ptr 15 0),(16,.ptr 16 0),(17,.ptr 17 0),(18,.ptr 18 0),(19,.ptr 19 0),(20,.ptr 20 0),(21,.ptr 21 0),(22,.ptr 22 0),(23,.ptr 23 0),(24,.ptr 24 0),(25,.ptr 25 0),(27,.ptr 27 0),(121,.bool (decide (v1.2.2.2.2.2.2.2.2.2.2.2.2.2.1.Code=0)))] [(4,(zae v1.1)),(6,[.i num]),(7,[.i size]),(11,(zae v1.2.1)),(13,(zad v1.2.2.1)),(14,(zae v1.2.2.2.1)),(15,(zad v1.2.2.2.2.1)),(16,(zae v1.2.2.2.2.2.1)),(17,(zad v1.2.2.2.2.2.2.1)),(18,(zae v1.2.2.2.2.2.2.2.1)),(19,(zad v1.2.2.2.2.2.2.2.2.1)),(20,(zae v1.2.2.2.2.2.2.2.2.2.1)),(21,(zad v1.2.2.2.2.2.2.2.2.2.2.1)),(22,(zdj v1.2.2.2.2.2.2.2.2.2.2.2.1)),(23,(zad v1.2.2.2.2.2.2.2.2.2.2.2.2.1)),(24,(zad v1.2.2.2.2.2.2.2.2.2.2.2.2.2.1)),(25,(c_Note v1.2.2.2.2.2.2.2.2.2.2.2.2.2.2)),(27,[.nils])] [] [] .nil ?_
      obtain ⟨v2,hv,hF⟩:=oE hF
      refine NmT (fun Z=>Z.up [1,4,6,7,11,12,13,14,15,16,17,18,19,20,21,22,23,24,25,27] [4,6,7,11,13,14,15,16,17,18,19,20,21,22,23,24,25,27] [] [] [] [(4,(zae v2.1)),(11,(zae v2.2.1)),(13,(zad v2.2.2.1)),(14,(zae v2.2.2.2.1)),(15,(zad v2.2.2.2.2.1)),(16,(zae v2.2.2.2.2.2.1)),(17,(zad v2.2.2.2.2.2.2.1)),(18,(zae v2.2.2.2.2.2.2.2.1)),(19,(zad v2.2.2.2.2.2.2.2.2.1)),(20,(zae v2.2.2.2.2.2.2.2.2.2.1)),(21,(zad v2.2.2.2.2.2.2.2.2.2.2.1)),(22,(zdj v2.2.2.2.2.2.2.2.2.2.2.2.1)),(23,(zad v2.2.2.2.2.2.2.2.2.2.2.2.2.1)),(24,(zad v2.2.2.2.2.2.2.2.2.2.2.2.2.2.1)),(25,(c_Note v2.2.2.2.2.2.2.2.2.2.2.2.2.2.2.1)),(27,[.sl 1 (v2.2.2.2.2.2.2.2.2.2.2.2.2.2.2.2.map zan)])] [] []) ?_ ?_
      ·have hF:=hv
       refine Nif hF ?_ ?_ <;> intro hb hF
       ·obtain ⟨x14,h14,hF⟩:=oE hF
        obtain ⟨x15,h15,hF⟩:=oE hF
        refine RJ (.c (R_NoteBytes_v1_ok h14) (.c (R_Framed_v1_ok h15) .z)) ?_
        refine RJ (.l zan v1.1.Log.Bytes (.l zan x15 .z)) ?_
        refine Nif hF ?_ ?_ <;> intro hb hF
        ·obtain ⟨x16,h16,hF⟩:=lS hF
         refine RJ (.b (zeh h16) .z) ?_
         cases hF
         exact met' []
        ·cases hF
         exact met' []
       ·refine Wk_coeB 27 [.sl 1 (([]:List UInt8).map zan)] rfl (.cons (CoeS.nils 1) .nil) ?_
        cases hF
        exact met' []
      ·refine LR0 ?_
       obtain ⟨v3,hv,hF⟩:=oE hF
       refine NmT (fun Z=>Z.up [4,6,7,11,12,13,14,15,16,17,18,19,20,21,22,23,24,25,27] [4,6,7,11,13,14,15,16,17,18,19,20,21,22,23,24,25,27] [] [] [] [(4,(zae v3.1)),(11,(zae v3.2.1)),(13,(zad v3.2.2.1)),(14,(zae v3.2.2.2.1)),(15,(zad v3.2.2.2.2.1)),(16,(zae v3.2.2.2.2.2.1)),(17,(zad v3.2.2.2.2.2.2.1)),(18,(zae v3.2.2.2.2.2.2.2.1)),(19,(zad v3.2.2.2.2.2.2.2.2.1)),(20,(zae v3.2.2.2.2.2.2.2.2.2.1)),(21,(zad v3.2.2.2.2.2.2.2.2.2.2.1)),(22,(zdj v3.2.2.2.2.2.2.2.2.2.2.2.1)),(23,(zad v3.2.2.2.2.2.2.2.2.2.2.2.2.1)),(24,(zad v3.2.2.2.2.2.2.2.2.2.2.2.2.2.1)),(25,(c_Note v3.2.2.2.2.2.2.2.2.2.2.2.2.2.2))] [] []) ?_ ?_
       ·have hF:=hv
        refine Nif hF ?_ ?_ <;> intro hb hF
        ·refine LR0 ?_
         obtain ⟨x17,h17,hF⟩:=oE hF
         obtain ⟨x18,h18,hF⟩:=oE hF
         refine RJ (.c (law_ownCells_v1_ok h17) (.c (R_PutCells_ok h18) .z)) ?_
         obtain ⟨x19,h19,hF⟩:=oE hF
         obtain ⟨x20,h20,hF⟩:=oE hF
         refine RJ (.c (law_ownCells_v1_ok h19) (.c (R_PutCells_ok h20) .z)) ?_
         obtain ⟨x21,h21,hF⟩:=lS hF
         refine RJ (.b (R_Heavy_ok h21) .z) ?_
         cases hF
         exact met' []
        ·cases hF
         exact met' []
       ·refine LR0 ?_
        obtain ⟨x22,h22,hF⟩:=oE hF
        have p23:=(Pe.ren (law_tabletAs_ok h22) ⟨[(100000,4),(100001,27),(100002,29)],[],[],[]⟩)
        refine RJ (.e [4,27,29] [] p23 .z) ?_
        refine Nif hF ?_ ?_ <;> intro hb hF
        ·refine LR0 ?_
         cases hF
         exact Wz [] hfin
        ·obtain ⟨x23,h24,hF⟩:=oE hF
         have p25:=(Pe.ren (law_tabletAs_v1_ok h24) ⟨[(100000,4),(100001,29)],[],[],[]⟩)
         refine RJ (.e [4,29] [] p25 .z) ?_
         refine Nif hF ?_ ?_ <;> intro hb hF
         ·refine LR0 ?_
          cases hF
          exact Wz [] hfin
         ·refine LR0 ?_
          refine RJ (.a (.nat (v3.1.Log.Bytes.length:Int)) (.g (fun (_:(!(decide (num<0)))=true) (_:(decide (v3.2.2.2.2.2.2.2.2.2.2.2.2.1.Code=0))=true)=>(zdv zan v3.1.Log.Bytes)) .z)) ?_
          obtain ⟨v4,hv,hF⟩:=oE hF
          refine NmT (fun Z=>Z.up [4,6,7,16,17,18,19,20,21,22,23,24,29] [4,6,7,16,17,18,19,20,21,22,23,24,29] [] [] [] [(4,(zae v4.1)),(16,(zae v4.2.1)),(17,(zad v4.2.2.1)),(18,(zae v4.2.2.2.1)),(19,(zad v4.2.2.2.2.1)),(20,(zae v4.2.2.2.2.2.1)),(21,(zad v4.2.2.2.2.2.2.1)),(22,(zdj v4.2.2.2.2.2.2.2.1)),(23,(zad v4.2.2.2.2.2.2.2.2.1)),(24,(zad v4.2.2.2.2.2.2.2.2.2.1)),(29,(zae v4.2.2.2.2.2.2.2.2.2.2))] [] []) ?_ ?_
          ·have hF:=hv
           refine Nif hF ?_ ?_ <;> intro hb hF
           ·obtain ⟨x24,h26,hF⟩:=lS hF
            refine RJ (.b (zeh h26) .z) ?_
            cases hF
            exact met' []
           ·cases hF
            exact met' []
          ·obtain ⟨x25,h27,hF⟩:=oE hF
           have p28:=(Pe.ren (law_tabletAs_v2_ok h27) ⟨[(100000,4),(100001,6),(100002,29)],[],[],[]⟩)
           refine RJ (.e [4,6,29] [] p28 .z) ?_
           refine Nif hF ?_ ?_ <;> intro hb hF
           ·refine LR0 ?_
            cases hF
            exact Wz [] hfin
           ·refine LR0 ?_
            refine LR0 ?_
            obtain ⟨v5,hv,hF⟩:=oE hF
            refine NmT (fun Z=>Z.up [4,7,18,19,20,21,22,23,24] [4,7,18,19,20,21,22,23,24] [] [] [] [(4,(zae v5.1)),(18,(zae v5.2.1)),(19,(zad v5.2.2.1)),(20,(zae v5.2.2.2.1)),(21,(zad v5.2.2.2.2.1)),(22,(zdj v5.2.2.2.2.2.1)),(23,(zad v5.2.2.2.2.2.2.1)),(24,(zad v5.2.2.2.2.2.2.2))] [] []) ?_ ?_
            ·have hF:=hv
             refine Nif hF ?_ ?_ <;> intro hb hF
             ·obtain ⟨x26,h29,hF⟩:=lS hF
              refine RJ (.b (law_sizeFault_ok h29) .z) ?_
              cases hF
              exact met' []
             ·cases hF
              exact met' []
            ·refine LR0 ?_
             obtain ⟨v6,hv,hF⟩:=oE hF
             refine NmT (fun Z=>Z.up [4,7,18,19,20,21,22,23,24] [4,7,18,19,20,21,22,23,24] [] [] [] [(4,(zae v6.1)),(18,(zae v6.2.1)),(19,(zad v6.2.2.1)),(20,(zae v6.2.2.2.1)),(21,(zad v6.2.2.2.2.1)),(22,(zdj v6.2.2.2.2.2.1)),(23,(zad v6.2.2.2.2.2.2.1)),(24,(zad v6.2.2.2.2.2.2.2))] [] []) ?_ ?_
             ·have hF:=hv
              refine Nif hF ?_ ?_ <;> intro hb hF
              ·obtain ⟨x27,h30,hF⟩:=lS hF
               refine RJ (.b (zeh h30) .z) ?_
               cases hF
               exact met' []
              ·cases hF
               exact met' []
             ·refine RJ (.a (.nat (v6.1.Files.length:Int)) (.g (fun (_:(decide (v6.2.2.2.2.2.2.2.Code=0))=true)=>(zdv zag v6.1.Files)) .z)) ?_
              obtain ⟨v7,hv,hF⟩:=oE hF
              refine NmT (fun Z=>Z.up [4,7,18,19,20,21,22,23,24] [4,7,18,19,20,21,22,23,24] [] [] [] [(4,(zae v7.1)),(18,(zae v7.2.1)),(19,(zad v7.2.2.1)),(20,(zae v7.2.2.2.1)),(21,(zad v7.2.2.2.2.1)),(22,(zdj v7.2.2.2.2.2.1)),(23,(zad v7.2.2.2.2.2.2.1)),(24,(zad v7.2.2.2.2.2.2.2))] [] []) ?_ ?_
              ·have hF:=hv
               refine Nif hF ?_ ?_ <;> intro hb hF
               ·obtain ⟨x28,h31,hF⟩:=lS hF
                refine RJ (.b (zeh h31) .z) ?_
                cases hF
                exact met' []
               ·cases hF
                exact met' []
              ·refine LR0 ?_
               obtain ⟨v8,hv,hF⟩:=oE hF
               refine NmT (fun Z=>Z.up [4,7,18,19,20,21,22,23,24] [4,7,18,19,20,21,22,23,24] [] [] [] [(4,(zae v8.1)),(18,(zae v8.2.1)),(19,(zad v8.2.2.1)),(20,(zae v8.2.2.2.1)),(21,(zad v8.2.2.2.2.1)),(22,(zdj v8.2.2.2.2.2.1)),(23,(zad v8.2.2.2.2.2.2.1)),(24,(zad v8.2.2.2.2.2.2.2))] [] []) ?_ ?_
               ·have hF:=hv
                refine Nif hF ?_ ?_ <;> intro hb hF
                ·obtain ⟨x29,h32,hF⟩:=oE hF
                 refine RJ (.b (R_MadeFault_ok h32) .z) ?_
                 cases hF
                 exact met' []
                ·cases hF
                 exact met' []
               ·obtain ⟨x30,h33,hF⟩:=oE hF
                refine RJ (.q [4,22,7] [] (Pe.ren (law_tabletAs_v3_ok h33) ⟨[(100000,4),(100001,22),(100002,7)],[],[],[]⟩) .z) ?_
                refine Nif hF ?_ ?_ <;> intro hb hF
                ·refine LR0 ?_
                 cases hF
                 exact Wz [] hfin
                ·obtain ⟨x31,h34,hF⟩:=oE hF
                 refine RJ (.q [22,4] [] (Pe.ren (law_tabletAs_v4_ok h34) ⟨[(100000,22),(100001,4)],[],[],[]⟩) .z) ?_
                 cases hF
                 exact Wz [] hfin

/- slices.Compact[[]string,string] -/
/- tablet.Halve -/
/- tablet.Part$1 -/
/- tablet.Part$1$1 -/
/- slices.IndexFunc[[]api.Cell,api.Cell] -/
/- slices.DeleteFunc[[]api.Cell,api.Cell] -/
/- tablet.Part$1 -/
/- tablet.with -/
/- tablet.Part -/
/- tablet.Part -/
/- cell.Asked -/
/- (*tablet.tab).early -/
/- cell.Seen -/
/- tablet.Scan -/
/- tablet.Scan -/
/- tabularylaw.TabletHalves -/
/- tablet.Check -/
/- slices.BinarySearchFunc[[]api.Cell,api.Cell,api.Cell] -/
/- cell.Newest -/
/- tablet.Get -/
/- tabularyref.SeenCell -/
/- tabularyref.AskFault -/
/- tabularyref.Scanned -/
/- tabularylaw.TabletAsks$1 -/
/- tabularylaw.cellsAs -/
/- tabularyref.RowsOf -/
/- tabularylaw.TabletAsks -/
/- tablet.Compact$1 -/
/- tablet.Compact$1$1 -/
/- slices.IndexFunc[[]api.Cell,api.Cell] -/
/- slices.ContainsFunc[[]api.Cell,api.Cell] -/
/- merge.fault -/
/- merge.lists -/
/- (merge.heap).less -/
/- (merge.heap).down -/
/- merge.joined$1 -/
/- merge.each -/
/- merge.joined -/
/- merge.Join -/
/- merge.Compact -/
/- slices.Clone[[][]byte,[]byte] -/
/- tablet.Compact$1 -/
/- tablet.with -/
/- tablet.Compact -/
/- tablet.Compact -/
/- tabularyref.Compacted -/
/- tabularylaw.TabletMakes$1 -/
/- tabularylaw.tabletAs -/
/- tabularyref.Between -/
/- tabularylaw.TabletMakes$2 -/
/- tabularylaw.tabletAs -/
/- tabularylaw.TabletMakes -/
/- tabularylaw.TabletKeeps$1 -/
/- tabularylaw.cellsAs -/
/- tabularylaw.TabletKeeps -/
end
end G
end Go.Proofs.YticbfakiihfgmaaGreat
