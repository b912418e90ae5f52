/- The program's functions as plain functions, and that they are these. Written by a program (dec2.py). -/
import Derived.Test.YticbfakiihfgmaaGreatGf4
namespace Go.Proofs.YticbfakiihfgmaaGreat
open Go Go.Dm
set_option linter.unusedVariables false
set_option linter.unusedSimpArgs false
set_option maxRecDepth 100000
namespace G
noncomputable section
/- tabularyref.Compacted -/
def zmf (v:Cs):Option Cs:=
 some v
def zfs (v1:Cs×Int)(v2:Cs):Option ((Cs×Int)⊕Cs):=
 some (Sum.inl (v2,w64 (v1.2+1)))
def zdp (since:Int)(whole:Bool)(v1:Cs×Int)(v3:Cell×Bool):Option ((Cs×Int)⊕Cs):=
 if ((decide (v3.1.Time<=since))&&(v3.2||(v3.1.Gone&&whole)))=true then
  zfs v1 v1.1
 else
  zao (((v1.1++[v3.1]).length:Int)*64<=140737488351232) <|
  zfs v1 (v1.1++[v3.1])
def zg1 (all:Cs)(since:Int)(whole:Bool)(v1:Cs×Int)(v4:Cell×Bool×Int):Option ((Cell×Bool×Int)⊕((Cs×Int)⊕Cs)):=
 if (decide (v4.2.2<v1.2))=true then
  zao ((!v4.2.1)=true->0<=v4.2.2/\v4.2.2<(all.length:Int)) <|
  zao ((decide (((zad all v4.2.2).Row)=v4.1.Row))=true->(!v4.2.1)=true->0<=v4.2.2/\v4.2.2<(all.length:Int)) <|
  zao (((decide (((zad all v4.2.2).Row)=v4.1.Row))&&(decide (((zad all v4.2.2).Col)=v4.1.Col)))=true->(!v4.2.1)=true->0<=v4.2.2/\v4.2.2<(all.length:Int)) <|
  lt (v4.2.1||(((decide (((zad all v4.2.2).Row)=v4.1.Row))&&(decide (((zad all v4.2.2).Col)=v4.1.Col)))&&(decide (((zad all v4.2.2).Time)<=since)))) fun v5=>
  some (Sum.inl (v4.1,v5,w64 (v4.2.2+1)))
 else
  zev (zdp since whole v1 (v4.1,v4.2.1))
def zjj (all:Cs)(since:Int)(whole:Bool)(v1:Cs×Int)(v0:Cell×Bool×Int):Option ((Cs×Int)⊕Cs):=
 zbg (fun y=>zg1 all since whole v1 y) v0
def zha (all:Cs)(since:Int)(whole:Bool)(v1:Cs×Int):Option ((Cs×Int)⊕Cs):=
 if (decide (v1.2<(all.length:Int)))=true then
  zao (0<=v1.2/\v1.2<(all.length:Int)) <|
  zjj all since whole v1 ((⟨(zad all v1.2).Row,(zad all v1.2).Col,(zad all v1.2).Time,(zad all v1.2).Gone,(zad all v1.2).Value⟩:Cell),false,0)
 else
  zev (zmf v1.1)
def zmm (all:Cs)(since:Int)(whole:Bool)(v0:Cs×Int):Option Cs:=
 zbg (fun y=>zha all since whole y) v0
def zjx (all:Cs)(since:Int)(whole:Bool):Option Cs:=
 zmm all since whole (([]:Cs),0)
theorem R_Compacted_v1_ok {all since whole r}(hF:zjx all since whole=some r):Pe Tryz.prog 52 S.none [.sl 5 (all.map zab),.i since,.bool whole] (.sl 5 (r.map zab)) S.none:=by
 refine PT 76 [.tmp 6] [28] Tryz.func52 ?_
 intro Q g hfin
 unfold zjx at hF
 refine LR0 ?_
 refine LR0 ?_
 refine NR [] [0,1,2,7,8] [] [] [(0,.sl 5 (all.map zab)),(1,.i since),(2,.bool whole),(7,.nils),(8,.i 0)] .nil ?_
 refine NmQ (fun v=>zmf v=some r) (fun v=>⟨[(7,.row 74 0)],[],[(74,.z 53 5 0 (v.map zab))],[],[]⟩) ?_ ?_
 ·refine zb5 ?_
  unfold zmm at hF
  refine zap 7 60000 53 5 rfl rfl rfl ?_
  refine zcj (fs:=[0,1,2,7,8]) (bs:=[]) (rs:=[60000]) (ms:=[]) (aa:=[]) (nv:=[]) rfl ?_
  refine zau ⟨[],[(60000,74)],[],[]⟩ rfl ?_
  refine zrv hF [] (fun v1=>⟨[(0,.sl 5 (all.map zab)),(1,.i since),(2,.bool whole),(7,.row 74 0),(8,.i v1.2)],[],[(74,.z 53 5 0 (v1.1.map zab))],[],[]⟩) ?_
  intro n1 v1 y1 hF ih1 dn1
  unfold zha at hF
  refine RJ (.l zab all .z) ?_
  refine Nif hF ?_ ?_ <;> intro hb hF
  ·refine NmS (fun v2=>zfs v1 v2=some y1) (fun Z v2=>Z.up [0,1,2,7,8] [] [74] [] [] [] [(74,.z 53 5 0 (v2.map zab))] []) ?_ ?_
   ·refine zb5 ?_
    have⟨h0,hF⟩:=aE hF
    refine RJ (.i zab h0 .z) ?_
    refine LR0 ?_
    refine LR0 ?_
    refine NmS (fun v3=>zdp since whole v1 v3=some y1) (fun Z v3=>Z.up [0,1,2,7,8,9,10] [9] [74] [] [(10,.bool v3.2)] [(9,(zg9 v3.1))] [] []) ?_ ?_
    ·refine zb5 ?_
     unfold zjj at hF
     refine zoy hF [] (fun Z v4=>Z.up [0,1,2,7,8,9,10,11] [9] [74] [] [(10,.bool v4.2.1),(11,.i v4.2.2)] [(9,(zg9 v4.1))] [] []) ?_
     intro n2 v4 y2 hF ih2 dn2
     unfold zg1 at hF
     refine LR0 ?_
     refine Nif hF ?_ ?_ <;> intro hb hF
     ·refine zb5 ?_
      have⟨h2,h3,hF⟩:=zf7 hF
      have⟨h4,hF⟩:=aE hF
      refine NDL (v4.2.1||(((decide (((zad all v4.2.2).Row)=v4.1.Row))&&(decide (((zad all v4.2.2).Col)=v4.1.Col)))&&(decide (((zad all v4.2.2).Time)<=since)))) (fun v5:Bool=>([(10,.bool v5)],[],[],[])) [.av (zab (zad all v4.2.2)),.av (zab (zad all v4.2.2)),.av (zab (zad all v4.2.2))] [0,1,2,7,8,9,10,11] [9] [74] [] (hc (fun (ga0:(!v4.2.1)=true)=>(zgi zab (h2 ga0))) (hc (fun (ga0:(decide (((zad all v4.2.2).Row)=v4.1.Row))=true) (ga1:(!v4.2.1)=true)=>(zgi zab (h3 ga0 ga1))) (hc (fun (ga0:((decide (((zad all v4.2.2).Row)=v4.1.Row))&&(decide (((zad all v4.2.2).Col)=v4.1.Col)))=true) (ga1:(!v4.2.1)=true)=>(zgi zab (h4 ga0 ga1))) .nil))) (fun v5 hv=>?_)
      have hF:=zeg hF hv
      refine LR0 ?_
      exact zgb [] hF ih2
     ·refine zbm rfl ?_
      have hF:=zaj hF dn2
      exact ze4 (v4.1,v4.2.1) [] hF
    ·intro v3 hF
     unfold zdp at hF
     refine LR0 ?_
     refine Nif hF ?_ ?_ <;> intro hb hF
     ·refine zbm rfl ?_
      exact ze4 v1.1 [] hF
     ·have⟨h1,hF⟩:=aE hF
      refine RJ (.a (.sealed) (.p zab h1 .z)) ?_
      exact ze4 (v1.1++[v3.1]) [(74,⟨0,true,true,false⟩)] hF
   ·intro v2 hF
    unfold zfs at hF
    refine LR0 ?_
    exact zgb [] hF ih1
  ·refine zbm rfl ?_
   have hF:=zaj hF dn1
   exact ze4 v1.1 [] hF
 ·intro v hF
  unfold zmf at hF
  refine LR0 ?_
  cases hF
  exact Wz [] hfin

/- tabularylaw.TabletMakes$1 -/
def zgz (box:Tablet)(box1:Int)(box2:Cs)(box3 box4:Int):Option Tablet:=
 zao (0<=box1/\box1<=(box.Files.length:Int)) <|
 ob (zn1 (zd8 box.Files box1)) fun x=>
 ob (R_FileOf box2 box3) fun x1=>
 zao (((x++([x1]:B9)).length:Int)*24<=140737488351232) <|
 some (⟨box.Log,(x++([x1]:B9)),box.Done,(max box.Since box4)⟩:Tablet)
theorem ztd {box box1 box2 box3 box4 r}(hF:zgz box box1 box2 box3 box4=some r):Pe Tryz.prog 54 ⟨[],[(100000,(zag box)),(100001,[.i box1]),(100002,[.sl 5 (box2.map zab)]),(100003,[.i box3]),(100004,[.i box4])],[],[],[]⟩ [.ptr 100000 0,.ptr 100001 0,.ptr 100002 0,.ptr 100003 0,.ptr 100004 0] (.agg (zag r)) ⟨[],[(100000,(zag box)),(100001,[.i box1]),(100002,[.sl 5 (box2.map zab)]),(100003,[.i box3]),(100004,[.i box4])],[],[],[]⟩:=by
 refine PT 25 [.cell 5 27] [27] Tryz.func54 ?_
 intro Q g hfin
 unfold zgz at hF
 refine LR0 ?_
 have⟨h0,hF⟩:=aE hF
 have⟨x,h1,hF⟩:=oE hF
 have p2:=(Pe.ren (law_ownBodies_ok h1) ⟨[],[(18,12)],[],[]⟩)
 have⟨x1,h3,hF⟩:=oE hF
 have p4:=(Pe.ren (R_FileOf_ok h3) ⟨[],[(45,15)],[],[]⟩)
 have⟨h5,hF⟩:=aE hF
 refine DJ (.s01 zaf h0 (.e [] [] p2 (.e [] [] p4 (.a (.sealed) (.p zaf h5 .z))))) ?_
 cases hF
 exact Wz [] hfin

/- tabularylaw.tabletAs -/
def zfy (t0:Tablet)(f w0:Fault)(box:Tablet)(box1:Int)(box2:Cs)(box3 box4:Int):Option Bool:=
 if (!(decide (f.Code=w0.Code)&&(decide (f.At=w0.At)&&true)))=true then
  some false
 else
  if (!decide (w0.Code=0))=true then
   ob (zek t0 (⟨(⟨([]:B8),0⟩:Disk),([]:B9),0,0⟩:Tablet)) fun x=>
   some x
  else
   ob (zgz box box1 box2 box3 box4) fun x1=>
   ob (zek t0 x1) fun x2=>
   some x2
theorem law_tabletAs_v5_ok {t0 f w0 box box1 box2 box3 box4 r}(hF:zfy t0 f w0 box box1 box2 box3 box4=some r):Pe Tryz.prog 27 ⟨[],[(100000,(zag box)),(100001,[.i box1]),(100002,[.sl 5 (box2.map zab)]),(100003,[.i box3]),(100004,[.i box4])],[],[],[]⟩ [.agg (zag t0),.agg (zae f),.agg (zae w0),.fn 54 [.ptr 100000 0,.ptr 100001 0,.ptr 100002 0,.ptr 100003 0,.ptr 100004 0]] (.bool r) ⟨[],[(100000,(zag box)),(100001,[.i box1]),(100002,[.sl 5 (box2.map zab)]),(100003,[.i box3]),(100004,[.i box4])],[],[],[]⟩:=by
 refine PT 22 [.tmp 8] [4] Tryz.func27 ?_
 intro Q g hfin
 unfold zfy at hF
 refine LR0 ?_
 refine LR0 ?_
 refine Nif hF ?_ ?_ <;> intro hb hF
 ·refine LR0 ?_
  cases hF
  exact Wz [] hfin
 ·refine LR0 ?_
  refine Nif hF ?_ ?_ <;> intro hb hF
  ·have⟨x,h0,hF⟩:=oE hF
   refine RJ (.b (ziu h0) .z) ?_
   cases hF
   exact Wz [] hfin
  ·have⟨x1,h1,hF⟩:=oE hF
   have⟨x2,h2,hF⟩:=oE hF
   refine DJ (.q [100000,100001,100002,100003,100004] [] (Pe.ren (ztd h1) ⟨[],[],[],[]⟩) (.b (ziu h2) .z)) ?_
   cases hF
   exact Wz [] hfin

/- tabularyref.Between -/
def zo7 (v:Cs):Option Cs:=
 some v
def zf0 (l:Cs)(from0 to0:B8)(v1:Cs×Int):Option ((Cs×Int)⊕Cs):=
 if (decide (v1.2<(l.length:Int)))=true then
  zao (0<=v1.2/\v1.2<(l.length:Int)) <|
  zao ((!(decide (to0=([]:B8))))=true->(!Op.bytesLess ((zad l v1.2).Row) from0)=true->0<=v1.2/\v1.2<(l.length:Int)) <|
  ob (
   if ((!Op.bytesLess ((zad l v1.2).Row) from0)&&((decide (to0=([]:B8)))||(Op.bytesLess ((zad l v1.2).Row) to0)))=true then
    zao (0<=v1.2/\v1.2<(l.length:Int)) <|
    zao (((v1.1++[(⟨(zad l v1.2).Row,(zad l v1.2).Col,(zad l v1.2).Time,(zad l v1.2).Gone,(zad l v1.2).Value⟩:Cell)]).length:Int)*64<=140737488351232) <|
    lt ((v1.1++[(⟨(zad l v1.2).Row,(zad l v1.2).Col,(zad l v1.2).Time,(zad l v1.2).Gone,(zad l v1.2).Value⟩:Cell)])) fun v3=>
    some v3
   else
    some v1.1) fun v2=>
  some (Sum.inl (v2,w64 (v1.2+1)))
 else
  zev (zo7 v1.1)
def R_Between_v1_L1 (l:Cs)(from0 to0:B8)(v0:Cs×Int):Option Cs:=
 zbg (fun y=>zf0 l from0 to0 y) v0
def zp4 (l:Cs)(from0 to0:B8):Option Cs:=
 R_Between_v1_L1 l from0 to0 (([]:Cs),0)
theorem R_Between_v1_ok {l from0 to0 r}(hF:zp4 l from0 to0=some r):Pe Tryz.prog 56 S.none [.sl 5 (l.map zab),.str from0,.str to0] (.sl 5 (r.map zab)) S.none:=by
 refine PT 43 [.tmp 6] [28] Tryz.func56 ?_
 intro Q g hfin
 unfold zp4 at hF
 refine LR0 ?_
 refine LR0 ?_
 refine NR [] [0,1,2,7,8] [] [] [(0,.sl 5 (l.map zab)),(1,.str from0),(2,.str to0),(7,.nils),(8,.i 0)] .nil ?_
 refine NmQ (fun v=>zo7 v=some r) (fun v=>⟨[(7,.row 41 0)],[],[(41,.z 53 5 0 (v.map zab))],[],[]⟩) ?_ ?_
 ·refine zb5 ?_
  unfold R_Between_v1_L1 at hF
  refine zap 7 60000 53 5 rfl rfl rfl ?_
  refine zcj (fs:=[0,1,2,7,8]) (bs:=[]) (rs:=[60000]) (ms:=[]) (aa:=[]) (nv:=[]) rfl ?_
  refine zau ⟨[],[(60000,41)],[],[]⟩ rfl ?_
  refine zrv hF [] (fun v1=>⟨[(0,.sl 5 (l.map zab)),(1,.str from0),(2,.str to0),(7,.row 41 0),(8,.i v1.2)],[],[(41,.z 53 5 0 (v1.1.map zab))],[],[]⟩) ?_
  intro n1 v1 y1 hF ih1 dn1
  unfold zf0 at hF
  refine RJ (.l zab l .z) ?_
  refine Nif hF ?_ ?_ <;> intro hb hF
  ·refine zb5 ?_
   have⟨h0,h1,hF⟩:=zf7 hF
   refine RJ (.i zab h0 (.a (.av (zab (zad l v1.2))) (.g (fun (ga0:(!(decide (to0=([]:B8))))=true) (ga1:(!Op.bytesLess ((zad l v1.2).Row) from0)=true)=>(zgi zab (h1 ga0 ga1))) .z))) ?_
   have⟨v2,hv,hF⟩:=oE hF
   refine NmT (fun Z=>Z.up [0,1,2,7,8] [] [41] [] [] [] [(41,.z 53 5 0 (v2.map zab))] []) ?_ ?_
   ·have hF:=hv
    refine Nif hF ?_ ?_ <;> intro hb hF
    ·have⟨h2,hF⟩:=aE hF
     have⟨h3,hF⟩:=aE hF
     have⟨v3,hv,hF⟩:=lS hF
     refine RJ (.i zab h2 (.a (.sealed) (.pN zab hv h3 .z))) ?_
     cases hF
     exact zgt [(41,⟨0,true,true,false⟩)]
    ·cases hF
     exact zgt []
   ·refine LR0 ?_
    exact zgb [] hF ih1
  ·refine zbm rfl ?_
   have hF:=zaj hF dn1
   exact ze4 v1.1 [] hF
 ·intro v hF
  unfold zo7 at hF
  refine LR0 ?_
  cases hF
  exact Wz [] hfin

/- tabularylaw.TabletMakes$2 -/
def zjo (box:Inside)(box1:Tablet)(box2:Cs)(box3:Int):Option (Tablet×Inside×Tablet):=
 ob (
  if (decide (0<(box2.length:Int)))=true then
   ob (zkg box2 box3) fun x=>
   some ((⟨(⟨([]:B8),0⟩:Disk),([]:B9),0,0⟩:Tablet),(⟨(⟨([]:B8),0⟩:Disk),([x]:B9),box.Last,box1.Since⟩:Tablet),box,box1)
  else
   some ((⟨(⟨([]:B8),0⟩:Disk),([]:B9),0,0⟩:Tablet),(⟨(⟨([]:B8),0⟩:Disk),([]:B9),box.Last,box1.Since⟩:Tablet),box,box1)) fun (v:Tablet×Tablet×Inside×Tablet)=>
 some (v.2.1,v.2.2.1,v.2.2.2)
theorem law_TabletMakes_2_ok {box box1 box2 box3 r}(hF:zjo box box1 box2 box3=some r):Pe Tryz.prog 57 ⟨[],[(100000,(zeu box)),(100001,(zag box1)),(100002,[.sl 5 (box2.map zab)]),(100003,[.i box3])],[],[],[]⟩ [.ptr 100000 0,.ptr 100001 0,.ptr 100002 0,.ptr 100003 0] (.agg (zag r.1)) ⟨[],[(100000,(zeu r.2.1)),(100001,(zag r.2.2)),(100002,[.sl 5 (box2.map zab)]),(100003,[.i box3])],[],[],[]⟩:=by
 refine PT 20 [.cell 4 27] [27] Tryz.func57 ?_
 intro Q g hfin
 unfold zjo at hF
 refine LR0 ?_
 refine LR0 ?_
 refine VR [.nat (box2.length:Int)] [2,3,4,5,13] [4,5,100000,100001,100002,100003] [] [] [(2,.ptr 100002 0),(3,.ptr 100003 0),(4,.ptr 4 0),(5,.ptr 5 0),(13,.bool (decide (0<(box2.length:Int))))] [(4,[.nils,.i 0,.nils,.i 0,.i 0]),(5,[.nils,.i 0,.nils,.i box.Last,.i box1.Since]),(100000,(zeu box)),(100001,(zag box1)),(100002,[.sl 5 (box2.map zab)]),(100003,[.i box3])] [] [] (hc (zc5 zab box2) .nil) ?_
 have⟨v,hv,hF⟩:=oE hF
 refine NmT (fun Z=>Z.up [4,5] [4,5,100000,100001,100002,100003] [] [] [] [(4,(zag v.1)),(5,(zag v.2.1)),(100000,(zeu v.2.2.1)),(100001,(zag v.2.2.2))] [] []) ?_ ?_
 ·have hF:=hv
  refine Nif hF ?_ ?_ <;> intro hb hF
  ·have⟨x,h0,hF⟩:=oE hF
   refine VR [.call (.sl 1 (x.map zas)),.sealed] [4,5] [4,5,100000,100001,100002,100003] [] [] [(4,.ptr 4 0),(5,.ptr 5 0)] [(4,[.nils,.i 0,.nils,.i 0,.i 0]),(5,[.nils,.i 0,.sl 1 (([x]:B9).map zaf),.i box.Last,.i box1.Since]),(100000,(zeu box)),(100001,(zag box1)),(100002,[.sl 5 (box2.map zab)]),(100003,[.i box3])] [] [] (hc (R_FileOf_v1_ok h0) .nil) ?_
   refine znk 5 [.sl 1 (([]:B8).map zas),.i 0,.sl 1 (([x]:B9).map zaf),.i box.Last,.i box1.Since] rfl (.cons (CoeS.nils 1) (.cons (CoeS.refl _) (.cons (CoeS.refl _) (.cons (CoeS.refl _) (.cons (CoeS.refl _) .nil))))) ?_
   refine znk 4 [.sl 1 (([]:B8).map zas),.i 0,.sl 1 (([]:B9).map zaf),.i 0,.i 0] rfl (.cons (CoeS.nils 1) (.cons (CoeS.refl _) (.cons (CoeS.nils 1) (.cons (CoeS.refl _) (.cons (CoeS.refl _) .nil))))) ?_
   cases hF
   exact zgt []
  ·refine znk 5 [.sl 1 (([]:B8).map zas),.i 0,.sl 1 (([]:B9).map zaf),.i box.Last,.i box1.Since] rfl (.cons (CoeS.nils 1) (.cons (CoeS.refl _) (.cons (CoeS.nils 1) (.cons (CoeS.refl _) (.cons (CoeS.refl _) .nil))))) ?_
   refine znk 4 [.sl 1 (([]:B8).map zas),.i 0,.sl 1 (([]:B9).map zaf),.i 0,.i 0] rfl (.cons (CoeS.nils 1) (.cons (CoeS.refl _) (.cons (CoeS.nils 1) (.cons (CoeS.refl _) (.cons (CoeS.refl _) .nil))))) ?_
   cases hF
   exact zgt []
 ·refine LR0 ?_
  cases hF
  exact Wz [] hfin

/- tabularylaw.tabletAs -/
def zfv (t0:Tablet)(f w0:Fault)(box:Inside)(box1:Tablet)(box2:Cs)(box3:Int):Option (Bool×Inside×Tablet):=
 if (!(decide (f.Code=w0.Code)&&(decide (f.At=w0.At)&&true)))=true then
  some (false,box,box1)
 else
  if (!decide (w0.Code=0))=true then
   ob (zek t0 (⟨(⟨([]:B8),0⟩:Disk),([]:B9),0,0⟩:Tablet)) fun x=>
   some (x,box,box1)
  else
   ob (zjo box box1 box2 box3) fun x1=>
   ob (zek t0 x1.1) fun x2=>
   some (x2,x1.2.1,x1.2.2)
theorem law_tabletAs_v6_ok {t0 f w0 box box1 box2 box3 r}(hF:zfv t0 f w0 box box1 box2 box3=some r):Pe Tryz.prog 27 ⟨[],[(100000,(zeu box)),(100001,(zag box1)),(100002,[.sl 5 (box2.map zab)]),(100003,[.i box3])],[],[],[]⟩ [.agg (zag t0),.agg (zae f),.agg (zae w0),.fn 57 [.ptr 100000 0,.ptr 100001 0,.ptr 100002 0,.ptr 100003 0]] (.bool r.1) ⟨[],[(100000,(zeu r.2.1)),(100001,(zag r.2.2)),(100002,[.sl 5 (box2.map zab)]),(100003,[.i box3])],[],[],[]⟩:=by
 refine PT 22 [.tmp 8] [4] Tryz.func27 ?_
 intro Q g hfin
 unfold zfv at hF
 refine LR0 ?_
 refine LR0 ?_
 refine Nif hF ?_ ?_ <;> intro hb hF
 ·refine LR0 ?_
  cases hF
  exact Wz [] hfin
 ·refine LR0 ?_
  refine Nif hF ?_ ?_ <;> intro hb hF
  ·have⟨x,h0,hF⟩:=oE hF
   refine RJ (.b (ziu h0) .z) ?_
   cases hF
   exact Wz [] hfin
  ·have⟨x1,h1,hF⟩:=oE hF
   have p2:=(Pe.ren (law_TabletMakes_2_ok h1) ⟨[],[],[],[]⟩)
   have⟨x2,h3,hF⟩:=oE hF
   refine DJ (.e [100000,100001,100002,100003] [] p2 (.b (ziu h3) .z)) ?_
   cases hF
   exact Wz [] hfin

/- tabularylaw.TabletMakes -/
def zej (at0 since size:Int)(from0 to0:B8)(v3:Tablet×Tablet×Fault×Tablet×Fault×Inside×Fault×Fault×Cs):Option Bool:=
 ob (zfy v3.2.1 v3.2.2.1 v3.2.2.2.2.2.2.2.1 v3.1 at0 v3.2.2.2.2.2.2.2.2 size since) fun x10=>
 if (!x10)=true then
  some false
 else
  ob (
   if (decide (v3.2.2.2.2.2.2.1.Code=0))=true then
    lt (zlk size) fun x11=>
    some (v3.1,v3.2.2.2.1,v3.2.2.2.2.1,v3.2.2.2.2.2.1,x11)
   else
    some (v3.1,v3.2.2.2.1,v3.2.2.2.2.1,v3.2.2.2.2.2.1,v3.2.2.2.2.2.2.1)) fun v4=>
  ob (zp4 v4.2.2.2.1.All from0 to0) fun x12=>
  ob (
   if (decide (v4.2.2.2.2.Code=0))=true then
    ob (zmk x12 size) fun x13=>
    some (v4.1,v4.2.1,v4.2.2.1,v4.2.2.2.1,x13)
   else
    some (v4.1,v4.2.1,v4.2.2.1,v4.2.2.2.1,v4.2.2.2.2)) fun v5=>
  ob (zfv v5.2.1 v5.2.2.1 v5.2.2.2.2 v5.2.2.2.1 v5.1 x12 size) fun x14=>
  some x14.1
def zd3 (at0 since size:Int)(from0 to0:B8)(v6:Tablet×Tablet×Fault×Tablet×Fault×Inside×Fault×Fault×Bool):Option Bool:=
 zao (0<=at0/\at0<=(v6.2.2.2.2.2.1.Files.length:Int)) <|
 ob (zoe (zc1 v6.2.2.2.2.2.1.Files at0)) fun x15=>
 ob (zjx x15 since v6.2.2.2.2.2.2.2.2) fun x16=>
 ob (zmk x16 size) fun x17=>
 zej at0 since size from0 to0 (v6.1,v6.2.1,v6.2.2.1,v6.2.2.2.1,v6.2.2.2.2.1,v6.2.2.2.2.2.1,v6.2.2.2.2.2.2.1,x17,x16)
def zgk (at0 since size:Int)(from0 to0:B8)(v7:Tablet×Tablet×Fault×Tablet×Fault×Inside×Fault×Fault×Bool×Int):Option ((Tablet×Tablet×Fault×Tablet×Fault×Inside×Fault×Fault×Bool×Int)⊕Bool):=
 if (decide (v7.2.2.2.2.2.2.2.2.2<(v7.2.2.2.2.2.1.Mem.length:Int)))=true then
  zao (v7.2.2.2.2.2.2.2.2.1=true->0<=v7.2.2.2.2.2.2.2.2.2/\v7.2.2.2.2.2.2.2.2.2<(v7.2.2.2.2.2.1.Mem.length:Int)) <|
  lt (v7.2.2.2.2.2.2.2.2.1&&(decide (since<=((zad v7.2.2.2.2.2.1.Mem v7.2.2.2.2.2.2.2.2.2).Time)))) fun v8=>
  some (Sum.inl (v7.1,v7.2.1,v7.2.2.1,v7.2.2.2.1,v7.2.2.2.2.1,v7.2.2.2.2.2.1,v7.2.2.2.2.2.2.1,v7.2.2.2.2.2.2.2.1,v8,w64 (v7.2.2.2.2.2.2.2.2.2+1)))
 else
  zev (zd3 at0 since size from0 to0 (v7.1,v7.2.1,v7.2.2.1,v7.2.2.2.1,v7.2.2.2.2.1,v7.2.2.2.2.2.1,v7.2.2.2.2.2.2.1,v7.2.2.2.2.2.2.2.1,v7.2.2.2.2.2.2.2.2.1))
def zgg (at0 since size:Int)(from0 to0:B8)(v0:Tablet×Tablet×Fault×Tablet×Fault×Inside×Fault×Fault×Bool×Int):Option Bool:=
 zbg (fun y=>zgk at0 since size from0 to0 y) v0
def zlv (t0:Tablet)(at0 since size:Int)(from0 to0:B8):Option Bool:=
 ob (zix) fun x=>
 if (!x)=true then
  some false
 else
  ob (zh4 t0) fun x1=>
  if x1=true then
   some true
  else
   ob (zll t0) fun x2=>
   ob (zhf x2 at0 since size) fun x3=>
   ob (zjy x2 from0 to0 size) fun x4=>
   ob (zly t0) fun x5=>
   ob (zek x2 t0) fun x6=>
   if (!x6)=true then
    some false
   else
    ob (
     if ((decide (x5.2.Code=0))&&((decide (at0<0))||(decide ((t0.Files.length:Int)<=at0))))=true then
      lt (R_F 3 (-2)) fun x7=>
      some (t0,x3.1,x3.2,x4.1,x4.2,x5.1,x5.2,x7)
     else
      some (t0,x3.1,x3.2,x4.1,x4.2,x5.1,x5.2,x5.2)) fun (v:Tablet×Tablet×Fault×Tablet×Fault×Inside×Fault×Fault)=>
    ob (
     if ((decide (v.2.2.2.2.2.2.2.Code=0))&&((decide (since<0))||(decide (1000000000<since))))=true then
      lt (R_F 3 (-3)) fun x8=>
      some (v.1,v.2.1,v.2.2.1,v.2.2.2.1,v.2.2.2.2.1,v.2.2.2.2.2.1,v.2.2.2.2.2.2.1,x8)
     else
      some (v.1,v.2.1,v.2.2.1,v.2.2.2.1,v.2.2.2.2.1,v.2.2.2.2.2.1,v.2.2.2.2.2.2.1,v.2.2.2.2.2.2.2)) fun (v1:Tablet×Tablet×Fault×Tablet×Fault×Inside×Fault×Fault)=>
    ob (
     if (decide (v1.2.2.2.2.2.2.2.Code=0))=true then
      lt (zlk size) fun x9=>
      some (v1.1,v1.2.1,v1.2.2.1,v1.2.2.2.1,v1.2.2.2.2.1,v1.2.2.2.2.2.1,v1.2.2.2.2.2.2.1,x9)
     else
      some (v1.1,v1.2.1,v1.2.2.1,v1.2.2.2.1,v1.2.2.2.2.1,v1.2.2.2.2.2.1,v1.2.2.2.2.2.2.1,v1.2.2.2.2.2.2.2)) fun v2=>
    if (decide (v2.2.2.2.2.2.2.2.Code=0))=true then
     zgg at0 since size from0 to0 (v2.1,v2.2.1,v2.2.2.1,v2.2.2.2.1,v2.2.2.2.2.1,v2.2.2.2.2.2.1,v2.2.2.2.2.2.2.1,v2.2.2.2.2.2.2.2,decide (at0=0),0)
    else
     zej at0 since size from0 to0 (v2.1,v2.2.1,v2.2.2.1,v2.2.2.2.1,v2.2.2.2.2.1,v2.2.2.2.2.2.1,v2.2.2.2.2.2.2.1,v2.2.2.2.2.2.2.2,([]:Cs))
theorem law_TabletMakes_ok {t0 at0 since size from0 to0 r}(hF:zlv t0 at0 since size from0 to0=some r):Pe Tryz.prog 6 S.none [.agg (zag t0),.i at0,.i since,.i size,.str from0,.str to0] (.bool r) S.none:=by
 refine PT 150 [.tmp 12] [4] Tryz.func6 ?_
 intro Q g hfin
 unfold zlv at hF
 refine LR0 ?_
 have⟨x,h0,hF⟩:=oE hF
 refine RJ (.b (law_tabletBegun_ok h0) .z) ?_
 refine Nif hF ?_ ?_ <;> intro hb hF
 ·refine LR0 ?_
  cases hF
  exact Wz [] hfin
 ·have⟨x1,h1,hF⟩:=oE hF
  refine RJ (.b (law_vastTablet_ok h1) .z) ?_
  refine Nif hF ?_ ?_ <;> intro hb hF
  ·refine LR0 ?_
   cases hF
   exact Wz [] hfin
  ·have⟨x2,h2,hF⟩:=oE hF
   refine RJ (.c (law_ownTablet_ok h2) .z) ?_
   have⟨x3,h3,hF⟩:=oE hF
   refine RJ (.c (tablet_Compact_v1_ok h3) .z) ?_
   have⟨x4,h4,hF⟩:=oE hF
   refine RJ (.c (tablet_Part_v1_ok h4) .z) ?_
   have⟨x5,h5,hF⟩:=oE hF
   refine RJ (.c (R_InsideOf_v1_ok h5) .z) ?_
   have⟨x6,h6,hF⟩:=oE hF
   refine RJ (.b (ziu h6) .z) ?_
   refine Nif hF ?_ ?_ <;> intro hb hF
   ·refine LR0 ?_
    cases hF
    exact Wz [] hfin
   ·refine LR0 ?_
    refine RJ (.a (.nat (t0.Files.length:Int)) (.g (fun (_:(!(decide (at0<0)))=true) (_:(decide (x5.2.Code=0))=true)=>(zc5 zaf t0.Files)) .z)) ?_
    have⟨v,hv,hF⟩:=oE hF
    refine NmT (fun Z=>Z.up [4,5,6,7,8,9,14,15,16,17,18,19,20] [6,7,8,9,14,15,16,17,18,19,20] [] [] [] [(6,(zag v.1)),(14,(zag v.2.1)),(15,(zae v.2.2.1)),(16,(zag v.2.2.2.1)),(17,(zae v.2.2.2.2.1)),(18,(zeu v.2.2.2.2.2.1)),(19,(zae v.2.2.2.2.2.2.1)),(20,(zae v.2.2.2.2.2.2.2))] [] []) ?_ ?_
    ·have hF:=hv
     refine Nif hF ?_ ?_ <;> intro hb hF
     ·have⟨x7,h7,hF⟩:=lS hF
      refine RJ (.b (zfn h7) .z) ?_
      cases hF
      exact zgt []
     ·cases hF
      exact zgt []
    ·refine LR0 ?_
     have⟨v1,hv,hF⟩:=oE hF
     refine NmT (fun Z=>Z.up [4,5,6,7,8,9,14,15,16,17,18,19,20] [6,7,8,9,14,15,16,17,18,19,20] [] [] [] [(6,(zag v1.1)),(14,(zag v1.2.1)),(15,(zae v1.2.2.1)),(16,(zag v1.2.2.2.1)),(17,(zae v1.2.2.2.2.1)),(18,(zeu v1.2.2.2.2.2.1)),(19,(zae v1.2.2.2.2.2.2.1)),(20,(zae v1.2.2.2.2.2.2.2))] [] []) ?_ ?_
     ·have hF:=hv
      refine Nif hF ?_ ?_ <;> intro hb hF
      ·have⟨x8,h8,hF⟩:=lS hF
       refine RJ (.b (zfn h8) .z) ?_
       cases hF
       exact zgt []
      ·cases hF
       exact zgt []
     ·refine LR0 ?_
      have⟨v2,hv,hF⟩:=oE hF
      refine NmT (fun Z=>Z.up [4,5,6,7,8,9,14,15,16,17,18,19,20] [6,7,8,9,14,15,16,17,18,19,20] [] [] [] [(6,(zag v2.1)),(14,(zag v2.2.1)),(15,(zae v2.2.2.1)),(16,(zag v2.2.2.2.1)),(17,(zae v2.2.2.2.2.1)),(18,(zeu v2.2.2.2.2.2.1)),(19,(zae v2.2.2.2.2.2.2.1)),(20,(zae v2.2.2.2.2.2.2.2))] [] []) ?_ ?_
      ·have hF:=hv
       refine Nif hF ?_ ?_ <;> intro hb hF
       ·have⟨x9,h9,hF⟩:=lS hF
        refine RJ (.b (law_sizeFault_ok h9) .z) ?_
        cases hF
        exact zgt []
       ·cases hF
        exact zgt []
      ·refine LR0 ?_
       refine VR [] [4,5,6,7,8,9,14,15,16,17,18,19,20,21,90] [6,7,8,9,14,15,16,17,18,19,20,21] [] [] [(4,.str from0),(5,.str to0),(6,.ptr 6 0),(7,.ptr 7 0),(8,.ptr 8 0),(9,.ptr 9 0),(14,.ptr 14 0),(15,.ptr 15 0),(16,.ptr 16 0),(17,.ptr 17 0),(18,.ptr 18 0),(19,.ptr 19 0),(20,.ptr 20 0),(21,.ptr 21 0),(90,.bool (decide (v2.2.2.2.2.2.2.2.Code=0)))] [(6,(zag v2.1)),(7,[.i at0]),(8,[.i since]),(9,[.i size]),(14,(zag v2.2.1)),(15,(zae v2.2.2.1)),(16,(zag v2.2.2.2.1)),(17,(zae v2.2.2.2.2.1)),(18,(zeu v2.2.2.2.2.2.1)),(19,(zae v2.2.2.2.2.2.2.1)),(20,(zae v2.2.2.2.2.2.2.2)),(21,[.nils])] [] [] .nil ?_
       refine NmS (fun v3=>zej at0 since size from0 to0 v3=some r) (fun Z v3=>Z.up [4,5,6,7,8,9,14,15,16,17,18,19,20,21] [6,7,8,9,14,15,16,17,18,19,20,21] [] [] [] [(6,(zag v3.1)),(14,(zag v3.2.1)),(15,(zae v3.2.2.1)),(16,(zag v3.2.2.2.1)),(17,(zae v3.2.2.2.2.1)),(18,(zeu v3.2.2.2.2.2.1)),(19,(zae v3.2.2.2.2.2.2.1)),(20,(zae v3.2.2.2.2.2.2.2.1)),(21,[.sl 5 (v3.2.2.2.2.2.2.2.2.map zab)])] [] []) ?_ ?_
       ·refine Nif hF ?_ ?_ <;> intro hb hF
        ·refine LR0 ?_
         refine LR0 ?_
         refine NmS (fun v6=>zd3 at0 since size from0 to0 v6=some r) (fun Z v6=>Z.up [4,5,6,7,8,9,14,15,16,17,18,19,20,21,22] [6,7,8,9,14,15,16,17,18,19,20,21] [] [] [(22,.bool v6.2.2.2.2.2.2.2.2)] [(6,(zag v6.1)),(14,(zag v6.2.1)),(15,(zae v6.2.2.1)),(16,(zag v6.2.2.2.1)),(17,(zae v6.2.2.2.2.1)),(18,(zeu v6.2.2.2.2.2.1)),(19,(zae v6.2.2.2.2.2.2.1)),(20,(zae v6.2.2.2.2.2.2.2.1))] [] []) ?_ ?_
         ·refine zb5 ?_
          unfold zgg at hF
          refine zoy hF [] (fun Z v7=>Z.up [4,5,6,7,8,9,14,15,16,17,18,19,20,21,22,23] [6,7,8,9,14,15,16,17,18,19,20,21] [] [] [(22,.bool v7.2.2.2.2.2.2.2.2.1),(23,.i v7.2.2.2.2.2.2.2.2.2)] [(6,(zag v7.1)),(14,(zag v7.2.1)),(15,(zae v7.2.2.1)),(16,(zag v7.2.2.2.1)),(17,(zae v7.2.2.2.2.1)),(18,(zeu v7.2.2.2.2.2.1)),(19,(zae v7.2.2.2.2.2.2.1)),(20,(zae v7.2.2.2.2.2.2.2.1))] [] []) ?_
          intro n1 v7 y1 hF ih1 dn1
          unfold zgk at hF
          refine RJ (.l zab v7.2.2.2.2.2.1.Mem .z) ?_
          refine Nif hF ?_ ?_ <;> intro hb hF
          ·refine zb5 ?_
           have⟨h20,hF⟩:=aE hF
           refine NDL (v7.2.2.2.2.2.2.2.2.1&&(decide (since<=((zad v7.2.2.2.2.2.1.Mem v7.2.2.2.2.2.2.2.2.2).Time)))) (fun v8:Bool=>([(22,.bool v8)],[],[],[])) [.av (zab (zad v7.2.2.2.2.2.1.Mem v7.2.2.2.2.2.2.2.2.2))] [4,5,6,7,8,9,14,15,16,17,18,19,20,21,22,23] [6,7,8,9,14,15,16,17,18,19,20,21] [] [] (hc (fun (ga0:v7.2.2.2.2.2.2.2.2.1=true)=>(zgi zab (h20 ga0))) .nil) (fun v8 hv=>?_)
           have hF:=zeg hF hv
           refine LR0 ?_
           exact zgb [] hF ih1
          ·refine zbm rfl ?_
           have hF:=zaj hF dn1
           exact ze4 (v7.1,v7.2.1,v7.2.2.1,v7.2.2.2.1,v7.2.2.2.2.1,v7.2.2.2.2.2.1,v7.2.2.2.2.2.2.1,v7.2.2.2.2.2.2.2.1,v7.2.2.2.2.2.2.2.2.1) [] hF
         ·intro v6 hF
          unfold zd3 at hF
          have⟨h16,hF⟩:=aE hF
          have⟨x15,h17,hF⟩:=oE hF
          have⟨x16,h18,hF⟩:=oE hF
          refine DJ (.s10 zal h16 (.c (R_Together_ok h17) (.c (R_Compacted_v1_ok h18) .z))) ?_
          have⟨x17,h19,hF⟩:=oE hF
          refine RJ (.b (R_MadeFault_ok h19) .z) ?_
          exact ze4 (v6.1,v6.2.1,v6.2.2.1,v6.2.2.2.1,v6.2.2.2.2.1,v6.2.2.2.2.2.1,v6.2.2.2.2.2.2.1,x17,x16) [] hF
        ·refine znk 21 [.sl 5 (([]:Cs).map zab)] rfl (.cons (CoeS.nils 5) .nil) ?_
         exact ze4 (v2.1,v2.2.1,v2.2.2.1,v2.2.2.2.1,v2.2.2.2.2.1,v2.2.2.2.2.2.1,v2.2.2.2.2.2.2.1,v2.2.2.2.2.2.2.2,([]:Cs)) [] hF
       ·intro v3 hF
        unfold zej at hF
        have⟨x10,h10,hF⟩:=oE hF
        refine RJ (.q [6,7,21,9,8] [] (Pe.ren (law_tabletAs_v5_ok h10) ⟨[(100000,6),(100001,7),(100002,21),(100003,9),(100004,8)],[],[],[]⟩) .z) ?_
        refine Nif hF ?_ ?_ <;> intro hb hF
        ·refine LR0 ?_
         cases hF
         exact Wz [] hfin
        ·refine LR0 ?_
         refine LR0 ?_
         have⟨v4,hv,hF⟩:=oE hF
         refine NmT (fun Z=>Z.up [4,5,6,9,16,17,18,20,21] [6,9,16,17,18,20,21] [] [] [] [(6,(zag v4.1)),(16,(zag v4.2.1)),(17,(zae v4.2.2.1)),(18,(zeu v4.2.2.2.1)),(20,(zae v4.2.2.2.2))] [] []) ?_ ?_
         ·have hF:=hv
          refine Nif hF ?_ ?_ <;> intro hb hF
          ·have⟨x11,h11,hF⟩:=lS hF
           refine RJ (.b (law_sizeFault_ok h11) .z) ?_
           cases hF
           exact zgt []
          ·cases hF
           exact zgt []
         ·have⟨x12,h12,hF⟩:=oE hF
          refine RJ (.c (R_Between_v1_ok h12) .z) ?_
          refine LR0 ?_
          have⟨v5,hv,hF⟩:=oE hF
          refine NmT (fun Z=>Z.up [6,9,16,17,18,20,21] [6,9,16,17,18,20,21] [] [] [] [(6,(zag v5.1)),(16,(zag v5.2.1)),(17,(zae v5.2.2.1)),(18,(zeu v5.2.2.2.1)),(20,(zae v5.2.2.2.2))] [] []) ?_ ?_
          ·have hF:=hv
           refine Nif hF ?_ ?_ <;> intro hb hF
           ·have⟨x13,h13,hF⟩:=oE hF
            refine RJ (.b (R_MadeFault_ok h13) .z) ?_
            cases hF
            exact zgt []
           ·cases hF
            exact zgt []
          ·have⟨x14,h14,hF⟩:=oE hF
           have p15:=(Pe.ren (law_tabletAs_v6_ok h14) ⟨[(100000,18),(100001,6),(100002,21),(100003,9)],[],[],[]⟩)
           refine RJ (.e [18,6,21,9] [] p15 .z) ?_
           cases hF
           exact Wz [] hfin

/- tabularylaw.TabletKeeps$1 -/
/- tabularylaw.cellsAs -/
/- tabularylaw.TabletKeeps -/
end
end G
end Go.Proofs.YticbfakiihfgmaaGreat
