/- The program's functions as plain functions, and that they are these. Written by a program (dec2.py). -/
import Derived.Test.YticbfakiihfgmaaGreatGf2
namespace Go.Proofs.YticbfakiihfgmaaGreat
open Go Go.Dm
set_option linter.unusedVariables false
set_option linter.unusedSimpArgs false
set_option maxRecDepth 100000
namespace G
noncomputable section
/- tabularyref.DiskFault -/
def zpr (d:Disk):Fault:=
 if (decide (60000<(d.Bytes.length:Int)))=true then
  lt (R_F 8 0) fun x=>
  x
 else
  if ((decide (d.Kept<0))||(decide ((d.Bytes.length:Int)<d.Kept)))=true then
   lt (R_F 3 0) fun x1=>
   x1
  else
   (⟨0,0⟩:Fault)
theorem R_DiskFault_ok {d r}(hF:zpr d=r):Pe Tryz.prog 77 S.none [.agg (c_Disk d)] (.agg (zae r)) S.none:=by
 refine PT 21 [.cell 2 35] [35] Tryz.func77 ?_
 intro Q g hfin
 unfold zpr at hF
 refine LR0 ?_
 refine RJ (.l zas d.Bytes .z) ?_
 refine Nif hF ?_ ?_ <;> intro hb hF
 ·have⟨x,h0,hF⟩:=lS hF
  refine RJ (.b (zfn h0) .z) ?_
  cases hF
  exact Wz [] hfin
 ·refine RJ (.a (.nat (d.Bytes.length:Int)) (.g (fun (_:(!(decide (d.Kept<0)))=true)=>(zc5 zas d.Bytes)) .z)) ?_
  refine Nif hF ?_ ?_ <;> intro hb hF
  ·have⟨x1,h1,hF⟩:=lS hF
   refine RJ (.b (zfn h1) .z) ?_
   cases hF
   exact Wz [] hfin
  ·refine LR0 ?_
   cases hF
   exact Wz [] hfin

/- tabularyref.Unframed -/
def zlr (v:B9×Int):Option (B9×Int):=
 some (v.1,v.2)
def zjd (b:B8)(v1:B9×Int):Option ((B9×Int)⊕(B9×Int)):=
 if (decide ((w64 (v1.2+6))<=(b.length:Int)))=true then
  zao (0<=v1.2/\v1.2<(b.length:Int)) <|
  zao (0<=w64 (v1.2+1)/\w64 (v1.2+1)<(b.length:Int)) <|
  lt (w64 ((w64 ((w64 ((zad b v1.2).toNat:Int))*256))+(w64 ((zad b (w64 (v1.2+1))).toNat:Int)))) fun v2=>
  if (decide ((b.length:Int)<(w64 ((w64 (v1.2+6))+v2))))=true then
   zev (zlr (v1.1,v1.2))
  else
   zao (0<=w64 (v1.2+2)/\w64 (v1.2+2)<=w64 ((w64 (v1.2+2))+v2)/\w64 ((w64 (v1.2+2))+v2)<=(b.length:Int)) <|
   ob (zlh (zc1 (zd8 b (w64 ((w64 (v1.2+2))+v2))) (w64 (v1.2+2)))) fun x=>
   zao (0<=v1.2/\v1.2<=w64 ((w64 (v1.2+6))+v2)/\w64 ((w64 (v1.2+6))+v2)<=(b.length:Int)) <|
   lt (zl1 x (zc1 (zd8 b (w64 ((w64 (v1.2+6))+v2))) v1.2)) fun x1=>
   if (!x1)=true then
    zev (zlr (v1.1,v1.2))
   else
    zao (((zc1 (zd8 b (w64 ((w64 (v1.2+2))+v2))) (w64 (v1.2+2))).length:Int)*1<=140737488351232) <|
    zao (((v1.1++([(zc1 (zd8 b (w64 ((w64 (v1.2+2))+v2))) (w64 (v1.2+2)))]:B9)).length:Int)*24<=140737488351232) <|
    lt ((v1.1++([(zc1 (zd8 b (w64 ((w64 (v1.2+2))+v2))) (w64 (v1.2+2)))]:B9))) fun v3=>
    some (Sum.inl (v3,w64 ((w64 (v1.2+6))+v2)))
 else
  zev (zlr (v1.1,v1.2))
def zte (b:B8)(v0:B9×Int):Option (B9×Int):=
 zbg (fun y=>zjd b y) v0
def zmp (b:B8):Option (B9×Int):=
 zte b (([]:B9),0)
theorem R_Unframed_ok {b r}(hF:zmp b=some r):Pe Tryz.prog 87 (.w []) [.sl 1 (b.map zas)] (.tup [.row 56 0,.i r.2]) ⟨[],[],[(56,.z 22 1 0 (r.1.map zaf))],[],[]⟩:=by
 refine PT 63 [.tmp 2,.tmp 3] [25,3] Tryz.func87 ?_
 intro Q g hfin
 unfold zmp at hF
 refine LR0 ?_
 refine LR0 ?_
 refine NR [] [0,4,5] [] [] [(0,.sl 1 (b.map zas)),(4,.nils),(5,.i 0)] .nil ?_
 refine NmQ (fun v=>zlr v=some r) (fun v=>⟨[(4,.row 56 0),(5,.i v.2)],[],[(56,.z 22 1 0 (v.1.map zaf))],[],[]⟩) ?_ ?_
 ·refine zb5 ?_
  unfold zte at hF
  refine zap 4 60000 22 1 rfl rfl rfl ?_
  refine zcj (fs:=[0,4,5]) (bs:=[]) (rs:=[60000]) (ms:=[]) (aa:=[]) (nv:=[]) rfl ?_
  refine zau ⟨[],[(60000,56)],[],[]⟩ rfl ?_
  refine zrv hF [] (fun v1=>⟨[(0,.sl 1 (b.map zas)),(4,.row 56 0),(5,.i v1.2)],[],[(56,.z 22 1 0 (v1.1.map zaf))],[],[]⟩) ?_
  intro n1 v1 y1 hF ih1 dn1
  unfold zjd at hF
  refine RJ (.l zas b .z) ?_
  refine Nif hF ?_ ?_ <;> intro hb hF
  ·refine zb5 ?_
   have⟨h0,h1,hF⟩:=zf7 hF
   refine NDL (w64 ((w64 ((w64 ((zad b v1.2).toNat:Int))*256))+(w64 ((zad b (w64 (v1.2+1))).toNat:Int)))) (fun v2:Int=>([(6,.i v2)],[],[],[])) [.av (zas (zad b v1.2)),.av (zas (zad b (w64 (v1.2+1))))] [0,4,5,6] [] [56] [] (hc (zgi zas h0) (hc (zgi zas h1) .nil)) (fun v2 hv=>?_)
   have hF:=zeg hF hv
   refine RJ (.l zas b .z) ?_
   refine Nif hF ?_ ?_ <;> intro hb hF
   ·refine zbm rfl ?_
    have hF:=zaj hF dn1
    exact ze4 (v1.1,v1.2) [] hF
   ·have⟨h2,hF⟩:=aE hF
    refine RJ (.s11 zas h2 .z) ?_
    have⟨x,h3,hF⟩:=oE hF
    have p4:=(Pe.ren (zkm h3) ⟨[],[(13,42)],[],[]⟩)
    have⟨h5,hF⟩:=aE hF
    have⟨x1,h6,hF⟩:=lS hF
    refine DJ (.e [] [] p4 (.s11 zas h5 (.b (zq2 h6) .z))) ?_
    refine Nif hF ?_ ?_ <;> intro hb hF
    ·refine zbm rfl ?_
     have hF:=zaj hF dn1
     exact ze4 (v1.1,v1.2) [] hF
    ·have⟨h7,hF⟩:=aE hF
     have⟨h8,hF⟩:=aE hF
     have⟨v3,hv,hF⟩:=lS hF
     refine RJ (.p0 zas h7 (.a (.sealed) (.pN zaf hv h8 .z))) ?_
     refine LR0 ?_
     exact zgb [(56,⟨0,true,true,false⟩)] hF ih1
  ·refine zbm rfl ?_
   have hF:=zaj hF dn1
   exact ze4 (v1.1,v1.2) [] hF
 ·intro v hF
  unfold zlr at hF
  refine LR0 ?_
  cases hF
  exact Wz [] hfin

/- tabularyref.Number -/
def zph (num:Int):Option B8:=
 if (decide (num<128))=true then
  some ([zew num]:B8)
 else
  ob (zpx (w64 (Int.tdiv num 128))) fun x=>
  zao (((([zew (w64 ((Int.tmod num 128)+128))]:B8)++x).length:Int)*1<=140737488351232) <|
  some (([zew (w64 ((Int.tmod num 128)+128))]:B8)++x)
theorem R_Number_v1_ok {num r}(hF:zph num=some r):Pe Tryz.prog 84 S.none [.i num] (.sl 1 (r.map zas)) S.none:=by
 refine PT 17 [.tmp 2] [22] Tryz.func84 ?_
 intro Q g hfin
 unfold zph at hF
 refine LR0 ?_
 refine LR0 ?_
 refine Nif hF ?_ ?_ <;> intro hb hF
 ·refine LR0 ?_
  cases hF
  exact Wz [] hfin
 ·have⟨x,h0,hF⟩:=oE hF
  have p1:=(Pe.ren (zpq h0) ⟨[],[(7,15)],[],[]⟩)
  have⟨h2,hF⟩:=aE hF
  refine RJ (.g (by decide:(128:Int)≠0) (.g (by decide:(128:Int)≠0) (.e [] [] p1 (.p zas h2 .z)))) ?_
  cases hF
  exact Wz [] hfin

/- tabularyref.NumberAt -/
def zr4 (v:Unit):Option (Int×Int):=
 some (0,0)
def zht (b:B8)(v1 v2:Int):Option (Int⊕(Int×Int)):=
 ob (if (decide (v2<=1000000000))=true then (zph v2) else some default) fun x=>
 zao ((decide (v2<=1000000000))=true->0<=v1/\v1<=(b.length:Int)) <|
 lt (zl1 x (zd8 b v1)) fun x1=>
 if ((decide (v2<=1000000000))&&x1)=true then
  some (Sum.inr (v2,v1))
 else
  some (Sum.inl (w64 (v1+1)))
def zod (b:B8)(v1:Int)(v3:Int×Int):Option ((Int×Int)⊕(Int⊕(Int×Int))):=
 if (decide (0<=v3.2))=true then
  zao (0<=v3.2/\v3.2<(b.length:Int)) <|
  lt (w64 ((w64 (v3.1*128))+(Int.tmod (w64 ((zad b v3.2).toNat:Int)) 128))) fun v4=>
  some (Sum.inl (v4,w64 (v3.2 - 1)))
 else
  zev (zht b v1 v3.1)
def zsm (b:B8)(v1:Int)(v0:Int×Int):Option (Int⊕(Int×Int)):=
 zbg (fun y=>zod b v1 y) v0
def zl0 (b:B8)(v1:Int):Option (Int⊕(Int×Int)):=
 if ((decide (v1<=5))&&(decide (v1<=(b.length:Int))))=true then
  zsm b v1 (0,w64 (v1 - 1))
 else
  zev (zr4 ())
def zsd (b:B8)(v0:Int):Option (Int×Int):=
 zbg (fun y=>zl0 b y) v0
def zkq (b:B8):Option (Int×Int):=
 zsd b 1
theorem zoa {b r}(hF:zkq b=some r):Pe Tryz.prog 125 S.none [.sl 1 (b.map zas)] (.tup [.i r.1,.i r.2]) S.none:=by
 refine PT 44 [.tmp 2,.tmp 3] [3,3] Tryz.func125 ?_
 intro Q g hfin
 unfold zkq at hF
 refine LR0 ?_
 refine LR0 ?_
 refine NmQ (fun v=>zr4 v=some r) (fun v=>(.w [])) ?_ ?_
 ·refine zb5 ?_
  unfold zsd at hF
  refine zoy hF [] (fun Z v1=>Z.up [0,4] [] [] [] [(4,.i v1)] [] [] []) ?_
  intro n1 v1 y1 hF ih1 dn1
  unfold zl0 at hF
  refine RJ (.a (.nat (b.length:Int)) (.g (fun (_:(decide (v1<=5))=true)=>(zc5 zas b)) .z)) ?_
  refine Nif hF ?_ ?_ <;> intro hb hF
  ·refine zb5 ?_
   refine LR0 ?_
   refine LR0 ?_
   refine NmS (fun v2=>zht b v1 v2=some y1) (fun Z v2=>Z.up [0,4,5] [] [] [] [(5,.i v2)] [] [] []) ?_ ?_
   ·refine zb5 ?_
    unfold zsm at hF
    refine zoy hF [] (fun Z v3=>Z.up [0,4,5,6] [] [] [] [(5,.i v3.1),(6,.i v3.2)] [] [] []) ?_
    intro n2 v3 y2 hF ih2 dn2
    unfold zod at hF
    refine LR0 ?_
    refine Nif hF ?_ ?_ <;> intro hb hF
    ·refine zb5 ?_
     have⟨h3,hF⟩:=aE hF
     refine NRL (w64 ((w64 (v3.1*128))+(Int.tmod (w64 ((zad b v3.2).toNat:Int)) 128))) (fun v4:Int=>([(5,.i v4)],[],[],[])) [.av (zas (zad b v3.2))] [0,4,5,6] [] [] [] (hc (zgi zas h3) (hc (by decide:(128:Int)≠0) .nil)) (fun v4 hv=>?_)
     have hF:=zeg hF hv
     refine LR0 ?_
     exact zgb [] hF ih2
    ·refine zbm rfl ?_
     have hF:=zaj hF dn2
     exact ze4 v3.1 [] hF
   ·intro v2 hF
    unfold zht at hF
    have⟨x,h0,hF⟩:=oE hF
    have⟨h1,hF⟩:=aE hF
    have⟨x1,h2,hF⟩:=lS hF
    refine DJ (.a (.call (.sl 1 (x.map zas))) (.g (fun (ga0:(decide (v2<=1000000000))=true)=>(R_Number_v1_ok (ite_t h0 ga0))) (.a (.xs ((zd8 b v1).map zas)) (.g (fun (ga0:(decide (v2<=1000000000))=true)=>(sl01_ok zas (h1 ga0))) (.a (.callB (.bool x1)) (.g (fun (ga0:(decide (v2<=1000000000))=true)=>(zq2 h2)) .z)))))) ?_
    refine Nif hF ?_ ?_ <;> intro hb hF
    ·refine LR0 ?_
     have hF:=zcr hF dn1
     cases hF
     exact Wz [] hfin
    ·refine LR0 ?_
     exact zgb [] hF ih1
  ·refine zbm rfl ?_
   have hF:=zaj hF dn1
   exact ze4 () [] hF
 ·intro v hF
  unfold zr4 at hF
  refine LR0 ?_
  cases hF
  exact Wz [] hfin

/- tabularyref.CellCode -/
def za1 (c:Cell):Int:=
 if ((((decide (c.Row=([]:B8)))||(decide (40<(c.Row.length:Int))))||(decide (40<(c.Col.length:Int))))||(decide (200<(c.Value.length:Int))))=true then
  8
 else
  if ((decide (c.Time<0))||(decide (1000000000<c.Time)))=true then
   3
  else
   if (c.Gone&&(!decide (c.Value=([]:B8))))=true then
    5
   else
    0
theorem R_CellCode_ok {c r}(hF:za1 c=r):Pe Tryz.prog 127 S.none [.agg (zg9 c)] (.i r) S.none:=by
 refine PT 39 [.tmp 2] [3] Tryz.func127 ?_
 intro Q g hfin
 unfold za1 at hF
 refine LR0 ?_
 refine LR0 ?_
 refine Nif hF ?_ ?_ <;> intro hb hF
 ·refine LR0 ?_
  cases hF
  exact Wz [] hfin
 ·refine LR0 ?_
  refine Nif hF ?_ ?_ <;> intro hb hF
  ·refine LR0 ?_
   cases hF
   exact Wz [] hfin
  ·refine LR0 ?_
   refine Nif hF ?_ ?_ <;> intro hb hF
   ·refine LR0 ?_
    cases hF
    exact Wz [] hfin
   ·refine LR0 ?_
    cases hF
    exact Wz [] hfin

/- tabularyref.CellAt -/
def zor (v:Cell×B9×List Int×Int):Option (Cell×Int):=
 zao (0<=(0:Int)/\0<(v.2.1.length:Int)) <|
 zao (0<=(0:Int)/\0<(v.2.1.length:Int)) <|
 zao (0<=(1:Int)/\1<(v.2.1.length:Int)) <|
 zao (0<=(1:Int)/\1<(v.2.1.length:Int)) <|
 zao (0<=(0:Int)/\0<(v.2.2.1.length:Int)) <|
 zao (0<=(0:Int)/\0<(v.2.2.1.length:Int)) <|
 zao (0<=(1:Int)/\1<(v.2.2.1.length:Int)) <|
 zao (0<=(1:Int)/\1<(v.2.2.1.length:Int)) <|
 zao (0<=(2:Int)/\2<(v.2.1.length:Int)) <|
 zao (0<=(2:Int)/\2<(v.2.1.length:Int)) <|
 zao (0<=(1:Int)/\1<(v.2.2.1.length:Int)) <|
 zao (0<=(1:Int)/\1<(v.2.2.1.length:Int)) <|
 lt (za1 (⟨(zad v.2.1 0),(zad v.2.1 1),(zad v.2.2.1 0),decide ((zad v.2.2.1 1)=1),(zad v.2.1 2)⟩:Cell)) fun x=>
 if ((decide (1<(zad v.2.2.1 1)))||(!decide (x=0)))=true then
  some ((⟨([]:B8),([]:B8),0,false,([]:B8)⟩:Cell),0)
 else
  some ((⟨(zad v.2.1 0),(zad v.2.1 1),(zad v.2.2.1 0),decide ((zad v.2.2.1 1)=1),(zad v.2.1 2)⟩:Cell),v.2.2.2)
def zmu (v1:Cell×B9×List Int×Int×Int)(v2:Cell×B9×List Int×Int):Option ((Cell×B9×List Int×Int×Int)⊕(Cell×Int)):=
 some (Sum.inl (v2.1,v2.2.1,v2.2.2.1,v2.2.2.2,w64 (v1.2.2.2.2+1)))
def zki (b:B8)(v1:Cell×B9×List Int×Int×Int):Option ((Cell×B9×List Int×Int×Int)⊕(Cell×Int)):=
 if (decide (v1.2.2.2.2<5))=true then
  zao (0<=v1.2.2.2.1/\v1.2.2.2.1<=(b.length:Int)) <|
  ob (zkq (zc1 b v1.2.2.2.1)) fun x1=>
  if (decide (x1.2=0))=true then
   some (Sum.inr ((⟨([]:B8),([]:B8),0,false,([]:B8)⟩:Cell),0))
  else
   if ((decide (v1.2.2.2.2=2))||(decide (v1.2.2.2.2=3)))=true then
    zao (((v1.2.2.1++([x1.1]:List Int)).length:Int)*8<=140737488351232) <|
    zmu v1 (v1.1,v1.2.1,(v1.2.2.1++([x1.1]:List Int)),w64 (v1.2.2.2.1+x1.2))
   else
    if (decide ((w64 ((b.length:Int) - (w64 (v1.2.2.2.1+x1.2))))<x1.1))=true then
     some (Sum.inr ((⟨([]:B8),([]:B8),0,false,([]:B8)⟩:Cell),0))
    else
     zao (0<=w64 (v1.2.2.2.1+x1.2)/\w64 (v1.2.2.2.1+x1.2)<=w64 ((w64 (v1.2.2.2.1+x1.2))+x1.1)/\w64 ((w64 (v1.2.2.2.1+x1.2))+x1.1)<=(b.length:Int)) <|
     zao (((v1.2.1++([(zc1 (zd8 b (w64 ((w64 (v1.2.2.2.1+x1.2))+x1.1))) (w64 (v1.2.2.2.1+x1.2)))]:B9)).length:Int)*16<=140737488351232) <|
     lt ((v1.2.1++([(zc1 (zd8 b (w64 ((w64 (v1.2.2.2.1+x1.2))+x1.1))) (w64 (v1.2.2.2.1+x1.2)))]:B9))) fun v3=>
     zmu v1 (v1.1,v3,v1.2.2.1,w64 ((w64 (v1.2.2.2.1+x1.2))+x1.1))
 else
  zev (zor (v1.1,v1.2.1,v1.2.2.1,v1.2.2.2.1))
def R_CellAt_L1 (b:B8)(v0:Cell×B9×List Int×Int×Int):Option (Cell×Int):=
 zbg (fun y=>zki b y) v0
def R_CellAt (b:B8):Option (Cell×Int):=
 R_CellAt_L1 b ((⟨([]:B8),([]:B8),0,false,([]:B8)⟩:Cell),([]:B9),([]:List Int),0,0)
theorem R_CellAt_ok {b r}(hF:R_CellAt b=some r):Pe Tryz.prog 154 S.none [.sl 1 (b.map zas)] (.tup [.agg (zg9 r.1),.i r.2]) S.none:=by
 refine PT 87 [.cell 2 53,.tmp 3] [53,3] Tryz.func154 ?_
 intro Q g hfin
 unfold R_CellAt at hF
 refine LR0 ?_
 refine LR0 ?_
 refine LR0 ?_
 refine LR0 ?_
 refine VR [] [0,2,4,5,6,7] [2] [] [] [(0,.sl 1 (b.map zas)),(2,.ptr 2 0),(4,.nils),(5,.nils),(6,.i 0),(7,.i 0)] [(2,[.str [],.str [],.i 0,.bool false,.str []])] [] [] .nil ?_
 refine NmQ (fun v=>zor v=some r) (fun v=>⟨[(2,.ptr 2 0),(4,.row 54 0),(5,.row 37 0),(6,.i v.2.2.2)],[(2,(zg9 v.1))],[(37,.z 3 1 0 (v.2.2.1.map zpt)),(54,.z 9 1 0 (v.2.1.map ze5))],[],[]⟩) ?_ ?_
 ·refine zb5 ?_
  unfold R_CellAt_L1 at hF
  refine zap 4 60000 9 1 rfl rfl rfl ?_
  refine zap 5 60001 3 1 rfl rfl rfl ?_
  refine zcj (fs:=[0,2,4,5,6,7]) (bs:=[2]) (rs:=[60000,60001]) (ms:=[]) (aa:=[]) (nv:=[]) rfl ?_
  refine zau ⟨[],[(60000,54),(60001,37)],[],[]⟩ rfl ?_
  refine zrv hF [] (fun v1=>⟨[(0,.sl 1 (b.map zas)),(2,.ptr 2 0),(4,.row 54 0),(5,.row 37 0),(6,.i v1.2.2.2.1),(7,.i v1.2.2.2.2)],[(2,(zg9 v1.1))],[(37,.z 3 1 0 (v1.2.2.1.map zpt)),(54,.z 9 1 0 (v1.2.1.map ze5))],[],[]⟩) ?_
  intro n1 v1 y1 hF ih1 dn1
  unfold zki at hF
  refine LR0 ?_
  refine Nif hF ?_ ?_ <;> intro hb hF
  ·refine NmS (fun v2=>zmu v1 v2=some y1) (fun Z v2=>Z.up [0,2,4,5,6,7] [2] [37,54] [] [(6,.i v2.2.2.2)] [(2,(zg9 v2.1))] [(37,.z 3 1 0 (v2.2.2.1.map zpt)),(54,.z 9 1 0 (v2.2.1.map ze5))] []) ?_ ?_
   ·refine zb5 ?_
    have⟨h13,hF⟩:=aE hF
    have⟨x1,h14,hF⟩:=oE hF
    refine RJ (.s10 zas h13 (.b (zoa h14) .z)) ?_
    refine LR0 ?_
    refine Nif hF ?_ ?_ <;> intro hb hF
    ·refine LR0 ?_
     have hF:=zcr hF dn1
     cases hF
     exact Wz [] hfin
    ·refine LR0 ?_
     refine LR0 ?_
     refine Nif hF ?_ ?_ <;> intro hb hF
     ·have⟨h15,hF⟩:=aE hF
      refine RJ (.a (.sealed) (.p zpt h15 .z)) ?_
      refine zbm rfl ?_
      exact ze4 (v1.1,v1.2.1,(v1.2.2.1++([x1.1]:List Int)),w64 (v1.2.2.2.1+x1.2)) [(37,⟨0,true,true,false⟩)] hF
     ·refine RJ (.l zas b .z) ?_
      refine Nif hF ?_ ?_ <;> intro hb hF
      ·refine LR0 ?_
       have hF:=zcr hF dn1
       cases hF
       exact Wz [] hfin
      ·have⟨h16,hF⟩:=aE hF
       have⟨h17,hF⟩:=aE hF
       have⟨v3,hv,hF⟩:=lS hF
       refine RJ (.s11 zas h16 (.a (.str (zc1 (zd8 b (w64 ((w64 (v1.2.2.2.1+x1.2))+x1.1))) (w64 (v1.2.2.2.1+x1.2)))) (.g (u8s_ok (zc1 (zd8 b (w64 ((w64 (v1.2.2.2.1+x1.2))+x1.1))) (w64 (v1.2.2.2.1+x1.2)))) (.a (.sealed) (.pN ze5 hv h17 .z))))) ?_
       refine LR0 ?_
       exact ze4 (v1.1,v3,v1.2.2.1,w64 ((w64 (v1.2.2.2.1+x1.2))+x1.1)) [(54,⟨0,true,true,false⟩)] hF
   ·intro v2 hF
    unfold zmu at hF
    refine LR0 ?_
    exact zgb [] hF ih1
  ·refine zbm rfl ?_
   have hF:=zaj hF dn1
   exact ze4 (v1.1,v1.2.1,v1.2.2.1,v1.2.2.2.1) [] hF
 ·intro v hF
  unfold zor at hF
  have⟨h0,h1,h2,h3,hF⟩:=zla hF
  have⟨h4,h5,h6,h7,hF⟩:=zla hF
  have⟨h8,h9,hF⟩:=zf7 hF
  refine DJ (.x ze5 h0 (.r ze5 h1 (.x ze5 h2 (.r ze5 h3 (.x zpt h4 (.r zpt h5 (.x zpt h6 (.r zpt h7 (.x ze5 h8 (.r ze5 h9 .z)))))))))) ?_
  have⟨h10,h11,hF⟩:=zf7 hF
  have⟨x,h12,hF⟩:=lS hF
  refine RJ (.x zpt h10 (.r zpt h11 (.a (.callB (.i x)) (.g (fun (ga0:(!(decide (1<(zad v.2.2.1 1))))=true)=>(R_CellCode_ok h12)) .z)))) ?_
  refine Nif hF ?_ ?_ <;> intro hb hF
  ·refine LR0 ?_
   cases hF
   exact Wz [] hfin
  ·refine LR0 ?_
   cases hF
   exact Wz [] hfin

/- tabularyref.Ahead -/
def zcf (a0 b:Cell):Bool:=
 if (!decide (a0.Row=b.Row))=true then
  Op.bytesLess a0.Row b.Row
 else
  if (!decide (a0.Col=b.Col))=true then
   Op.bytesLess a0.Col b.Col
  else
   decide (b.Time<a0.Time)
theorem R_Ahead_ok {a0 b r}(hF:zcf a0 b=r):Pe Tryz.prog 128 S.none [.agg (zg9 a0),.agg (zg9 b)] (.bool r) S.none:=by
 refine PT 30 [.tmp 4] [4] Tryz.func128 ?_
 intro Q g hfin
 unfold zcf at hF
 refine LR0 ?_
 refine LR0 ?_
 refine Nif hF ?_ ?_ <;> intro hb hF
 ·refine LR0 ?_
  cases hF
  exact Wz [] hfin
 ·refine LR0 ?_
  refine Nif hF ?_ ?_ <;> intro hb hF
  ·refine LR0 ?_
   cases hF
   exact Wz [] hfin
  ·refine LR0 ?_
   cases hF
   exact Wz [] hfin

/- tabularyref.CellsFault -/
def zo5 (v:Fault):Option Fault:=
 some (⟨0,0⟩:Fault)
def zfx (l:Cs)(v1:Fault×Int):Option ((Fault×Int)⊕Fault):=
 if (decide (v1.2<(l.length:Int)))=true then
  zao (0<=v1.2/\v1.2<(l.length:Int)) <|
  lt (za1 (⟨(zad l v1.2).Row,(zad l v1.2).Col,(zad l v1.2).Time,(zad l v1.2).Gone,(zad l v1.2).Value⟩:Cell)) fun x1=>
  if (!decide (x1=0))=true then
   lt (R_F x1 v1.2) fun x2=>
   some (Sum.inr x2)
  else
   zao ((decide (0<v1.2))=true->0<=w64 (v1.2 - 1)/\w64 (v1.2 - 1)<(l.length:Int)) <|
   zao ((decide (0<v1.2))=true->0<=v1.2/\v1.2<(l.length:Int)) <|
   lt (zcf (⟨(zad l (w64 (v1.2 - 1))).Row,(zad l (w64 (v1.2 - 1))).Col,(zad l (w64 (v1.2 - 1))).Time,(zad l (w64 (v1.2 - 1))).Gone,(zad l (w64 (v1.2 - 1))).Value⟩:Cell) (⟨(zad l v1.2).Row,(zad l v1.2).Col,(zad l v1.2).Time,(zad l v1.2).Gone,(zad l v1.2).Value⟩:Cell)) fun x3=>
   if ((decide (0<v1.2))&&(!x3))=true then
    lt (R_F 10 v1.2) fun x4=>
    some (Sum.inr x4)
   else
    some (Sum.inl (v1.1,w64 (v1.2+1)))
 else
  zev (zo5 v1.1)
def zoz (l:Cs)(v0:Fault×Int):Option Fault:=
 zbg (fun y=>zfx l y) v0
def zi8 (l:Cs):Option Fault:=
 if (decide (1000<(l.length:Int)))=true then
  lt (R_F 2 0) fun x=>
  some x
 else
  zoz l ((⟨0,0⟩:Fault),0)
theorem zpk {l r}(hF:zi8 l=some r):Pe Tryz.prog 82 S.none [.sl 5 (l.map zab)] (.agg (zae r)) S.none:=by
 refine PT 43 [.cell 2 35] [35] Tryz.func82 ?_
 intro Q g hfin
 unfold zi8 at hF
 refine LR0 ?_
 refine RJ (.l zab l .z) ?_
 refine Nif hF ?_ ?_ <;> intro hb hF
 ·have⟨x,h0,hF⟩:=lS hF
  refine RJ (.b (zfn h0) .z) ?_
  cases hF
  exact Wz [] hfin
 ·refine LR0 ?_
  refine NmS (fun v=>zo5 v=some r) (fun Z v=>Z.up [2] [2] [] [] [] [(2,(zae v))] [] []) ?_ ?_
  ·refine zb5 ?_
   unfold zoz at hF
   refine zoy hF [] (fun Z v1=>Z.up [0,2,3] [2] [] [] [(3,.i v1.2)] [(2,(zae v1.1))] [] []) ?_
   intro n1 v1 y1 hF ih1 dn1
   unfold zfx at hF
   refine RJ (.l zab l .z) ?_
   refine Nif hF ?_ ?_ <;> intro hb hF
   ·refine zb5 ?_
    have⟨h1,hF⟩:=aE hF
    have⟨x1,h2,hF⟩:=lS hF
    refine RJ (.i zab h1 (.b (R_CellCode_ok h2) .z)) ?_
    refine LR0 ?_
    refine Nif hF ?_ ?_ <;> intro hb hF
    ·have⟨x2,h3,hF⟩:=lS hF
     refine RJ (.b (zfn h3) .z) ?_
     have hF:=zcr hF dn1
     cases hF
     exact Wz [] hfin
    ·have⟨h4,hF⟩:=aE hF
     have⟨h5,hF⟩:=aE hF
     have⟨x3,h6,hF⟩:=lS hF
     refine DJ (.a (.av (zab (zad l (w64 (v1.2 - 1))))) (.g (fun (ga0:(decide (0<v1.2))=true)=>(zgi zab (h4 ga0))) (.a (.av (zab (zad l v1.2))) (.g (fun (ga0:(decide (0<v1.2))=true)=>(zgi zab (h5 ga0))) (.a (.callB (.bool x3)) (.g (fun (ga0:(decide (0<v1.2))=true)=>(R_Ahead_ok h6)) .z)))))) ?_
     refine Nif hF ?_ ?_ <;> intro hb hF
     ·have⟨x4,h7,hF⟩:=lS hF
      refine RJ (.b (zfn h7) .z) ?_
      have hF:=zcr hF dn1
      cases hF
      exact Wz [] hfin
     ·refine LR0 ?_
      exact zgb [] hF ih1
   ·refine zbm rfl ?_
    have hF:=zaj hF dn1
    exact ze4 v1.1 [] hF
  ·intro v hF
   unfold zo5 at hF
   refine LR0 ?_
   cases hF
   exact Wz [] hfin

/- tabularyref.CellsOf -/
def znc (v:Fault×Cs):Option (Cs×Fault):=
 ob (zi8 v.2) fun x1=>
 if (!decide (x1.Code=0))=true then
  some (([]:Cs),x1)
 else
  some (v.2,(⟨0,0⟩:Fault))
def znh (v1:B8×Fault×Cs):Option ((B8×Fault×Cs)⊕(Cs×Fault)):=
 if (decide (0<(v1.1.length:Int)))=true then
  ob (R_CellAt v1.1) fun x2=>
  if (decide (x2.2=0))=true then
   lt (R_F 5 (v1.2.2.length:Int)) fun x3=>
   some (Sum.inr (([]:Cs),x3))
  else
   zao (((v1.2.2++[x2.1]).length:Int)*64<=140737488351232) <|
   zao (0<=x2.2/\x2.2<=(v1.1.length:Int)) <|
   some (Sum.inl ((zc1 v1.1 x2.2),v1.2.1,(v1.2.2++[x2.1])))
 else
  zev (znc (v1.2.1,v1.2.2))
def R_CellsOf_L1 (v0:B8×Fault×Cs):Option (Cs×Fault):=
 zbg (fun y=>znh y) v0
def zrs (b:B8):Option (Cs×Fault):=
 if (decide (60000<(b.length:Int)))=true then
  lt (R_F 8 0) fun x=>
  some (([]:Cs),x)
 else
  R_CellsOf_L1 (b,(⟨0,0⟩:Fault),([]:Cs))
theorem R_CellsOf_ok {b r}(hF:zrs b=some r):Pe Tryz.prog 126 (.w []) [.sl 1 (b.map zas)] (.tup [.row 28 0,.agg (zae r.2)]) ⟨[],[],[(28,.z 53 5 0 (r.1.map zab))],[],[]⟩:=by
 refine PT 40 [.tmp 2,.cell 3 35] [28,35] Tryz.func126 ?_
 intro Q g hfin
 unfold zrs at hF
 refine LR0 ?_
 refine RJ (.l zas b .z) ?_
 refine Nif hF ?_ ?_ <;> intro hb hF
 ·have⟨x,h0,hF⟩:=lS hF
  refine VR [.callB (.agg (zae x))] [2,3] [3] [] [] [(2,.nils),(3,.ptr 3 0)] [(3,(zae x))] [] [] (hc (zfn h0) .nil) ?_
  cases hF
  refine zap 2 60000 53 5 rfl rfl rfl ?_
  refine zau ⟨[],[(60000,28)],[],[]⟩ rfl ?_
  exact Wz [] hfin
 ·refine VR [] [0,3,4] [3] [] [] [(0,.sl 1 (b.map zas)),(3,.ptr 3 0),(4,.nils)] [(3,[.i 0,.i 0])] [] [] .nil ?_
  refine NmQ (fun v=>znc v=some r) (fun v=>⟨[(3,.ptr 3 0),(4,.row 28 0)],[(3,(zae v.1))],[(28,.z 53 5 0 (v.2.map zab))],[],[]⟩) ?_ ?_
  ·refine zb5 ?_
   unfold R_CellsOf_L1 at hF
   refine zap 4 60002 53 5 rfl rfl rfl ?_
   refine zcj (fs:=[0,3,4]) (bs:=[3]) (rs:=[60002]) (ms:=[]) (aa:=[]) (nv:=[]) rfl ?_
   refine zau ⟨[],[(60002,28)],[],[]⟩ rfl ?_
   refine zrv hF [] (fun v1=>⟨[(0,.sl 1 (v1.1.map zas)),(3,.ptr 3 0),(4,.row 28 0)],[(3,(zae v1.2.1))],[(28,.z 53 5 0 (v1.2.2.map zab))],[],[]⟩) ?_
   intro n1 v1 y1 hF ih1 dn1
   unfold znh at hF
   refine RJ (.l zas v1.1 .z) ?_
   refine Nif hF ?_ ?_ <;> intro hb hF
   ·refine zb5 ?_
    have⟨x2,h2,hF⟩:=oE hF
    refine RJ (.b (R_CellAt_ok h2) .z) ?_
    refine LR0 ?_
    refine Nif hF ?_ ?_ <;> intro hb hF
    ·have⟨x3,h3,hF⟩:=lS hF
     refine VR [.nat (v1.2.2.length:Int),.callB (.agg (zae x3))] [2,3] [3] [] [] [(2,.nils),(3,.ptr 3 0)] [(3,(zae x3))] [] [] (hc (zc5 zab v1.2.2) (hc (zfn h3) .nil)) ?_
     have hF:=zcr hF dn1
     cases hF
     refine zap 2 60003 53 5 rfl rfl rfl ?_
     refine zau ⟨[],[(60003,28)],[],[]⟩ rfl ?_
     exact Wz [] hfin
    ·have⟨h4,hF⟩:=aE hF
     refine RJ (.a (.sealed) (.p zab h4 .z)) ?_
     have⟨h5,hF⟩:=aE hF
     refine RJ (.s10 zas h5 .z) ?_
     exact zgb [(28,⟨0,true,true,false⟩)] hF ih1
   ·refine zbm rfl ?_
    have hF:=zaj hF dn1
    exact ze4 (v1.2.1,v1.2.2) [] hF
  ·intro v hF
   unfold znc at hF
   have⟨x1,h1,hF⟩:=oE hF
   refine RJ (.b (zpk h1) .z) ?_
   refine LR0 ?_
   refine Nif hF ?_ ?_ <;> intro hb hF
   ·refine VD [] [2,3] [3] [] [] [(2,.nils),(3,.ptr 3 0)] [(3,(zae x1))] [] [] .nil ?_
    cases hF
    refine zap 2 60001 53 5 rfl rfl rfl ?_
    refine zau ⟨[],[(60001,28)],[],[]⟩ rfl ?_
    exact Wz [] hfin
   ·refine LR0 ?_
    cases hF
    exact Wz [] hfin

/- tabularyref.NoteFault -/
def zov (num:Note):Option Fault:=
 if ((decide (num.Seq<1))||(decide (1000000000<num.Seq)))=true then
  lt (R_F 3 (-1)) fun x=>
  some x
 else
  if ((decide ((num.Cells.length:Int)=0))||(decide (20<(num.Cells.length:Int))))=true then
   lt (R_F 2 (-1)) fun x1=>
   some x1
  else
   ob (zi8 num.Cells) fun x2=>
   some x2
theorem R_NoteFault_ok {num r}(hF:zov num=some r):Pe Tryz.prog 21 S.none [.agg (c_Note num)] (.agg (zae r)) S.none:=by
 refine PT 26 [.cell 2 35] [35] Tryz.func21 ?_
 intro Q g hfin
 unfold zov at hF
 refine LR0 ?_
 refine LR0 ?_
 refine Nif hF ?_ ?_ <;> intro hb hF
 ·have⟨x,h0,hF⟩:=lS hF
  refine RJ (.b (zfn h0) .z) ?_
  cases hF
  exact Wz [] hfin
 ·refine RJ (.l zab num.Cells (.a (.nat (num.Cells.length:Int)) (.g (fun (_:(!(decide ((num.Cells.length:Int)=0)))=true)=>(zc5 zab num.Cells)) .z))) ?_
  refine Nif hF ?_ ?_ <;> intro hb hF
  ·have⟨x1,h1,hF⟩:=lS hF
   refine RJ (.b (zfn h1) .z) ?_
   cases hF
   exact Wz [] hfin
  ·have⟨x2,h2,hF⟩:=oE hF
   refine RJ (.b (zpk h2) .z) ?_
   cases hF
   exact Wz [] hfin

/- tabularyref.NoteOf -/
def R_NoteOf (b:B8):Option (Int×Cs×Fault):=
 if (decide (60000<(b.length:Int)))=true then
  lt (R_F 8 0) fun x=>
  some (0,([]:Cs),x)
 else
  ob (zkq b) fun x1=>
  if (decide (x1.2=0))=true then
   lt (R_F 5 (-1)) fun x2=>
   some (0,([]:Cs),x2)
  else
   zao (0<=x1.2/\x1.2<=(b.length:Int)) <|
   ob (zrs (zc1 b x1.2)) fun x3=>
   if (!decide (x3.2.Code=0))=true then
    some (0,([]:Cs),x3.2)
   else
    ob (zov (⟨x1.1,x3.1⟩:Note)) fun x4=>
    if (!decide (x4.Code=0))=true then
     some (0,([]:Cs),x4)
    else
     some (x1.1,x3.1,(⟨0,0⟩:Fault))
theorem R_NoteOf_ok {b r}(hF:R_NoteOf b=some r):Pe Tryz.prog 88 (.w []) [.sl 1 (b.map zas)] (.tup [.agg [.i r.1,.row 27 0],.agg (zae r.2.2)]) ⟨[],[],[(27,.z 53 5 0 (r.2.1.map zab))],[],[]⟩:=by
 refine PT 47 [.cell 2 50,.cell 3 35] [50,35] Tryz.func88 ?_
 intro Q g hfin
 unfold R_NoteOf at hF
 refine LR0 ?_
 refine RJ (.l zas b .z) ?_
 refine Nif hF ?_ ?_ <;> intro hb hF
 ·have⟨x,h0,hF⟩:=lS hF
  refine VR [.callB (.agg (zae x))] [2,3] [2,3] [] [] [(2,.ptr 2 0),(3,.ptr 3 0)] [(2,[.i 0,.nils]),(3,(zae x))] [] [] (hc (zfn h0) .nil) ?_
  cases hF
  refine zav 2 1 60000 53 5 rfl rfl rfl rfl rfl ?_
  refine zau ⟨[],[(60000,27)],[],[]⟩ rfl ?_
  exact Wz [] hfin
 ·have⟨x1,h1,hF⟩:=oE hF
  refine RJ (.b (zoa h1) .z) ?_
  refine LR0 ?_
  refine Nif hF ?_ ?_ <;> intro hb hF
  ·have⟨x2,h2,hF⟩:=lS hF
   refine VR [.callB (.agg (zae x2))] [2,3] [2,3] [] [] [(2,.ptr 2 0),(3,.ptr 3 0)] [(2,[.i 0,.nils]),(3,(zae x2))] [] [] (hc (zfn h2) .nil) ?_
   cases hF
   refine zav 2 1 60001 53 5 rfl rfl rfl rfl rfl ?_
   refine zau ⟨[],[(60001,27)],[],[]⟩ rfl ?_
   exact Wz [] hfin
  ·have⟨h3,hF⟩:=aE hF
   have⟨x3,h4,hF⟩:=oE hF
   have p5:=(Pe.ren (R_CellsOf_ok h4) ⟨[],[(28,27)],[],[]⟩)
   refine RJ (.s10 zas h3 (.e [] [] p5 .z)) ?_
   refine LR0 ?_
   refine Nif hF ?_ ?_ <;> intro hb hF
   ·refine VD [] [2,3] [2,3] [] [] [(2,.ptr 2 0),(3,.ptr 3 0)] [(2,[.i 0,.nils]),(3,(zae x3.2))] [] [] .nil ?_
    cases hF
    refine zav 2 1 60002 53 5 rfl rfl rfl rfl rfl ?_
    refine zau ⟨[],[(60002,27)],[],[]⟩ rfl ?_
    exact Wz [] hfin
   ·refine LR0 ?_
    have⟨x4,h6,hF⟩:=oE hF
    refine RJ (.b (R_NoteFault_ok h6) .z) ?_
    refine LR0 ?_
    refine Nif hF ?_ ?_ <;> intro hb hF
    ·refine VD [] [2,3] [2,3] [] [] [(2,.ptr 2 0),(3,.ptr 3 0)] [(2,[.i 0,.nils]),(3,(zae x4))] [] [] .nil ?_
     cases hF
     refine zav 2 1 60003 53 5 rfl rfl rfl rfl rfl ?_
     refine zau ⟨[],[(60003,27)],[],[]⟩ rfl ?_
     exact Wz [] hfin
    ·refine LR0 ?_
     cases hF
     exact Wz [] hfin

/- tabularyref.Logged -/
def zs7 (v:List Note×Int):Option (List Note×Int):=
 some (v.1,v.2)
def R_Logged_B1 (x:B9×Int)(v1:List Note×Int×Int):Option ((List Note×Int×Int)⊕(List Note×Int)):=
 if (decide (v1.2.2<(x.1.length:Int)))=true then
  zao (0<=v1.2.2/\v1.2.2<(x.1.length:Int)) <|
  zao (0<=v1.2.2/\v1.2.2<(x.1.length:Int)) <|
  ob (R_NoteOf (zad x.1 v1.2.2)) fun x1=>
  zao ((decide (0<v1.2.2))=true->(!(!decide (x1.2.2.Code=0)))=true->0<=w64 (v1.2.2 - 1)/\w64 (v1.2.2 - 1)<(v1.1.length:Int)) <|
  zao ((decide (0<v1.2.2))=true->(!(!decide (x1.2.2.Code=0)))=true->0<=w64 (v1.2.2 - 1)/\w64 (v1.2.2 - 1)<(v1.1.length:Int)) <|
  if ((!decide (x1.2.2.Code=0))||((decide (0<v1.2.2))&&(!decide ((w64 (x1.1 - 1))=((zad v1.1 (w64 (v1.2.2 - 1))).Seq)))))=true then
   zev (zs7 (v1.1,v1.2.1))
  else
   zao (((v1.1++[(⟨x1.1,x1.2.1⟩:Note)]).length:Int)*32<=140737488351232) <|
   zao (0<=v1.2.2/\v1.2.2<(x.1.length:Int)) <|
   zao (0<=v1.2.2/\v1.2.2<(x.1.length:Int)) <|
   some (Sum.inl ((v1.1++[(⟨x1.1,x1.2.1⟩:Note)]),w64 ((w64 (v1.2.1+6))+((zad x.1 v1.2.2).length:Int)),w64 (v1.2.2+1)))
 else
  zev (zs7 (v1.1,v1.2.1))
def R_Logged_L1 (x:B9×Int)(v0:List Note×Int×Int):Option (List Note×Int):=
 zbg (fun y=>R_Logged_B1 x y) v0
def R_Logged (b:B8):Option (List Note×Int):=
 ob (zmp b) fun x=>
 R_Logged_L1 x (([]:List Note),0,0)
theorem R_Logged_ok {b r}(hF:R_Logged b=some r):Pe Tryz.prog 32 (.w []) [.sl 1 (b.map zas)] (.tup [.row 52 0,.i r.2]) ⟨[],[],[(52,.z 50 2 0 (r.1.map zar))],[],[]⟩:=by
 refine PT 63 [.tmp 2,.tmp 3] [41,3] Tryz.func32 ?_
 intro Q g hfin
 unfold R_Logged at hF
 refine LR0 ?_
 have⟨x,h0,hF⟩:=oE hF
 have p1:=(Pe.ren (R_Unframed_ok h0) ⟨[],[(56,13)],[],[]⟩)
 refine RJ (.e [] [] p1 .z) ?_
 refine LR0 ?_
 refine LR0 ?_
 refine VR [] [4,6,7,8] [] [13] [] [(4,.row 13 0),(6,.nils),(7,.i 0),(8,.i 0)] [] [(13,.z 22 1 0 (x.1.map zaf))] [] .nil ?_
 refine NmQ (fun v=>zs7 v=some r) (fun v=>⟨[(6,.row 52 0),(7,.i v.2)],[],[(52,.z 50 2 0 (v.1.map zar))],[],[]⟩) ?_ ?_
 ·refine zb5 ?_
  unfold R_Logged_L1 at hF
  refine zap 6 60000 50 2 rfl rfl rfl ?_
  refine zcj (fs:=[4,6,7,8]) (bs:=[]) (rs:=[13,60000]) (ms:=[]) (aa:=[]) (nv:=[]) rfl ?_
  refine zau ⟨[],[(60000,52)],[],[]⟩ rfl ?_
  refine zrv hF [] (fun v1=>⟨[(4,.row 13 0),(6,.row 52 0),(7,.i v1.2.1),(8,.i v1.2.2)],[],[(13,.z 22 1 0 (x.1.map zaf)),(52,.z 50 2 0 (v1.1.map zar))],[],[]⟩) ?_
  intro n1 v1 y1 hF ih1 dn1
  unfold R_Logged_B1 at hF
  refine RJ (.l zaf x.1 .z) ?_
  refine Nif hF ?_ ?_ <;> intro hb hF
  ·refine zb5 ?_
   have⟨h2,h3,hF⟩:=zf7 hF
   have⟨x1,h4,hF⟩:=oE hF
   have p5:=(Pe.ren (R_NoteOf_ok h4) ⟨[],[],[],[]⟩)
   refine RJ (.x zaf h2 (.r zaf h3 (.e [] [] p5 .z))) ?_
   have⟨h6,h7,hF⟩:=zf7 hF
   refine DJ (.g (fun (ga0:(decide (0<v1.2.2))=true) (ga1:(!(!decide (x1.2.2.Code=0)))=true)=>(zf4 zar (h6 ga0 ga1))) (.a (.av (zar (zad v1.1 (w64 (v1.2.2 - 1))))) (.g (fun (ga0:(decide (0<v1.2.2))=true) (ga1:(!(!decide (x1.2.2.Code=0)))=true)=>(zec zar (h7 ga0 ga1))) .z))) ?_
   refine Nif hF ?_ ?_ <;> intro hb hF
   ·refine zbm rfl ?_
    have hF:=zaj hF dn1
    exact ze4 (v1.1,v1.2.1) [] hF
   ·have⟨h8,hF⟩:=aE hF
    refine RJ (.a (.sealed) (.p zar h8 .z)) ?_
    have⟨h9,h10,hF⟩:=zf7 hF
    refine RJ (.x zaf h9 (.r zaf h10 (.l zas (zad x.1 v1.2.2) .z))) ?_
    refine LR0 ?_
    exact zgb [(52,⟨0,true,true,false⟩)] hF ih1
  ·refine zbm rfl ?_
   have hF:=zaj hF dn1
   exact ze4 (v1.1,v1.2.1) [] hF
 ·intro v hF
  unfold zs7 at hF
  refine LR0 ?_
  cases hF
  exact Wz [] hfin

/- tabularyref.OpenedFile -/
def zfu (x1:B9×Int)(v1:Fault×Cs×List Int):Option (Cs×List Int×Fault):=
 ob (zi8 v1.2.1) fun x4=>
 if ((!decide (x4.Code=0))||(decide (500<(v1.2.1.length:Int))))=true then
  lt (R_F 5 2) fun x5=>
  some (([]:Cs),([]:List Int),x5)
 else
  ob (zkw v1.2.1) fun x6=>
  zao (0<=w64 ((w64 ((x1.1.length:Int) - 2))+1)/\w64 ((w64 ((x1.1.length:Int) - 2))+1)<(x1.1.length:Int)) <|
  zao (0<=w64 ((w64 ((x1.1.length:Int) - 2))+1)/\w64 ((w64 ((x1.1.length:Int) - 2))+1)<(x1.1.length:Int)) <|
  lt (zl1 x6 (zad x1.1 (w64 ((w64 ((x1.1.length:Int) - 2))+1)))) fun x7=>
  if (!x7)=true then
   lt (R_F 5 3) fun x8=>
   some (([]:Cs),([]:List Int),x8)
  else
   some (v1.2.1,v1.2.2,(⟨0,0⟩:Fault))
def zg5 (x1:B9×Int)(v:Fault×B8×B9)(v2:Fault×Cs×List Int×Int):Option ((Fault×Cs×List Int×Int)⊕(Cs×List Int×Fault)):=
 if (decide (v2.2.2.2<(w64 ((x1.1.length:Int) - 2))))=true then
  zao (0<=v2.2.2.2/\v2.2.2.2<(x1.1.length:Int)) <|
  zao (0<=v2.2.2.2/\v2.2.2.2<(x1.1.length:Int)) <|
  ob (zrs (zad x1.1 v2.2.2.2)) fun x9=>
  zao ((!((!decide (x9.2.Code=0))||(decide ((x9.1.length:Int)=0))))=true->0<=(0:Int)/\0<(x9.1.length:Int)) <|
  zao ((!((!decide (x9.2.Code=0))||(decide ((x9.1.length:Int)=0))))=true->0<=(0:Int)/\0<(x9.1.length:Int)) <|
  zao ((!((!decide (x9.2.Code=0))||(decide ((x9.1.length:Int)=0))))=true->0<=v2.2.2.2/\v2.2.2.2<(v.2.2.length:Int)) <|
  zao ((!((!decide (x9.2.Code=0))||(decide ((x9.1.length:Int)=0))))=true->0<=v2.2.2.2/\v2.2.2.2<(v.2.2.length:Int)) <|
  if (((!decide (x9.2.Code=0))||(decide ((x9.1.length:Int)=0)))||(!decide (((zad x9.1 0).Row)=(zad v.2.2 v2.2.2.2))))=true then
   lt (R_F 5 2) fun x10=>
   some (Sum.inr (([]:Cs),([]:List Int),x10))
  else
   zao (((v2.2.1++x9.1).length:Int)*64<=140737488351232) <|
   zao (((v2.2.2.1++([(x9.1.length:Int)]:List Int)).length:Int)*8<=140737488351232) <|
   some (Sum.inl (v2.1,(v2.2.1++x9.1),(v2.2.2.1++([(x9.1.length:Int)]:List Int)),w64 (v2.2.2.2+1)))
 else
  zev (zfu x1 (v2.1,v2.2.1,v2.2.2.1))
def zhg (x1:B9×Int)(v:Fault×B8×B9)(v0:Fault×Cs×List Int×Int):Option (Cs×List Int×Fault):=
 zbg (fun y=>zg5 x1 v y) v0
def zir (x1:B9×Int)(v:Fault×B8×B9):Option (Cs×List Int×Fault):=
 if (decide (0<(v.2.1.length:Int)))=true then
  lt (R_F 5 1) fun x3=>
  some (([]:Cs),([]:List Int),x3)
 else
  zhg x1 v (v.1,([]:Cs),([]:List Int),0)
def ze7 (x1:B9×Int)(v3:Fault×B8×B9×Int):Option ((Fault×B8×B9×Int)⊕(Cs×List Int×Fault)):=
 if (decide (v3.2.2.2<(w64 ((x1.1.length:Int) - 2))))=true then
  ob (zkq v3.2.1) fun x11=>
  if ((decide (x11.2=0))||(decide ((w64 ((v3.2.1.length:Int) - x11.2))<x11.1)))=true then
   lt (R_F 5 1) fun x12=>
   some (Sum.inr (([]:Cs),([]:List Int),x12))
  else
   zao (0<=x11.2/\x11.2<=w64 (x11.2+x11.1)/\w64 (x11.2+x11.1)<=(v3.2.1.length:Int)) <|
   zao (((v3.2.2.1++([(zc1 (zd8 v3.2.1 (w64 (x11.2+x11.1))) x11.2)]:B9)).length:Int)*16<=140737488351232) <|
   lt ((v3.2.2.1++([(zc1 (zd8 v3.2.1 (w64 (x11.2+x11.1))) x11.2)]:B9))) fun v4=>
   zao (0<=w64 (x11.2+x11.1)/\w64 (x11.2+x11.1)<=(v3.2.1.length:Int)) <|
   ob (zkq (zc1 v3.2.1 (w64 (x11.2+x11.1)))) fun x13=>
   zao ((!(decide (x13.2=0)))=true->0<=v3.2.2.2/\v3.2.2.2<(x1.1.length:Int)) <|
   zao ((!(decide (x13.2=0)))=true->0<=v3.2.2.2/\v3.2.2.2<(x1.1.length:Int)) <|
   if ((decide (x13.2=0))||(!decide (x13.1=((zad x1.1 v3.2.2.2).length:Int))))=true then
    lt (R_F 5 1) fun x14=>
    some (Sum.inr (([]:Cs),([]:List Int),x14))
   else
    zao (0<=x13.2/\x13.2<=((zc1 v3.2.1 (w64 (x11.2+x11.1))).length:Int)) <|
    some (Sum.inl (v3.1,(zc1 (zc1 v3.2.1 (w64 (x11.2+x11.1))) x13.2),v4,w64 (v3.2.2.2+1)))
 else
  zev (zir x1 (v3.1,v3.2.1,v3.2.2.1))
def zk4 (x1:B9×Int)(v0:Fault×B8×B9×Int):Option (Cs×List Int×Fault):=
 zbg (fun y=>ze7 x1 y) v0
def zm8 (b:B8):Option (Cs×List Int×Fault):=
 if (decide (60000<(b.length:Int)))=true then
  lt (R_F 8 0) fun x=>
  some (([]:Cs),([]:List Int),x)
 else
  ob (zmp b) fun x1=>
  zao ((!((!decide (x1.2=(b.length:Int)))||(decide ((w64 ((x1.1.length:Int) - 2))<0))))=true->0<=w64 ((w64 ((x1.1.length:Int) - 2))+1)/\w64 ((w64 ((x1.1.length:Int) - 2))+1)<(x1.1.length:Int)) <|
  zao ((!((!decide (x1.2=(b.length:Int)))||(decide ((w64 ((x1.1.length:Int) - 2))<0))))=true->0<=w64 ((w64 ((x1.1.length:Int) - 2))+1)/\w64 ((w64 ((x1.1.length:Int) - 2))+1)<(x1.1.length:Int)) <|
  if (((!decide (x1.2=(b.length:Int)))||(decide ((w64 ((x1.1.length:Int) - 2))<0)))||(decide (((zad x1.1 (w64 ((w64 ((x1.1.length:Int) - 2))+1))).length:Int)=0)))=true then
   lt (R_F 5 0) fun x2=>
   some (([]:Cs),([]:List Int),x2)
  else
   zao (0<=w64 ((x1.1.length:Int) - 2)/\w64 ((x1.1.length:Int) - 2)<(x1.1.length:Int)) <|
   zao (0<=w64 ((x1.1.length:Int) - 2)/\w64 ((x1.1.length:Int) - 2)<(x1.1.length:Int)) <|
   zk4 x1 ((⟨0,0⟩:Fault),(zad x1.1 (w64 ((x1.1.length:Int) - 2))),([]:B9),0)
theorem R_OpenedFile_ok {b r}(hF:zm8 b=some r):Pe Tryz.prog 78 (.w []) [.sl 1 (b.map zas)] (.tup [.row 147 0,.row 152 0,.agg (zae r.2.2)]) ⟨[],[],[(147,⟨53,5,0,(r.1.map zab).length,0,true,0,[],(r.1.map zab)⟩),(152,.z 3 1 0 (r.2.1.map zpt))],[],[]⟩:=by
 refine PT 176 [.tmp 2,.tmp 3,.cell 4 35] [28,117,35] Tryz.func78 ?_
 intro Q g hfin
 unfold zm8 at hF
 refine LR0 ?_
 refine RJ (.l zas b .z) ?_
 refine Nif hF ?_ ?_ <;> intro hb hF
 ·have⟨x,h0,hF⟩:=lS hF
  refine VR [.callB (.agg (zae x))] [2,3,4] [4] [] [] [(2,.nils),(3,.nils),(4,.ptr 4 0)] [(4,(zae x))] [] [] (hc (zfn h0) .nil) ?_
  cases hF
  refine zap 2 60000 53 5 rfl rfl rfl ?_
  refine zap 3 60001 3 1 rfl rfl rfl ?_
  refine zau ⟨[],[(60000,147),(60001,152)],[],[]⟩ rfl ?_
  exact Wz [(147,⟨0,true,true,true⟩)] hfin
 ·have⟨x1,h1,hF⟩:=oE hF
  have p2:=(Pe.ren (R_Unframed_ok h1) ⟨[],[(56,24)],[],[]⟩)
  refine RJ (.e [] [] p2 .z) ?_
  refine RJ (.l zaf x1.1 .z) ?_
  have⟨h3,h4,hF⟩:=zf7 hF
  refine RJ (.l zas b (.g (fun (ga0:(!((!decide (x1.2=(b.length:Int)))||(decide ((w64 ((x1.1.length:Int) - 2))<0))))=true)=>(zf4 zaf (h3 ga0))) (.a (.av (zaf (zad x1.1 (w64 ((w64 ((x1.1.length:Int) - 2))+1))))) (.g (fun (ga0:(!((!decide (x1.2=(b.length:Int)))||(decide ((w64 ((x1.1.length:Int) - 2))<0))))=true)=>(zec zaf (h4 ga0))) (.a (.nat ((zad x1.1 (w64 ((w64 ((x1.1.length:Int) - 2))+1))).length:Int)) (.g (fun (_:(!((!decide (x1.2=(b.length:Int)))||(decide ((w64 ((x1.1.length:Int) - 2))<0))))=true)=>(zc5 zas (zad x1.1 (w64 ((w64 ((x1.1.length:Int) - 2))+1))))) .z)))))) ?_
  refine Nif hF ?_ ?_ <;> intro hb hF
  ·have⟨x2,h5,hF⟩:=lS hF
   refine VR [.callB (.agg (zae x2))] [2,3,4] [4] [] [] [(2,.nils),(3,.nils),(4,.ptr 4 0)] [(4,(zae x2))] [] [] (hc (zfn h5) .nil) ?_
   cases hF
   refine zap 2 60002 53 5 rfl rfl rfl ?_
   refine zap 3 60003 3 1 rfl rfl rfl ?_
   refine zau ⟨[],[(60002,147),(60003,152)],[],[]⟩ rfl ?_
   exact Wz [(147,⟨0,true,true,true⟩)] hfin
  ·have⟨h6,hF⟩:=aE hF
   have⟨h7,hF⟩:=aE hF
   refine RJ (.x zaf h6 (.r zaf h7 .z)) ?_
   refine LR0 ?_
   refine VR [] [4,5,7,8,9,10] [4] [24] [] [(4,.ptr 4 0),(5,.row 24 0),(7,.i (w64 ((x1.1.length:Int) - 2))),(8,.sl 1 ((zad x1.1 (w64 ((x1.1.length:Int) - 2))).map zas)),(9,.nils),(10,.i 0)] [(4,[.i 0,.i 0])] [(24,.z 22 1 0 (x1.1.map zaf))] [] .nil ?_
   refine NmS (fun v=>zir x1 v=some r) (fun Z v=>Z.up [4,5,7,8,9] [4] [24,82] [] [(8,.sl 1 (v.2.1.map zas)),(9,.row 82 0)] [(4,(zae v.1))] [(82,.z 9 1 0 (v.2.2.map ze5))] []) ?_ ?_
   ·refine zb5 ?_
    unfold zk4 at hF
    refine zap 9 60014 9 1 rfl rfl rfl ?_
    refine zcj (fs:=[4,5,7,8,9,10]) (bs:=[4]) (rs:=[24,60014]) (ms:=[]) (aa:=[]) (nv:=[]) rfl ?_
    refine zau ⟨[],[(60014,82)],[],[]⟩ rfl ?_
    refine zrv hF [] (fun v3=>⟨[(4,.ptr 4 0),(5,.row 24 0),(7,.i (w64 ((x1.1.length:Int) - 2))),(8,.sl 1 (v3.2.1.map zas)),(9,.row 82 0),(10,.i v3.2.2.2)],[(4,(zae v3.1))],[(24,.z 22 1 0 (x1.1.map zaf)),(82,.z 9 1 0 (v3.2.2.1.map ze5))],[],[]⟩) ?_
    intro n1 v3 y1 hF ih1 dn1
    unfold ze7 at hF
    refine LR0 ?_
    refine Nif hF ?_ ?_ <;> intro hb hF
    ·refine zb5 ?_
     have⟨x11,h28,hF⟩:=oE hF
     refine RJ (.b (zoa h28) .z) ?_
     refine RJ (.a (.nat (v3.2.1.length:Int)) (.g (fun (_:(!(decide (x11.2=0)))=true)=>(zc5 zas v3.2.1)) .z)) ?_
     refine Nif hF ?_ ?_ <;> intro hb hF
     ·have⟨x12,h29,hF⟩:=lS hF
      refine VR [.callB (.agg (zae x12))] [2,3,4] [4] [] [] [(2,.nils),(3,.nils),(4,.ptr 4 0)] [(4,(zae x12))] [] [] (hc (zfn h29) .nil) ?_
      have hF:=zcr hF dn1
      cases hF
      refine zap 2 60015 53 5 rfl rfl rfl ?_
      refine zap 3 60016 3 1 rfl rfl rfl ?_
      refine zau ⟨[],[(60015,147),(60016,152)],[],[]⟩ rfl ?_
      exact Wz [(147,⟨0,true,true,true⟩)] hfin
     ·have⟨h30,hF⟩:=aE hF
      have⟨h31,hF⟩:=aE hF
      have⟨v4,hv,hF⟩:=lS hF
      refine RJ (.s11 zas h30 (.a (.str (zc1 (zd8 v3.2.1 (w64 (x11.2+x11.1))) x11.2)) (.g (u8s_ok (zc1 (zd8 v3.2.1 (w64 (x11.2+x11.1))) x11.2)) (.a (.sealed) (.pN ze5 hv h31 .z))))) ?_
      have⟨h32,hF⟩:=aE hF
      refine RJ (.s10 zas h32 .z) ?_
      have⟨x13,h33,hF⟩:=oE hF
      refine RJ (.b (zoa h33) .z) ?_
      have⟨h34,h35,hF⟩:=zf7 hF
      refine RJ (.g (fun (ga0:(!(decide (x13.2=0)))=true)=>(zf4 zaf (h34 ga0))) (.a (.av (zaf (zad x1.1 v3.2.2.2))) (.g (fun (ga0:(!(decide (x13.2=0)))=true)=>(zec zaf (h35 ga0))) (.a (.nat ((zad x1.1 v3.2.2.2).length:Int)) (.g (fun (_:(!(decide (x13.2=0)))=true)=>(zc5 zas (zad x1.1 v3.2.2.2))) .z))))) ?_
      refine Nif hF ?_ ?_ <;> intro hb hF
      ·have⟨x14,h36,hF⟩:=lS hF
       refine VR [.callB (.agg (zae x14))] [2,3,4] [4] [] [] [(2,.nils),(3,.nils),(4,.ptr 4 0)] [(4,(zae x14))] [] [] (hc (zfn h36) .nil) ?_
       have hF:=zcr hF dn1
       cases hF
       refine zap 2 60017 53 5 rfl rfl rfl ?_
       refine zap 3 60018 3 1 rfl rfl rfl ?_
       refine zau ⟨[],[(60017,147),(60018,152)],[],[]⟩ rfl ?_
       exact Wz [(147,⟨0,true,true,true⟩)] hfin
      ·have⟨h37,hF⟩:=aE hF
       refine RJ (.s10 zas h37 .z) ?_
       refine LR0 ?_
       exact zgb [(82,⟨0,true,true,false⟩)] hF ih1
    ·refine zbm rfl ?_
     have hF:=zaj hF dn1
     exact ze4 (v3.1,v3.2.1,v3.2.2.1) [] hF
   ·intro v hF
    unfold zir at hF
    refine RJ (.l zas v.2.1 .z) ?_
    refine Nif hF ?_ ?_ <;> intro hb hF
    ·have⟨x3,h8,hF⟩:=lS hF
     refine VR [.callB (.agg (zae x3))] [2,3,4] [4] [] [] [(2,.nils),(3,.nils),(4,.ptr 4 0)] [(4,(zae x3))] [] [] (hc (zfn h8) .nil) ?_
     cases hF
     refine zap 2 60004 53 5 rfl rfl rfl ?_
     refine zap 3 60005 3 1 rfl rfl rfl ?_
     refine zau ⟨[],[(60004,147),(60005,152)],[],[]⟩ rfl ?_
     exact Wz [(147,⟨0,true,true,true⟩)] hfin
    ·refine LR0 ?_
     refine LR0 ?_
     refine VR [] [4,5,7,9,13,14,15] [4] [24,82] [] [(4,.ptr 4 0),(5,.row 24 0),(7,.i (w64 ((x1.1.length:Int) - 2))),(9,.row 82 0),(13,.nils),(14,.nils),(15,.i 0)] [(4,(zae v.1))] [(24,.z 22 1 0 (x1.1.map zaf)),(82,.z 9 1 0 (v.2.2.map ze5))] [] .nil ?_
     refine NmS (fun v1=>zfu x1 v1=some r) (fun Z v1=>Z.up [4,5,7,13,14] [4] [24,147,152] [] [(13,.row 147 0),(14,.row 152 0)] [(4,(zae v1.1))] [(147,.z 53 5 0 (v1.2.1.map zab)),(152,.z 3 1 0 (v1.2.2.map zpt))] []) ?_ ?_
     ·refine zb5 ?_
      unfold zhg at hF
      refine zap 13 60010 53 5 rfl rfl rfl ?_
      refine zap 14 60011 3 1 rfl rfl rfl ?_
      refine zcj (fs:=[4,5,7,9,13,14,15]) (bs:=[4]) (rs:=[24,82,60010,60011]) (ms:=[]) (aa:=[]) (nv:=[]) rfl ?_
      refine zau ⟨[],[(60010,147),(60011,152)],[],[]⟩ rfl ?_
      refine zrv hF [] (fun v2=>⟨[(4,.ptr 4 0),(5,.row 24 0),(7,.i (w64 ((x1.1.length:Int) - 2))),(9,.row 82 0),(13,.row 147 0),(14,.row 152 0),(15,.i v2.2.2.2)],[(4,(zae v2.1))],[(24,.z 22 1 0 (x1.1.map zaf)),(82,.z 9 1 0 (v.2.2.map ze5)),(147,.z 53 5 0 (v2.2.1.map zab)),(152,.z 3 1 0 (v2.2.2.1.map zpt))],[],[]⟩) ?_
      intro n1 v2 y1 hF ih1 dn1
      unfold zg5 at hF
      refine LR0 ?_
      refine Nif hF ?_ ?_ <;> intro hb hF
      ·refine zb5 ?_
       have⟨h17,h18,hF⟩:=zf7 hF
       have⟨x9,h19,hF⟩:=oE hF
       have p20:=(Pe.ren (R_CellsOf_ok h19) ⟨[],[(28,122)],[],[]⟩)
       refine RJ (.x zaf h17 (.r zaf h18 (.e [] [] p20 .z))) ?_
       have⟨h21,h22,h23,h24,hF⟩:=zla hF
       refine DJ (.a (.nat (x9.1.length:Int)) (.g (fun (_:(!(!decide (x9.2.Code=0)))=true)=>(zc5 zab x9.1)) (.g (fun (ga0:(!((!decide (x9.2.Code=0))||(decide ((x9.1.length:Int)=0))))=true)=>(zf4 zab (h21 ga0))) (.a (.av (zab (zad x9.1 0))) (.g (fun (ga0:(!((!decide (x9.2.Code=0))||(decide ((x9.1.length:Int)=0))))=true)=>(zec zab (h22 ga0))) (.g (fun (ga0:(!((!decide (x9.2.Code=0))||(decide ((x9.1.length:Int)=0))))=true)=>(zf4 ze5 (h23 ga0))) (.a (.av (ze5 (zad v.2.2 v2.2.2.2))) (.g (fun (ga0:(!((!decide (x9.2.Code=0))||(decide ((x9.1.length:Int)=0))))=true)=>(zec ze5 (h24 ga0))) .z)))))))) ?_
       refine Nif hF ?_ ?_ <;> intro hb hF
       ·have⟨x10,h25,hF⟩:=lS hF
        refine VR [.callB (.agg (zae x10))] [2,3,4] [4] [] [] [(2,.nils),(3,.nils),(4,.ptr 4 0)] [(4,(zae x10))] [] [] (hc (zfn h25) .nil) ?_
        have hF:=zcr hF dn1
        cases hF
        refine zap 2 60012 53 5 rfl rfl rfl ?_
        refine zap 3 60013 3 1 rfl rfl rfl ?_
        refine zau ⟨[],[(60012,147),(60013,152)],[],[]⟩ rfl ?_
        exact Wz [(147,⟨0,true,true,true⟩)] hfin
       ·have⟨h26,hF⟩:=aE hF
        refine RJ (.p zab h26 .z) ?_
        have⟨h27,hF⟩:=aE hF
        refine RJ (.l zab x9.1 (.a (.sealed) (.p zpt h27 .z))) ?_
        refine LR0 ?_
        exact zgb [(147,⟨0,true,true,false⟩),(152,⟨0,true,true,false⟩)] hF ih1
      ·refine zbm rfl ?_
       have hF:=zaj hF dn1
       exact ze4 (v2.1,v2.2.1,v2.2.2.1) [] hF
     ·intro v1 hF
      unfold zfu at hF
      have⟨x4,h9,hF⟩:=oE hF
      refine RJ (.b (zpk h9) (.a (.nat (v1.2.1.length:Int)) (.g (fun (_:(!(!decide (x4.Code=0)))=true)=>(zc5 zab v1.2.1)) .z))) ?_
      refine Nif hF ?_ ?_ <;> intro hb hF
      ·have⟨x5,h10,hF⟩:=lS hF
       refine VR [.callB (.agg (zae x5))] [2,3,4] [4] [] [] [(2,.nils),(3,.nils),(4,.ptr 4 0)] [(4,(zae x5))] [] [] (hc (zfn h10) .nil) ?_
       cases hF
       refine zap 2 60006 53 5 rfl rfl rfl ?_
       refine zap 3 60007 3 1 rfl rfl rfl ?_
       refine zau ⟨[],[(60006,147),(60007,152)],[],[]⟩ rfl ?_
       exact Wz [(147,⟨0,true,true,true⟩)] hfin
      ·have⟨x6,h11,hF⟩:=oE hF
       have p12:=(Pe.ren (zrw h11) ⟨[],[(46,164)],[],[]⟩)
       have⟨h13,h14,hF⟩:=zf7 hF
       have⟨x7,h15,hF⟩:=lS hF
       refine DJ (.e [] [] p12 (.x zaf h13 (.r zaf h14 (.b (zq2 h15) .z)))) ?_
       refine Nif hF ?_ ?_ <;> intro hb hF
       ·have⟨x8,h16,hF⟩:=lS hF
        refine VR [.callB (.agg (zae x8))] [2,3,4] [4] [] [] [(2,.nils),(3,.nils),(4,.ptr 4 0)] [(4,(zae x8))] [] [] (hc (zfn h16) .nil) ?_
        cases hF
        refine zap 2 60008 53 5 rfl rfl rfl ?_
        refine zap 3 60009 3 1 rfl rfl rfl ?_
        refine zau ⟨[],[(60008,147),(60009,152)],[],[]⟩ rfl ?_
        exact Wz [(147,⟨0,true,true,true⟩)] hfin
       ·refine LR0 ?_
        cases hF
        exact Wz [] hfin

/- tabularyref.Above -/
def R_Above_J1 (v:List Note):Option (List Note):=
 some v
def R_Above_B1 (l:List Note)(num:Int)(v1:List Note×Int):Option ((List Note×Int)⊕(List Note)):=
 if (decide (v1.2<(l.length:Int)))=true then
  zao (0<=v1.2/\v1.2<(l.length:Int)) <|
  ob (
   if (decide (num<((zad l v1.2).Seq)))=true then
    zao (0<=v1.2/\v1.2<(l.length:Int)) <|
    zao (((v1.1++[(⟨(zad l v1.2).Seq,(zad l v1.2).Cells⟩:Note)]).length:Int)*32<=140737488351232) <|
    some (v1.1++[(⟨(zad l v1.2).Seq,(zad l v1.2).Cells⟩:Note)])
   else
    some v1.1) fun v2=>
  some (Sum.inl (v2,w64 (v1.2+1)))
 else
  zev (R_Above_J1 v1.1)
def R_Above_L1 (l:List Note)(num:Int)(v0:List Note×Int):Option (List Note):=
 zbg (fun y=>R_Above_B1 l num y) v0
def R_Above (l:List Note)(num:Int):Option (List Note):=
 R_Above_L1 l num (([]:List Note),0)
theorem R_Above_ok {l num r}(hF:R_Above l num=some r):Pe Tryz.prog 39 (.w []) [.sl 2 (l.map zar),.i num] (.row 26 0) ⟨[],[],[(26,.z 50 2 0 (r.map zar))],[],[]⟩:=by
 refine PT 28 [.tmp 4] [41] Tryz.func39 ?_
 intro Q g hfin
 unfold R_Above at hF
 refine LR0 ?_
 refine LR0 ?_
 refine NR [] [0,1,5,6] [] [] [(0,.sl 2 (l.map zar)),(1,.i num),(5,.nils),(6,.i 0)] .nil ?_
 refine NmQ (fun v=>R_Above_J1 v=some r) (fun v=>⟨[(5,.row 26 0)],[],[(26,.z 50 2 0 (v.map zar))],[],[]⟩) ?_ ?_
 ·refine zb5 ?_
  unfold R_Above_L1 at hF
  refine zap 5 60000 50 2 rfl rfl rfl ?_
  refine zcj (fs:=[0,1,5,6]) (bs:=[]) (rs:=[60000]) (ms:=[]) (aa:=[]) (nv:=[]) rfl ?_
  refine zau ⟨[],[(60000,26)],[],[]⟩ rfl ?_
  refine zrv hF [] (fun v1=>⟨[(0,.sl 2 (l.map zar)),(1,.i num),(5,.row 26 0),(6,.i v1.2)],[],[(26,.z 50 2 0 (v1.1.map zar))],[],[]⟩) ?_
  intro n1 v1 y1 hF ih1 dn1
  unfold R_Above_B1 at hF
  refine RJ (.l zar l .z) ?_
  refine Nif hF ?_ ?_ <;> intro hb hF
  ·refine zb5 ?_
   have⟨h0,hF⟩:=aE hF
   refine RJ (.i zar h0 .z) ?_
   have⟨v2,hv,hF⟩:=oE hF
   refine NmT (fun Z=>Z.up [0,1,5,6] [] [26] [] [] [] [(26,.z 50 2 0 (v2.map zar))] []) ?_ ?_
   ·have hF:=hv
    refine Nif hF ?_ ?_ <;> intro hb hF
    ·have⟨h1,hF⟩:=aE hF
     have⟨h2,hF⟩:=aE hF
     refine RJ (.i zar h1 (.a (.sealed) (.p zar h2 .z))) ?_
     cases hF
     exact zgt [(26,⟨0,true,true,false⟩)]
    ·cases hF
     exact zgt []
   ·refine LR0 ?_
    exact zgb [] hF ih1
  ·refine zbm rfl ?_
   have hF:=zaj hF dn1
   exact ze4 v1.1 [] hF
 ·intro v hF
  unfold R_Above_J1 at hF
  refine LR0 ?_
  cases hF
  exact Wz [] hfin

/- tabularyref.PutCell -/
def zhi (l:Cs)(v:Cell×Int):Option Cs:=
 zao ((decide (v.2<(l.length:Int)))=true->0<=v.2/\v.2<(l.length:Int)) <|
 lt (zcf v.1 (⟨(zad l v.2).Row,(zad l v.2).Col,(zad l v.2).Time,(zad l v.2).Gone,(zad l v.2).Value⟩:Cell)) fun x=>
 if ((decide (v.2<(l.length:Int)))&&(!x))=true then
  zao ((l.length:Int)*64<=140737488351232) <|
  zao (0<=v.2/\v.2<(l.length:Int)) <|
  zao (0<=v.2/\v.2<(l.length:Int)) <|
  some (zem l v.2 v.1)
 else
  zao (0<=v.2/\v.2<=(l.length:Int)) <|
  zao (((zd8 l v.2).length:Int)*64<=140737488351232) <|
  zao ((((zd8 l v.2)++[v.1]).length:Int)*64<=140737488351232) <|
  zao (0<=v.2/\v.2<=(l.length:Int)) <|
  zao (((((zd8 l v.2)++[v.1])++(zc1 l v.2)).length:Int)*64<=140737488351232) <|
  some (((zd8 l v.2)++[v.1])++(zc1 l v.2))
def zm3 (l:Cs)(v1:Cell×Int):Option ((Cell×Int)⊕Cs):=
 zao ((decide (v1.2<(l.length:Int)))=true->0<=v1.2/\v1.2<(l.length:Int)) <|
 lt (zcf (⟨(zad l v1.2).Row,(zad l v1.2).Col,(zad l v1.2).Time,(zad l v1.2).Gone,(zad l v1.2).Value⟩:Cell) v1.1) fun x1=>
 if ((decide (v1.2<(l.length:Int)))&&x1)=true then
  some (Sum.inl (v1.1,w64 (v1.2+1)))
 else
  zev (zhi l (v1.1,v1.2))
def zp1 (l:Cs)(v0:Cell×Int):Option Cs:=
 zbg (fun y=>zm3 l y) v0
def R_PutCell (l:Cs)(c:Cell):Option Cs:=
 zp1 l (c,0)
theorem R_PutCell_ok {l c r}(hF:R_PutCell l c=some r):Pe Tryz.prog 86 (.w []) [.sl 5 (l.map zab),.agg (zg9 c)] (.row 35 0) ⟨[],[],[(35,.z 53 5 0 (r.map zab))],[],[]⟩:=by
 refine PT 52 [.tmp 4] [28] Tryz.func86 ?_
 intro Q g hfin
 unfold R_PutCell at hF
 refine LR0 ?_
 refine LR0 ?_
 refine NmS (fun v=>zhi l v=some r) (fun Z v=>Z.up [0,3,5] [3] [] [] [(5,.i v.2)] [(3,(zg9 v.1))] [] []) ?_ ?_
 ·refine zb5 ?_
  unfold zp1 at hF
  refine zoy hF [] (fun Z v1=>Z.up [0,3,5] [3] [] [] [(5,.i v1.2)] [(3,(zg9 v1.1))] [] []) ?_
  intro n1 v1 y1 hF ih1 dn1
  unfold zm3 at hF
  have⟨h10,hF⟩:=aE hF
  have⟨x1,h11,hF⟩:=lS hF
  refine DJ (.l zab l (.a (.av (zab (zad l v1.2))) (.g (fun (ga0:(decide (v1.2<(l.length:Int)))=true)=>(zgi zab (h10 ga0))) (.a (.callB (.bool x1)) (.g (fun (ga0:(decide (v1.2<(l.length:Int)))=true)=>(R_Ahead_ok h11)) .z))))) ?_
  refine Nif hF ?_ ?_ <;> intro hb hF
  ·refine zb5 ?_
   refine LR0 ?_
   exact zgb [] hF ih1
  ·refine zbm rfl ?_
   have hF:=zaj hF dn1
   exact ze4 (v1.1,v1.2) [] hF
 ·intro v hF
  unfold zhi at hF
  have⟨h0,hF⟩:=aE hF
  have⟨x,h1,hF⟩:=lS hF
  refine DJ (.l zab l (.a (.av (zab (zad l v.2))) (.g (fun (ga0:(decide (v.2<(l.length:Int)))=true)=>(zgi zab (h0 ga0))) (.a (.callB (.bool x)) (.g (fun (ga0:(decide (v.2<(l.length:Int)))=true)=>(R_Ahead_ok h1)) .z))))) ?_
  refine Nif hF ?_ ?_ <;> intro hb hF
  ·have⟨h2,hF⟩:=aE hF
   refine RJ (.p0 zab h2 .z) ?_
   have⟨h3,h4,hF⟩:=zf7 hF
   refine RJ (.x zab h3 (.w zab h4 v.1 .z)) ?_
   refine LR0 ?_
   cases hF
   exact Wz [(35,⟨0,true,true,false⟩)] hfin
  ·have⟨h5,hF⟩:=aE hF
   have⟨h6,h7,h8,h9,hF⟩:=zla hF
   refine VD [.xs ((zd8 l v.2).map zab),.xs ((zd8 l v.2).map zab),.sealed,.xs (((zd8 l v.2)++[v.1]).map zab),.xs ((zc1 l v.2).map zab),.xs ((((zd8 l v.2)++[v.1])++(zc1 l v.2)).map zab)] [4] [] [44] [] [(4,.row 44 3)] [] [(44,.z 53 5 3 ((((zd8 l v.2)++[v.1])++(zc1 l v.2)).map zab))] [] (hc (sl01_ok zab h5) (hc (app0_ok zab (zd8 l v.2)) (hc (zqv zab h6) (hc (app_ok zab (zd8 l v.2) [v.1]) (hc (zqv zab h7) (hc (sl10_ok zab h8) (hc (app_ok zab ((zd8 l v.2)++[v.1]) (zc1 l v.2)) (hc (zqv zab h9) .nil)))))))) ?_
   cases hF
   refine zau ⟨[],[(44,35)],[],[]⟩ rfl ?_
   exact Wz [(35,⟨0,true,true,false⟩)] hfin

/- tabularyref.PutCells -/
def zry (v:Cs):Option Cs:=
 some v
def znw (m:Cs)(v1:Cs×Int):Option ((Cs×Int)⊕Cs):=
 if (decide (v1.2<(m.length:Int)))=true then
  zao (0<=v1.2/\v1.2<(m.length:Int)) <|
  ob (R_PutCell v1.1 (⟨(zad m v1.2).Row,(zad m v1.2).Col,(zad m v1.2).Time,(zad m v1.2).Gone,(zad m v1.2).Value⟩:Cell)) fun x=>
  some (Sum.inl (x,w64 (v1.2+1)))
 else
  zev (zry v1.1)
def ztc (m:Cs)(v0:Cs×Int):Option Cs:=
 zbg (fun y=>znw m y) v0
def zok (l m:Cs):Option Cs:=
 ztc m (l,0)
theorem R_PutCells_ok {l m r}(hF:zok l m=some r):Pe Tryz.prog 25 S.none [.sl 5 (l.map zab),.sl 5 (m.map zab)] (.sl 5 (r.map zab)) S.none:=by
 refine PT 19 [.tmp 4] [28] Tryz.func25 ?_
 intro Q g hfin
 unfold zok at hF
 refine LR0 ?_
 refine LR0 ?_
 refine NmQ (fun v=>zry v=some r) (fun v=>⟨[(0,.sl 5 (v.map zab))],[],[],[],[]⟩) ?_ ?_
 ·refine zb5 ?_
  unfold ztc at hF
  refine zoy hF [] (fun Z v1=>Z.up [0,1,5] [] [] [] [(0,.sl 5 (v1.1.map zab)),(5,.i v1.2)] [] [] []) ?_
  intro n1 v1 y1 hF ih1 dn1
  unfold znw at hF
  refine RJ (.l zab m .z) ?_
  refine Nif hF ?_ ?_ <;> intro hb hF
  ·refine zb5 ?_
   have⟨h0,hF⟩:=aE hF
   have⟨x,h1,hF⟩:=oE hF
   have p2:=(Pe.ren (R_PutCell_ok h1) ⟨[],[(35,17)],[],[]⟩)
   refine RJ (.i zab h0 (.e [] [] p2 .z)) ?_
   refine VR [] [0,1,5] [] [17] [] [(0,.row 17 0),(1,.sl 5 (m.map zab)),(5,.i (w64 (v1.2+1)))] [] [(17,.z 53 5 0 (x.map zab))] [] .nil ?_
   refine Wk_sealX [] 0 rfl rfl ?_
   exact zgb [] hF ih1
  ·refine zbm rfl ?_
   have hF:=zaj hF dn1
   exact ze4 v1.1 [] hF
 ·intro v hF
  unfold zry at hF
  refine LR0 ?_
  cases hF
  exact Wz [] hfin

/- tabularyref.PutNotes -/
def zsc (v:Cs):Option Cs:=
 some v
def zn2 (notes:List Note)(v1:Cs×Int):Option ((Cs×Int)⊕Cs):=
 if (decide (v1.2<(notes.length:Int)))=true then
  zao (0<=v1.2/\v1.2<(notes.length:Int)) <|
  ob (zok v1.1 ((zad notes v1.2).Cells)) fun x=>
  some (Sum.inl (x,w64 (v1.2+1)))
 else
  zev (zsc v1.1)
def zsb (notes:List Note)(v0:Cs×Int):Option Cs:=
 zbg (fun y=>zn2 notes y) v0
def R_PutNotes (l:Cs)(notes:List Note):Option Cs:=
 zsb notes (l,0)
theorem R_PutNotes_ok {l notes r}(hF:R_PutNotes l notes=some r):Pe Tryz.prog 79 S.none [.sl 5 (l.map zab),.sl 2 (notes.map zar)] (.sl 5 (r.map zab)) S.none:=by
 refine PT 20 [.tmp 4] [28] Tryz.func79 ?_
 intro Q g hfin
 unfold R_PutNotes at hF
 refine LR0 ?_
 refine LR0 ?_
 refine NmQ (fun v=>zsc v=some r) (fun v=>⟨[(0,.sl 5 (v.map zab))],[],[],[],[]⟩) ?_ ?_
 ·refine zb5 ?_
  unfold zsb at hF
  refine zoy hF [] (fun Z v1=>Z.up [0,1,5] [] [] [] [(0,.sl 5 (v1.1.map zab)),(5,.i v1.2)] [] [] []) ?_
  intro n1 v1 y1 hF ih1 dn1
  unfold zn2 at hF
  refine RJ (.l zar notes .z) ?_
  refine Nif hF ?_ ?_ <;> intro hb hF
  ·refine zb5 ?_
   have⟨h0,hF⟩:=aE hF
   have⟨x,h1,hF⟩:=oE hF
   refine RJ (.i zar h0 (.c (R_PutCells_ok h1) .z)) ?_
   refine LR0 ?_
   exact zgb [] hF ih1
  ·refine zbm rfl ?_
   have hF:=zaj hF dn1
   exact ze4 v1.1 [] hF
 ·intro v hF
  unfold zsc at hF
  refine LR0 ?_
  cases hF
  exact Wz [] hfin

/- tabularyref.Together -/
def zs2 (v:Cs):Option Cs:=
 some v
def zn8 (l:List Cs)(v1:Cs×Int):Option ((Cs×Int)⊕Cs):=
 if (decide (0<v1.2))=true then
  zao (0<=w64 (v1.2 - 1)/\w64 (v1.2 - 1)<(l.length:Int)) <|
  ob (zok v1.1 (zad l (w64 (v1.2 - 1)))) fun x=>
  some (Sum.inl (x,w64 (v1.2 - 1)))
 else
  zev (zs2 v1.1)
def ztg (l:List Cs)(v0:Cs×Int):Option Cs:=
 zbg (fun y=>zn8 l y) v0
def zoe (l:List Cs):Option Cs:=
 ztg l (([]:Cs),(l.length:Int))
theorem R_Together_ok {l r}(hF:zoe l=some r):Pe Tryz.prog 53 S.none [.sl 1 (l.map zal)] (.sl 5 (r.map zab)) S.none:=by
 refine PT 19 [.tmp 2] [28] Tryz.func53 ?_
 intro Q g hfin
 unfold zoe at hF
 refine LR0 ?_
 refine LR0 ?_
 refine NR [.nat (l.length:Int)] [0,3,4] [] [] [(0,.sl 1 (l.map zal)),(3,.nils),(4,.i (l.length:Int))] (hc (zc5 zal l) .nil) ?_
 refine NmQ (fun v=>zs2 v=some r) (fun v=>⟨[(3,.sl 5 (v.map zab))],[],[],[],[]⟩) ?_ ?_
 ·refine zb5 ?_
  unfold ztg at hF
  refine Wk_coe 3 (.sl 5 (([]:Cs).map zab)) rfl (.cell rfl (CoeS.nils 5)) ?_
  refine zrv hF [] (fun v1=>⟨[(0,.sl 1 (l.map zal)),(3,.sl 5 (v1.1.map zab)),(4,.i v1.2)],[],[],[],[]⟩) ?_
  intro n1 v1 y1 hF ih1 dn1
  unfold zn8 at hF
  refine LR0 ?_
  refine Nif hF ?_ ?_ <;> intro hb hF
  ·refine zb5 ?_
   have⟨h0,hF⟩:=aE hF
   have⟨x,h1,hF⟩:=oE hF
   refine RJ (.i zal h0 (.c (R_PutCells_ok h1) .z)) ?_
   refine LR0 ?_
   exact zgb [] hF ih1
  ·refine zbm rfl ?_
   have hF:=zaj hF dn1
   exact ze4 v1.1 [] hF
 ·intro v hF
  unfold zs2 at hF
  refine LR0 ?_
  cases hF
  exact Wz [] hfin

/- tabularyref.Heavy -/
def R_Heavy (x:Inside):Fault:=
 if (decide (500<(x.Mem.length:Int)))=true then
  lt (R_F 9 (-2)) fun x1=>
  x1
 else
  if (decide (1000<(x.All.length:Int)))=true then
   lt (R_F 9 (-1)) fun x2=>
   x2
  else
   (⟨0,0⟩:Fault)
theorem R_Heavy_ok {x r}(hF:R_Heavy x=r):Pe Tryz.prog 26 S.none [.agg (zeu x)] (.agg (zae r)) S.none:=by
 refine PT 14 [.cell 2 35] [35] Tryz.func26 ?_
 intro Q g hfin
 unfold R_Heavy at hF
 refine LR0 ?_
 refine RJ (.l zab x.Mem .z) ?_
 refine Nif hF ?_ ?_ <;> intro hb hF
 ·have⟨x1,h0,hF⟩:=lS hF
  refine RJ (.b (zfn h0) .z) ?_
  cases hF
  exact Wz [] hfin
 ·refine RJ (.l zab x.All .z) ?_
  refine Nif hF ?_ ?_ <;> intro hb hF
  ·have⟨x2,h1,hF⟩:=lS hF
   refine RJ (.b (zfn h1) .z) ?_
   cases hF
   exact Wz [] hfin
  ·refine LR0 ?_
   cases hF
   exact Wz [] hfin

/- tabularyref.InsideOf -/
/- tabularyref.InsideOf -/
def zj7 (x4:List Note×Int)(v:Tablet×Inside×Fault×Int)(v1:Tablet×Inside×Fault×List Cs):Option (Inside×Fault):=
 ob (R_Above x4.1 v1.1.Done) fun x6=>
 ob (R_PutNotes ([]:Cs) x6) fun x7=>
 zao (((([x7]:List Cs)++v1.2.2.2).length:Int)*24<=140737488351232) <|
 ob (zoe (([x7]:List Cs)++v1.2.2.2)) fun x8=>
 lt (R_Heavy (⟨x4.1,v.2.2.2,x7,v1.2.2.2,x8⟩:Inside)) fun x9=>
 some ((⟨x4.1,v.2.2.2,x7,v1.2.2.2,x8⟩:Inside),x9)
def zh0 (x4:List Note×Int)(v:Tablet×Inside×Fault×Int)(v2:Tablet×Inside×Fault×List Cs×Int):Option ((Tablet×Inside×Fault×List Cs×Int)⊕(Inside×Fault)):=
 if (decide (v2.2.2.2.2<(v2.1.Files.length:Int)))=true then
  zao (0<=v2.2.2.2.2/\v2.2.2.2.2<(v2.1.Files.length:Int)) <|
  ob (zm8 (zad v2.1.Files v2.2.2.2.2)) fun x10=>
  if (!decide (x10.2.2.Code=0))=true then
   lt (R_F x10.2.2.Code v2.2.2.2.2) fun x11=>
   some (Sum.inr ((⟨([]:List Note),0,([]:Cs),([]:List Cs),([]:Cs)⟩:Inside),x11))
  else
   zao (((v2.2.2.2.1++([x10.1]:List Cs)).length:Int)*24<=140737488351232) <|
   some (Sum.inl (v2.1,v2.2.1,v2.2.2.1,(v2.2.2.2.1++([x10.1]:List Cs)),w64 (v2.2.2.2.2+1)))
 else
  zev (zj7 x4 v (v2.1,v2.2.1,v2.2.2.1,v2.2.2.2.1))
def zns (x4:List Note×Int)(v:Tablet×Inside×Fault×Int)(v0:Tablet×Inside×Fault×List Cs×Int):Option (Inside×Fault):=
 zbg (fun y=>zh0 x4 v y) v0
def zhw (x4:List Note×Int)(v:Tablet×Inside×Fault×Int):Option (Inside×Fault):=
 zns x4 v (v.1,v.2.1,v.2.2.1,([]:List Cs),0)
def zly (t0:Tablet):Option (Inside×Fault):=
 if ((((decide (t0.Done<0))||(decide (1000000000<t0.Done)))||(decide (t0.Since<0)))||(decide (1000000000<t0.Since)))=true then
  lt (R_F 3 0) fun x=>
  some ((⟨([]:List Note),0,([]:Cs),([]:List Cs),([]:Cs)⟩:Inside),x)
 else
  if (decide (10<(t0.Files.length:Int)))=true then
   lt (R_F 2 (-1)) fun x1=>
   some ((⟨([]:List Note),0,([]:Cs),([]:List Cs),([]:Cs)⟩:Inside),x1)
  else
   lt (zpr t0.Log) fun x2=>
   if (!decide (x2.Code=0))=true then
    lt (R_F x2.Code (-2)) fun x3=>
    some ((⟨([]:List Note),0,([]:Cs),([]:List Cs),([]:Cs)⟩:Inside),x3)
   else
    ob (R_Logged t0.Log.Bytes) fun x4=>
    if (!decide (x4.2=(t0.Log.Bytes.length:Int)))=true then
     lt (R_F 11 (-2)) fun x5=>
     some ((⟨([]:List Note),0,([]:Cs),([]:List Cs),([]:Cs)⟩:Inside),x5)
    else
     if (decide (0<(x4.1.length:Int)))=true then
      zao (0<=w64 ((x4.1.length:Int) - 1)/\w64 ((x4.1.length:Int) - 1)<(x4.1.length:Int)) <|
      zao (0<=w64 ((x4.1.length:Int) - 1)/\w64 ((x4.1.length:Int) - 1)<(x4.1.length:Int)) <|
      zao (0<=(0:Int)/\0<(x4.1.length:Int)) <|
      zao (0<=(0:Int)/\0<(x4.1.length:Int)) <|
      if ((decide (t0.Done<(w64 (((zad x4.1 0).Seq) - 1))))||(decide (((zad x4.1 (w64 ((x4.1.length:Int) - 1))).Seq)<t0.Done)))=true then
       lt (R_F 11 (-2)) fun x12=>
       some ((⟨([]:List Note),0,([]:Cs),([]:List Cs),([]:Cs)⟩:Inside),x12)
      else
       zhw x4 (t0,(⟨([]:List Note),0,([]:Cs),([]:List Cs),([]:Cs)⟩:Inside),(⟨0,0⟩:Fault),(zad x4.1 (w64 ((x4.1.length:Int) - 1))).Seq)
     else
      zhw x4 (t0,(⟨([]:List Note),0,([]:Cs),([]:List Cs),([]:Cs)⟩:Inside),(⟨0,0⟩:Fault),t0.Done)
theorem R_InsideOf_v1_ok {t0 r}(hF:zly t0=some r):Pe Tryz.prog 18 S.none [.agg (zag t0)] (.tup [.agg (zeu r.1),.agg (zae r.2)]) S.none:=by
 refine PT 143 [.cell 2 44,.cell 3 35] [44,35] Tryz.func18 ?_
 intro Q g hfin
 unfold zly at hF
 refine LR0 ?_
 refine LR0 ?_
 refine Nif hF ?_ ?_ <;> intro hb hF
 ·have⟨x,h0,hF⟩:=lS hF
  refine RJ (.b (zfn h0) .z) ?_
  cases hF
  exact Wz [] hfin
 ·refine RJ (.l zaf t0.Files .z) ?_
  refine Nif hF ?_ ?_ <;> intro hb hF
  ·have⟨x1,h1,hF⟩:=lS hF
   refine RJ (.b (zfn h1) .z) ?_
   cases hF
   exact Wz [] hfin
  ·have⟨x2,h2,hF⟩:=lS hF
   refine RJ (.b (R_DiskFault_ok h2) .z) ?_
   refine LR0 ?_
   refine Nif hF ?_ ?_ <;> intro hb hF
   ·have⟨x3,h3,hF⟩:=lS hF
    refine RJ (.b (zfn h3) .z) ?_
    cases hF
    exact Wz [] hfin
   ·have⟨x4,h4,hF⟩:=oE hF
    have p5:=(Pe.ren (R_Logged_ok h4) ⟨[],[],[],[]⟩)
    refine RJ (.e [] [] p5 .z) ?_
    refine RJ (.l zas t0.Log.Bytes .z) ?_
    refine Nif hF ?_ ?_ <;> intro hb hF
    ·have⟨x5,h6,hF⟩:=lS hF
     refine RJ (.b (zfn h6) .z) ?_
     cases hF
     exact Wz [] hfin
    ·refine LR0 ?_
     refine VR [.nat (x4.1.length:Int)] [1,2,3,5,7,69] [1,2,3,7] [52] [] [(1,.ptr 1 0),(2,.ptr 2 0),(3,.ptr 3 0),(5,.row 52 0),(7,.ptr 7 0),(69,.bool (decide (0<(x4.1.length:Int))))] [(1,(zag t0)),(2,[.nils,.i 0,.nils,.nils,.nils]),(3,[.i 0,.i 0]),(7,[.row 52 0,.i t0.Done,.nils,.nils,.nils])] [(52,.z 50 2 0 (x4.1.map zar))] [] (hc (zc5 zar x4.1) .nil) ?_
     refine NmS (fun v=>zhw x4 v=some r) (fun Z v=>Z.up [1,2,3,5,7] [1,2,3,7] [52] [] [] [(1,(zag v.1)),(2,(zeu v.2.1)),(3,(zae v.2.2.1)),(7,[.row 52 0,.i v.2.2.2,.nils,.nils,.nils])] [] []) ?_ ?_
     ·refine Nif hF ?_ ?_ <;> intro hb hF
      ·have⟨h18,hF⟩:=aE hF
       have⟨h19,hF⟩:=aE hF
       refine RJ (.l zar x4.1 (.x zar h18 (.r zar h19 .z))) ?_
       have⟨h20,h21,hF⟩:=zf7 hF
       refine VD [.av (zar (zad x4.1 0))] [1,2,3,5,7,92] [1,2,3,7] [52] [] [(1,.ptr 1 0),(2,.ptr 2 0),(3,.ptr 3 0),(5,.row 52 0),(7,.ptr 7 0),(92,.bool ((decide (t0.Done<(w64 (((zad x4.1 0).Seq) - 1))))||(decide (((zad x4.1 (w64 ((x4.1.length:Int) - 1))).Seq)<t0.Done))))] [(1,(zag t0)),(2,[.nils,.i 0,.nils,.nils,.nils]),(3,[.i 0,.i 0]),(7,[.row 52 0,.i ((zad x4.1 (w64 ((x4.1.length:Int) - 1))).Seq),.nils,.nils,.nils])] [(52,.z 50 2 0 (x4.1.map zar))] [] (hc (zf4 zar h20) (hc (zec zar h21) .nil)) ?_
       refine Nif hF ?_ ?_ <;> intro hb hF
       ·have⟨x12,h22,hF⟩:=lS hF
        refine RJ (.b (zfn h22) .z) ?_
        cases hF
        exact Wz [] hfin
       ·refine znk 2 [.sl 2 (([]:List Note).map zar),.i 0,.sl 5 (([]:Cs).map zab),.sl 1 (([]:List Cs).map zal),.sl 5 (([]:Cs).map zab)] rfl (.cons (CoeS.nils 2) (.cons (CoeS.refl _) (.cons (CoeS.nils 5) (.cons (CoeS.nils 1) (.cons (CoeS.nils 5) .nil))))) ?_
        exact ze4 (t0,(⟨([]:List Note),0,([]:Cs),([]:List Cs),([]:Cs)⟩:Inside),(⟨0,0⟩:Fault),(zad x4.1 (w64 ((x4.1.length:Int) - 1))).Seq) [] hF
      ·refine znk 2 [.sl 2 (([]:List Note).map zar),.i 0,.sl 5 (([]:Cs).map zab),.sl 1 (([]:List Cs).map zal),.sl 5 (([]:Cs).map zab)] rfl (.cons (CoeS.nils 2) (.cons (CoeS.refl _) (.cons (CoeS.nils 5) (.cons (CoeS.nils 1) (.cons (CoeS.nils 5) .nil))))) ?_
       exact ze4 (t0,(⟨([]:List Note),0,([]:Cs),([]:List Cs),([]:Cs)⟩:Inside),(⟨0,0⟩:Fault),t0.Done) [] hF
     ·intro v hF
      unfold zhw at hF
      refine VR [] [1,2,3,5,7,8] [1,2,3,7] [52] [] [(1,.ptr 1 0),(2,.ptr 2 0),(3,.ptr 3 0),(5,.row 52 0),(7,.ptr 7 0),(8,.i 0)] [(1,(zag v.1)),(2,(zeu v.2.1)),(3,(zae v.2.2.1)),(7,[.row 52 0,.i v.2.2.2,.nils,.nils,.nils])] [(52,.z 50 2 0 (x4.1.map zar))] [] .nil ?_
      refine NmS (fun v1=>zj7 x4 v v1=some r) (fun Z v1=>Z.up [1,2,3,5,7] [1,2,3,7] [52,124] [] [] [(1,(zag v1.1)),(2,(zeu v1.2.1)),(3,(zae v1.2.2.1)),(7,[.row 52 0,.i v.2.2.2,.nils,.row 124 0,.nils])] [(124,.z 28 1 0 (v1.2.2.2.map zal))] []) ?_ ?_
      ·refine zb5 ?_
       unfold zns at hF
       refine zav 7 3 60000 28 1 rfl rfl rfl rfl rfl ?_
       refine zcj (fs:=[1,2,3,5,7,8]) (bs:=[1,2,3,7]) (rs:=[52,60000]) (ms:=[]) (aa:=[]) (nv:=[]) rfl ?_
       refine zau ⟨[],[(60000,124)],[],[]⟩ rfl ?_
       refine zrv hF [] (fun v2=>⟨[(1,.ptr 1 0),(2,.ptr 2 0),(3,.ptr 3 0),(5,.row 52 0),(7,.ptr 7 0),(8,.i v2.2.2.2.2)],[(1,(zag v2.1)),(2,(zeu v2.2.1)),(3,(zae v2.2.2.1)),(7,[.row 52 0,.i v.2.2.2,.nils,.row 124 0,.nils])],[(52,.z 50 2 0 (x4.1.map zar)),(124,.z 28 1 0 (v2.2.2.2.1.map zal))],[],[]⟩) ?_
       intro n1 v2 y1 hF ih1 dn1
       unfold zh0 at hF
       refine RJ (.l zaf v2.1.Files .z) ?_
       refine Nif hF ?_ ?_ <;> intro hb hF
       ·refine zb5 ?_
        have⟨h13,hF⟩:=aE hF
        have⟨x10,h14,hF⟩:=oE hF
        have p15:=(Pe.ren (R_OpenedFile_ok h14) ⟨[],[(147,108),(152,20108)],[],[]⟩)
        refine RJ (.i zaf h13 (.e [] [] p15 .z)) ?_
        refine LR0 ?_
        refine Nif hF ?_ ?_ <;> intro hb hF
        ·have⟨x11,h16,hF⟩:=lS hF
         refine RJ (.b (zfn h16) .z) ?_
         have hF:=zcr hF dn1
         cases hF
         exact Wz [] hfin
        ·have⟨h17,hF⟩:=aE hF
         refine RJ (.a (.sealed) (.p zal h17 .z)) ?_
         refine LR0 ?_
         exact zgb [(124,⟨0,true,true,false⟩)] hF ih1
       ·refine zbm rfl ?_
        have hF:=zaj hF dn1
        exact ze4 (v2.1,v2.2.1,v2.2.2.1,v2.2.2.2.1) [] hF
      ·intro v1 hF
       unfold zj7 at hF
       have⟨x6,h7,hF⟩:=oE hF
       have p8:=(Pe.ren (R_Above_ok h7) ⟨[],[(26,129)],[],[]⟩)
       have⟨x7,h9,hF⟩:=oE hF
       refine RJ (.e [] [] p8 (.c (R_PutNotes_ok h9) .z)) ?_
       have⟨h10,hF⟩:=aE hF
       have⟨x8,h11,hF⟩:=oE hF
       refine RJ (.p zal h10 (.c (R_Together_ok h11) .z)) ?_
       have⟨x9,h12,hF⟩:=lS hF
       refine DJ (.b (R_Heavy_ok h12) .z) ?_
       cases hF
       exact Wz [] hfin

/- tabularyref.SameDisk -/
def zrh (a0 b:Disk):Bool:=
 lt (zl1 a0.Bytes b.Bytes) fun x=>
 (decide (a0.Kept=b.Kept))&&x
theorem R_SameDisk_ok {a0 b r}(hF:zrh a0 b=r):Pe Tryz.prog 80 S.none [.agg (c_Disk a0),.agg (c_Disk b)] (.bool r) S.none:=by
 refine PT 17 [.tmp 4] [4] Tryz.func80 ?_
 intro Q g hfin
 unfold zrh at hF
 refine LR0 ?_
 have⟨x,h0,hF⟩:=lS hF
 refine RJ (.a (.callB (.bool x)) (.g (fun (ga0:(decide (a0.Kept=b.Kept))=true)=>(zq2 h0)) .z)) ?_
 cases hF
 exact Wz [] hfin

/- tabularyref.SameBodies -/
def zlg (v:Unit):Option Bool:=
 some true
def zi1 (a0 b:B9)(v1:Int):Option (Int⊕Bool):=
 if (decide (v1<(a0.length:Int)))=true then
  zao (0<=v1/\v1<(a0.length:Int)) <|
  zao (0<=v1/\v1<(b.length:Int)) <|
  lt (zl1 (zad a0 v1) (zad b v1)) fun x=>
  if (!x)=true then
   some (Sum.inr false)
  else
   some (Sum.inl (w64 (v1+1)))
 else
  zev (zlg ())
def zpn (a0 b:B9)(v0:Int):Option Bool:=
 zbg (fun y=>zi1 a0 b y) v0
def zng (a0 b:B9):Option Bool:=
 if (!decide ((a0.length:Int)=(b.length:Int)))=true then
  some false
 else
  zpn a0 b 0
theorem R_SameBodies_ok {a0 b r}(hF:zng a0 b=some r):Pe Tryz.prog 81 S.none [.sl 1 (a0.map zaf),.sl 1 (b.map zaf)] (.bool r) S.none:=by
 refine PT 27 [.tmp 4] [4] Tryz.func81 ?_
 intro Q g hfin
 unfold zng at hF
 refine LR0 ?_
 refine RJ (.l zaf a0 (.l zaf b .z)) ?_
 refine Nif hF ?_ ?_ <;> intro hb hF
 ·refine LR0 ?_
  cases hF
  exact Wz [] hfin
 ·refine LR0 ?_
  refine NmQ (fun v=>zlg v=some r) (fun v=>(.w [])) ?_ ?_
  ·refine zb5 ?_
   unfold zpn at hF
   refine zoy hF [] (fun Z v1=>Z.up [0,1,5] [] [] [] [(5,.i v1)] [] [] []) ?_
   intro n1 v1 y1 hF ih1 dn1
   unfold zi1 at hF
   refine RJ (.l zaf a0 .z) ?_
   refine Nif hF ?_ ?_ <;> intro hb hF
   ·refine zb5 ?_
    have⟨h0,h1,hF⟩:=zf7 hF
    have⟨x,h2,hF⟩:=lS hF
    refine DJ (.i zaf h0 (.i zaf h1 (.b (zq2 h2) .z))) ?_
    refine Nif hF ?_ ?_ <;> intro hb hF
    ·refine LR0 ?_
     have hF:=zcr hF dn1
     cases hF
     exact Wz [] hfin
    ·refine LR0 ?_
     exact zgb [] hF ih1
   ·refine zbm rfl ?_
    have hF:=zaj hF dn1
    exact ze4 () [] hF
  ·intro v hF
   unfold zlg at hF
   refine LR0 ?_
   cases hF
   exact Wz [] hfin

/- tabularyref.SameTablet -/
def zek (a0 b:Tablet):Option Bool:=
 lt (zrh a0.Log b.Log) fun x=>
 ob (if x=true then (zng a0.Files b.Files) else some default) fun x1=>
 lt (((x&&x1)&&(decide (a0.Done=b.Done)))&&(decide (a0.Since=b.Since))) fun v=>
 some v
theorem ziu {a0 b r}(hF:zek a0 b=some r):Pe Tryz.prog 19 S.none [.agg (zag a0),.agg (zag b)] (.bool r) S.none:=by
 refine PT 31 [.tmp 4] [4] Tryz.func19 ?_
 intro Q g hfin
 unfold zek at hF
 refine LR0 ?_
 have⟨x,h0,hF⟩:=lS hF
 have⟨x1,h1,hF⟩:=oE hF
 refine NRL (((x&&x1)&&(decide (a0.Done=b.Done)))&&(decide (a0.Since=b.Since))) (fun v:Bool=>([(4,.bool v)],[],[],[])) [.callB (.bool x),.callB (.bool x1)] [4] [] [] [] (hc (R_SameDisk_ok h0) (hc (fun (ga0:x=true)=>(R_SameBodies_ok (ite_t h1 ga0))) .nil)) (fun v hv=>?_)
 have hF:=zeg hF hv
 cases hF
 exact Wz [] hfin

/- tabularyref.SameCells -/
/- tabularyref.NoteBytes -/
/- tabularyref.NoteBytes -/
/- tabularyref.Framed -/
/- tabularylaw.TabletDoes$1 -/
/- tabularylaw.tabletAs -/
/- tabularylaw.TabletDoes$2 -/
/- tabularylaw.tabletAs -/
/- tabularyref.Logged -/
def R_Logged_v1_J1 (v:List Note×Int):Option (List Note×Int):=
 some (v.1,v.2)
def zju (x:B9×Int)(v1:List Note×Int×Int):Option ((List Note×Int×Int)⊕(List Note×Int)):=
 if (decide (v1.2.2<(x.1.length:Int)))=true then
  zao (0<=v1.2.2/\v1.2.2<(x.1.length:Int)) <|
  zao (0<=v1.2.2/\v1.2.2<(x.1.length:Int)) <|
  ob (R_NoteOf (zad x.1 v1.2.2)) fun x1=>
  zao ((decide (0<v1.2.2))=true->(!(!decide (x1.2.2.Code=0)))=true->0<=w64 (v1.2.2 - 1)/\w64 (v1.2.2 - 1)<(v1.1.length:Int)) <|
  zao ((decide (0<v1.2.2))=true->(!(!decide (x1.2.2.Code=0)))=true->0<=w64 (v1.2.2 - 1)/\w64 (v1.2.2 - 1)<(v1.1.length:Int)) <|
  if ((!decide (x1.2.2.Code=0))||((decide (0<v1.2.2))&&(!decide ((w64 (x1.1 - 1))=((zad v1.1 (w64 (v1.2.2 - 1))).Seq)))))=true then
   zev (R_Logged_v1_J1 (v1.1,v1.2.1))
  else
   zao (((v1.1++[(⟨x1.1,x1.2.1⟩:Note)]).length:Int)*32<=140737488351232) <|
   zao (0<=v1.2.2/\v1.2.2<(x.1.length:Int)) <|
   zao (0<=v1.2.2/\v1.2.2<(x.1.length:Int)) <|
   some (Sum.inl ((v1.1++[(⟨x1.1,x1.2.1⟩:Note)]),w64 ((w64 (v1.2.1+6))+((zad x.1 v1.2.2).length:Int)),w64 (v1.2.2+1)))
 else
  zev (R_Logged_v1_J1 (v1.1,v1.2.1))
def R_Logged_v1_L1 (x:B9×Int)(v0:List Note×Int×Int):Option (List Note×Int):=
 zbg (fun y=>zju x y) v0
def R_Logged_v1 (b:B8):Option (List Note×Int):=
 ob (zmp b) fun x=>
 R_Logged_v1_L1 x (([]:List Note),0,0)

/- tabularylaw.TabletDoes$3 -/
/- tabularylaw.tabletAs -/
/- tabularylaw.sizeFault -/
def zlk (size:Int):Fault:=
 if ((decide (size<50))||(decide (4000<size)))=true then
  lt (R_F 3 (-1)) fun x=>
  x
 else
  (⟨0,0⟩:Fault)
theorem law_sizeFault_ok {size r}(hF:zlk size=r):Pe Tryz.prog 33 S.none [.i size] (.agg (zae r)) S.none:=by
 refine PT 11 [.cell 2 35] [35] Tryz.func33 ?_
 intro Q g hfin
 unfold zlk at hF
 refine LR0 ?_
 refine LR0 ?_
 refine Nif hF ?_ ?_ <;> intro hb hF
 ·have⟨x,h0,hF⟩:=lS hF
  refine RJ (.b (zfn h0) .z) ?_
  cases hF
  exact Wz [] hfin
 ·refine LR0 ?_
  cases hF
  exact Wz [] hfin

/- tabularyref.MadeFault -/
def zmk (l:Cs)(size:Int):Option Fault:=
 if (decide (500<(l.length:Int)))=true then
  lt (R_F 2 (-1)) fun x=>
  some x
 else
  ob (R_FileOf l size) fun x1=>
  if (decide (60000<(x1.length:Int)))=true then
   lt (R_F 9 0) fun x2=>
   some x2
  else
   some (⟨0,0⟩:Fault)
theorem R_MadeFault_ok {l size r}(hF:zmk l size=some r):Pe Tryz.prog 34 S.none [.sl 5 (l.map zab),.i size] (.agg (zae r)) S.none:=by
 refine PT 16 [.cell 4 35] [35] Tryz.func34 ?_
 intro Q g hfin
 unfold zmk at hF
 refine LR0 ?_
 refine RJ (.l zab l .z) ?_
 refine Nif hF ?_ ?_ <;> intro hb hF
 ·have⟨x,h0,hF⟩:=lS hF
  refine RJ (.b (zfn h0) .z) ?_
  cases hF
  exact Wz [] hfin
 ·have⟨x1,h1,hF⟩:=oE hF
  have p2:=(Pe.ren (R_FileOf_ok h1) ⟨[],[(45,11)],[],[]⟩)
  refine RJ (.e [] [] p2 (.l zas x1 .z)) ?_
  refine Nif hF ?_ ?_ <;> intro hb hF
  ·have⟨x2,h3,hF⟩:=lS hF
   refine RJ (.b (zfn h3) .z) ?_
   cases hF
   exact Wz [] hfin
  ·refine LR0 ?_
   cases hF
   exact Wz [] hfin

/- tabularylaw.TabletDoes$4 -/
/- tabularylaw.tabletAs -/
/- tabularyref.Above -/
/- tabularyref.LogOf -/
/- tabularylaw.TabletDoes$5 -/
/- tabularylaw.tabletAs -/
/- tabularylaw.TabletDoes -/
/- slices.Compact[[]string,string] -/
/- tablet.Halve -/
/- tablet.Part$1 -/
def zsy (box:Int)(box1 box2:B8)(box3:Tablet):Option Fault:=
 lt (zfo box) fun x=>
 if (!decide (x.Code=0))=true then
  some x
 else
  none
theorem tablet_Part_1_ok {box box1 box2 box3 r}(hF:zsy box box1 box2 box3=some r):Pe Tryz.prog 94 ⟨[],[(100000,[.i box]),(100001,[.str box1]),(100002,[.str box2]),(100003,(zag box3))],[],[],[]⟩ [.nilp,.ptr 100000 0,.ptr 100001 0,.ptr 100002 0,.ptr 100003 0] (.agg (zae r)) ⟨[],[(100000,[.i box]),(100001,[.str box1]),(100002,[.str box2]),(100003,(zag box3))],[],[],[]⟩:=by
 refine PT 48 [.cell 6 35] [35] Tryz.func94 ?_
 intro Q g hfin
 unfold zsy at hF
 refine LR0 ?_
 have⟨x,h0,hF⟩:=lS hF
 refine RJ (.b (zhc h0) .z) ?_
 refine LR0 ?_
 refine Nif hF ?_ ?_ <;> intro hb hF
 ·refine LR0 ?_
  cases hF
  exact Wz [] hfin
 ·cases hF

/- tablet.Part$1$1 -/
def zaq (c:Cell)(box box1:B8):Bool:=
 lt ((Op.bytesLess c.Row box)||((!decide (box1=([]:B8)))&&(!Op.bytesLess c.Row box1))) fun v=>
 v
theorem zqd {c box box1 r}(hF:zaq c box box1=r):Pe Tryz.prog 96 ⟨[],[(100000,[.str box]),(100001,[.str box1])],[],[],[]⟩ [.agg (zg9 c),.ptr 100000 0,.ptr 100001 0] (.bool r) ⟨[],[(100000,[.str box]),(100001,[.str box1])],[],[],[]⟩:=by
 refine PT 19 [.tmp 4] [4] Tryz.func96 ?_
 intro Q g hfin
 unfold zaq at hF
 refine LR0 ?_
 refine NRL ((Op.bytesLess c.Row box)||((!decide (box1=([]:B8)))&&(!Op.bytesLess c.Row box1))) (fun v:Bool=>([(4,.bool v)],[],[],[])) [] [4] [100000,100001] [] [] .nil (fun v hv=>?_)
 have hF:=zeg hF hv
 cases hF
 exact Wz [] hfin

end
end G
end Go.Proofs.YticbfakiihfgmaaGreat
