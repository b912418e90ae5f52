/- The program's functions as plain functions, and that they are these. Written by a program (dec2.py). -/
import Derived.Test.YtgcndnddgajekaaGreatDoorGf1
namespace Go.Proofs.YtgcndnddgajekaaGreatDoor
open Go Go.Dm
set_option linter.unusedVariables false
set_option linter.unusedSimpArgs false
set_option maxRecDepth 100000
namespace G
noncomputable section
/- tabularyref.CellAt -/
def zlf (v:Cell×B9×List Int×Int):Option (Cell×Int):=
 zao (0<=(0:Int)/\0<(v.2.1.length:Int)) <|
 zao (0<=(0:Int)/\0<(v.2.1.length:Int)) <|
 zao (0<=(1:Int)/\1<(v.2.1.length:Int)) <|
 zao (0<=(1:Int)/\1<(v.2.1.length:Int)) <|
 zao (0<=(0:Int)/\0<(v.2.2.1.length:Int)) <|
 zao (0<=(0:Int)/\0<(v.2.2.1.length:Int)) <|
 zao (0<=(1:Int)/\1<(v.2.2.1.length:Int)) <|
 zao (0<=(1:Int)/\1<(v.2.2.1.length:Int)) <|
 zao (0<=(2:Int)/\2<(v.2.1.length:Int)) <|
 zao (0<=(2:Int)/\2<(v.2.1.length:Int)) <|
 zao (0<=(1:Int)/\1<(v.2.2.1.length:Int)) <|
 zao (0<=(1:Int)/\1<(v.2.2.1.length:Int)) <|
 lt (zbx (⟨(zad v.2.1 0),(zad v.2.1 1),(zad v.2.2.1 0),decide ((zad v.2.2.1 1)=1),(zad v.2.1 2)⟩:Cell)) fun x=>
 if ((decide (1<(zad v.2.2.1 1)))||(!decide (x=0)))=true then
  some ((⟨([]:B8),([]:B8),0,false,([]:B8)⟩:Cell),0)
 else
  some ((⟨(zad v.2.1 0),(zad v.2.1 1),(zad v.2.2.1 0),decide ((zad v.2.2.1 1)=1),(zad v.2.1 2)⟩:Cell),v.2.2.2)
def ziy (v1:Cell×B9×List Int×Int×Int)(v2:Cell×B9×List Int×Int):Option ((Cell×B9×List Int×Int×Int)⊕(Cell×Int)):=
 some (Sum.inl (v2.1,v2.2.1,v2.2.2.1,v2.2.2.2,w64 (v1.2.2.2.2+1)))
def zhh (b:B8)(v1:Cell×B9×List Int×Int×Int):Option ((Cell×B9×List Int×Int×Int)⊕(Cell×Int)):=
 if (decide (v1.2.2.2.2<5))=true then
  zao (0<=v1.2.2.2.1/\v1.2.2.2.1<=(b.length:Int)) <|
  ob (zhz (zdt b v1.2.2.2.1)) fun x1=>
  if (decide (x1.2=0))=true then
   some (Sum.inr ((⟨([]:B8),([]:B8),0,false,([]:B8)⟩:Cell),0))
  else
   if ((decide (v1.2.2.2.2=2))||(decide (v1.2.2.2.2=3)))=true then
    zao (((v1.2.2.1++([x1.1]:List Int)).length:Int)*8<=140737488351232) <|
    ziy v1 (v1.1,v1.2.1,(v1.2.2.1++([x1.1]:List Int)),w64 (v1.2.2.2.1+x1.2))
   else
    if (decide ((w64 ((b.length:Int) - (w64 (v1.2.2.2.1+x1.2))))<x1.1))=true then
     some (Sum.inr ((⟨([]:B8),([]:B8),0,false,([]:B8)⟩:Cell),0))
    else
     zao (0<=w64 (v1.2.2.2.1+x1.2)/\w64 (v1.2.2.2.1+x1.2)<=w64 ((w64 (v1.2.2.2.1+x1.2))+x1.1)/\w64 ((w64 (v1.2.2.2.1+x1.2))+x1.1)<=(b.length:Int)) <|
     zao (((v1.2.1++([(zdt (zdq b (w64 ((w64 (v1.2.2.2.1+x1.2))+x1.1))) (w64 (v1.2.2.2.1+x1.2)))]:B9)).length:Int)*16<=140737488351232) <|
     lt ((v1.2.1++([(zdt (zdq b (w64 ((w64 (v1.2.2.2.1+x1.2))+x1.1))) (w64 (v1.2.2.2.1+x1.2)))]:B9))) fun v3=>
     ziy v1 (v1.1,v3,v1.2.2.1,w64 ((w64 (v1.2.2.2.1+x1.2))+x1.1))
 else
  zey (zlf (v1.1,v1.2.1,v1.2.2.1,v1.2.2.2.1))
def R_CellAt_L1 (b:B8)(v0:Cell×B9×List Int×Int×Int):Option (Cell×Int):=
 zb7 (fun y=>zhh b y) v0
def R_CellAt (b:B8):Option (Cell×Int):=
 R_CellAt_L1 b ((⟨([]:B8),([]:B8),0,false,([]:B8)⟩:Cell),([]:B9),([]:List Int),0,0)
theorem R_CellAt_ok {b r}(hF:R_CellAt b=some r):Pe Tryz.prog 104 S.none [.sl 1 (b.map za8)] (.tup [.agg (zfa r.1),.i r.2]) S.none:=by
 refine PT 87 [.cell 2 75,.tmp 3] [75,3] Tryz.func104 ?_;intro Q g hfin;unfold R_CellAt at hF;refine LR0 ?_;refine LR0 ?_;refine LR0 ?_;refine LR0 ?_;refine VR [] [0,2,4,5,6,7] [2] [] [] [(0,.sl 1 (b.map za8)),(2,.ptr 2 0),(4,.nils),(5,.nils),(6,.i 0),(7,.i 0)] [(2,[.str [],.str [],.i 0,.bool false,.str []])] [] [] .nil ?_;refine NmQ (fun v=>zlf v=some r) (fun v=>⟨[(2,.ptr 2 0),(4,.row 54 0),(5,.row 37 0),(6,.i v.2.2.2)],[(2,(zfa v.1))],[(37,.z 3 1 0 (v.2.2.1.map zit)),(54,.z 9 1 0 (v.2.1.map zet))],[],[]⟩) ?_ ?_
 ·refine zdb ?_;unfold R_CellAt_L1 at hF;refine zas 4 60000 9 1 rfl rfl rfl ?_;refine zas 5 60001 3 1 rfl rfl rfl ?_;refine zd9 (fs:=[0,2,4,5,6,7]) (bs:=[2]) (rs:=[60000,60001]) (ms:=[]) (aa:=[]) (nv:=[]) rfl ?_;refine za9 ⟨[],[(60000,54),(60001,37)],[],[]⟩ rfl ?_;refine Nitr hF [] (fun v1=>⟨[(0,.sl 1 (b.map za8)),(2,.ptr 2 0),(4,.row 54 0),(5,.row 37 0),(6,.i v1.2.2.2.1),(7,.i v1.2.2.2.2)],[(2,(zfa v1.1))],[(37,.z 3 1 0 (v1.2.2.1.map zit)),(54,.z 9 1 0 (v1.2.1.map zet))],[],[]⟩) ?_;intro n1 v1 y1 hF ih1 dn1;unfold zhh at hF;refine LR0 ?_;refine Nif hF ?_ ?_ <;> intro hb hF
  ·refine NmS (fun v2=>ziy v1 v2=some y1) (fun Z v2=>Z.up [0,2,4,5,6,7] [2] [37,54] [] [(6,.i v2.2.2.2)] [(2,(zfa v2.1))] [(37,.z 3 1 0 (v2.2.2.1.map zit)),(54,.z 9 1 0 (v2.2.1.map zet))] []) ?_ ?_
   ·refine zdb ?_;have⟨h13,hF⟩:=aE hF;have⟨x1,h14,hF⟩:=oE hF;refine RJ (.s10 za8 h13 (.b (zkh h14) .z)) ?_;refine LR0 ?_;refine Nif hF ?_ ?_ <;> intro hb hF
    ·refine LR0 ?_;have hF:=zde hF dn1;cases hF;exact Wz [] hfin
    ·refine LR0 ?_;refine LR0 ?_;refine Nif hF ?_ ?_ <;> intro hb hF
     ·have⟨h15,hF⟩:=aE hF;refine RJ (.a (.sealed) (.p zit h15 .z)) ?_;refine zcp rfl ?_;exact zfr (v1.1,v1.2.1,(v1.2.2.1++([x1.1]:List Int)),w64 (v1.2.2.2.1+x1.2)) [(37,⟨0,true,true,false⟩)] hF
     ·refine RJ (.l za8 b .z) ?_;refine Nif hF ?_ ?_ <;> intro hb hF
      ·refine LR0 ?_;have hF:=zde hF dn1;cases hF;exact Wz [] hfin
      ·have⟨h16,hF⟩:=aE hF;have⟨h17,hF⟩:=aE hF;have⟨v3,hv,hF⟩:=lS hF;refine RJ (.s11 za8 h16 (.a (.str (zdt (zdq b (w64 ((w64 (v1.2.2.2.1+x1.2))+x1.1))) (w64 (v1.2.2.2.1+x1.2)))) (.g (u8s_ok (zdt (zdq b (w64 ((w64 (v1.2.2.2.1+x1.2))+x1.1))) (w64 (v1.2.2.2.1+x1.2)))) (.a (.sealed) (.pN zet hv h17 .z))))) ?_;refine LR0 ?_;exact zfr (v1.1,v3,v1.2.2.1,w64 ((w64 (v1.2.2.2.1+x1.2))+x1.1)) [(54,⟨0,true,true,false⟩)] hF
   ·intro v2 hF;unfold ziy at hF;refine LR0 ?_;exact zg1 [] hF ih1
  ·refine zcp rfl ?_;have hF:=zak hF dn1;exact zfr (v1.1,v1.2.1,v1.2.2.1,v1.2.2.2.1) [] hF
 ·intro v hF;unfold zlf at hF;have⟨h0,h1,h2,h3,hF⟩:=zj1 hF;have⟨h4,h5,h6,h7,hF⟩:=zj1 hF;have⟨h8,h9,hF⟩:=zhi hF;refine DJ (.x zet h0 (.r zet h1 (.x zet h2 (.r zet h3 (.x zit h4 (.r zit h5 (.x zit h6 (.r zit h7 (.x zet h8 (.r zet h9 .z)))))))))) ?_;have⟨h10,h11,hF⟩:=zhi hF;have⟨x,h12,hF⟩:=lS hF;refine RJ (.x zit h10 (.r zit h11 (.a (.callB (.i x)) (.g (fun (ga0:(!(decide (1<(zad v.2.2.1 1))))=true)=>(R_CellCode_ok h12)) .z)))) ?_;refine Nif hF ?_ ?_ <;> intro hb hF
  ·refine LR0 ?_;cases hF;exact Wz [] hfin
  ·refine LR0 ?_;cases hF;exact Wz [] hfin

/- tabularyref.Ahead -/
def zbo (a0 b:Cell):Bool:=
 if (!decide (a0.Row=b.Row))=true then
  Op.bytesLess a0.Row b.Row
 else
  if (!decide (a0.Col=b.Col))=true then
   Op.bytesLess a0.Col b.Col
  else
   decide (b.Time<a0.Time)
theorem R_Ahead_ok {a0 b r}(hF:zbo a0 b=r):Pe Tryz.prog 106 S.none [.agg (zfa a0),.agg (zfa b)] (.bool r) S.none:=by
 refine PT 30 [.tmp 4] [4] Tryz.func106 ?_;intro Q g hfin;unfold zbo at hF;refine LR0 ?_;refine LR0 ?_;refine Nif hF ?_ ?_ <;> intro hb hF
 ·refine LR0 ?_;cases hF;exact Wz [] hfin
 ·refine LR0 ?_;refine Nif hF ?_ ?_ <;> intro hb hF
  ·refine LR0 ?_;cases hF;exact Wz [] hfin
  ·refine LR0 ?_;cases hF;exact Wz [] hfin

/- tabularyref.CellsFault -/
def zk3 (v:Fault):Option Fault:=
 some (⟨0,0⟩:Fault)
def zeg (l:Cs)(v1:Fault×Int):Option ((Fault×Int)⊕Fault):=
 if (decide (v1.2<(l.length:Int)))=true then
  zao (0<=v1.2/\v1.2<(l.length:Int)) <|
  lt (zbx (⟨(zad l v1.2).Row,(zad l v1.2).Col,(zad l v1.2).Time,(zad l v1.2).Gone,(zad l v1.2).Value⟩:Cell)) fun x1=>
  if (!decide (x1=0))=true then
   lt (R_F x1 v1.2) fun x2=>
   some (Sum.inr x2)
  else
   zao ((decide (0<v1.2))=true->0<=w64 (v1.2 - 1)/\w64 (v1.2 - 1)<(l.length:Int)) <|
   zao ((decide (0<v1.2))=true->0<=v1.2/\v1.2<(l.length:Int)) <|
   lt (zbo (⟨(zad l (w64 (v1.2 - 1))).Row,(zad l (w64 (v1.2 - 1))).Col,(zad l (w64 (v1.2 - 1))).Time,(zad l (w64 (v1.2 - 1))).Gone,(zad l (w64 (v1.2 - 1))).Value⟩:Cell) (⟨(zad l v1.2).Row,(zad l v1.2).Col,(zad l v1.2).Time,(zad l v1.2).Gone,(zad l v1.2).Value⟩:Cell)) fun x3=>
   if ((decide (0<v1.2))&&(!x3))=true then
    lt (R_F 10 v1.2) fun x4=>
    some (Sum.inr x4)
   else
    some (Sum.inl (v1.1,w64 (v1.2+1)))
 else
  zey (zk3 v1.1)
def zle (l:Cs)(v0:Fault×Int):Option Fault:=
 zb7 (fun y=>zeg l y) v0
def zga (l:Cs):Option Fault:=
 if (decide (1000<(l.length:Int)))=true then
  lt (R_F 2 0) fun x=>
  some x
 else
  zle l ((⟨0,0⟩:Fault),0)
theorem zlb {l r}(hF:zga l=some r):Pe Tryz.prog 67 S.none [.sl 5 (l.map zab)] (.agg (zag r)) S.none:=by
 refine PT 43 [.cell 2 32] [32] Tryz.func67 ?_;intro Q g hfin;unfold zga at hF;refine LR0 ?_;refine RJ (.l zab l .z) ?_;refine Nif hF ?_ ?_ <;> intro hb hF
 ·have⟨x,h0,hF⟩:=lS hF;refine RJ (.b (zen h0) .z) ?_;cases hF;exact Wz [] hfin
 ·refine LR0 ?_;refine NmS (fun v=>zk3 v=some r) (fun Z v=>Z.up [2] [2] [] [] [] [(2,(zag v))] [] []) ?_ ?_
  ·refine zdb ?_;unfold zle at hF;refine znj hF [] (fun Z v1=>Z.up [0,2,3] [2] [] [] [(3,.i v1.2)] [(2,(zag v1.1))] [] []) ?_;intro n1 v1 y1 hF ih1 dn1;unfold zeg at hF;refine RJ (.l zab l .z) ?_;refine Nif hF ?_ ?_ <;> intro hb hF
   ·refine zdb ?_;have⟨h1,hF⟩:=aE hF;have⟨x1,h2,hF⟩:=lS hF;refine RJ (.i zab h1 (.b (R_CellCode_ok h2) .z)) ?_;refine LR0 ?_;refine Nif hF ?_ ?_ <;> intro hb hF
    ·have⟨x2,h3,hF⟩:=lS hF;refine RJ (.b (zen h3) .z) ?_;have hF:=zde hF dn1;cases hF;exact Wz [] hfin
    ·have⟨h4,hF⟩:=aE hF;have⟨h5,hF⟩:=aE hF;have⟨x3,h6,hF⟩:=lS hF;refine DJ (.a (.av (zab (zad l (w64 (v1.2 - 1))))) (.g (fun (ga0:(decide (0<v1.2))=true)=>(ze5 zab (h4 ga0))) (.a (.av (zab (zad l v1.2))) (.g (fun (ga0:(decide (0<v1.2))=true)=>(ze5 zab (h5 ga0))) (.a (.callB (.bool x3)) (.g (fun (ga0:(decide (0<v1.2))=true)=>(R_Ahead_ok h6)) .z)))))) ?_;refine Nif hF ?_ ?_ <;> intro hb hF
     ·have⟨x4,h7,hF⟩:=lS hF;refine RJ (.b (zen h7) .z) ?_;have hF:=zde hF dn1;cases hF;exact Wz [] hfin
     ·refine LR0 ?_;exact zg1 [] hF ih1
   ·refine zcp rfl ?_;have hF:=zak hF dn1;exact zfr v1.1 [] hF
  ·intro v hF;unfold zk3 at hF;refine LR0 ?_;cases hF;exact Wz [] hfin

/- tabularyref.CellsOf -/
def zji (v:Fault×Cs):Option (Cs×Fault):=
 ob (zga v.2) fun x1=>
 if (!decide (x1.Code=0))=true then
  some (([]:Cs),x1)
 else
  some (v.2,(⟨0,0⟩:Fault))
def zjn (v1:B8×Fault×Cs):Option ((B8×Fault×Cs)⊕(Cs×Fault)):=
 if (decide (0<(v1.1.length:Int)))=true then
  ob (R_CellAt v1.1) fun x2=>
  if (decide (x2.2=0))=true then
   lt (R_F 5 (v1.2.2.length:Int)) fun x3=>
   some (Sum.inr (([]:Cs),x3))
  else
   zao (((v1.2.2++[x2.1]).length:Int)*64<=140737488351232) <|
   zao (0<=x2.2/\x2.2<=(v1.1.length:Int)) <|
   some (Sum.inl ((zdt v1.1 x2.2),v1.2.1,(v1.2.2++[x2.1])))
 else
  zey (zji (v1.2.1,v1.2.2))
def R_CellsOf_L1 (v0:B8×Fault×Cs):Option (Cs×Fault):=
 zb7 (fun y=>zjn y) v0
def zni (b:B8):Option (Cs×Fault):=
 if (decide (60000<(b.length:Int)))=true then
  lt (R_F 8 0) fun x=>
  some (([]:Cs),x)
 else
  R_CellsOf_L1 (b,(⟨0,0⟩:Fault),([]:Cs))
theorem R_CellsOf_ok {b r}(hF:zni b=some r):Pe Tryz.prog 66 (.w []) [.sl 1 (b.map za8)] (.tup [.row 28 0,.agg (zag r.2)]) ⟨[],[],[(28,.z 75 5 0 (r.1.map zab))],[],[]⟩:=by
 refine PT 40 [.tmp 2,.cell 3 32] [68,32] Tryz.func66 ?_;intro Q g hfin;unfold zni at hF;refine LR0 ?_;refine RJ (.l za8 b .z) ?_;refine Nif hF ?_ ?_ <;> intro hb hF
 ·have⟨x,h0,hF⟩:=lS hF;refine VR [.callB (.agg (zag x))] [2,3] [3] [] [] [(2,.nils),(3,.ptr 3 0)] [(3,(zag x))] [] [] (hc (zen h0) .nil) ?_;cases hF;refine zas 2 60000 75 5 rfl rfl rfl ?_;refine za9 ⟨[],[(60000,28)],[],[]⟩ rfl ?_;exact Wz [] hfin
 ·refine VR [] [0,3,4] [3] [] [] [(0,.sl 1 (b.map za8)),(3,.ptr 3 0),(4,.nils)] [(3,[.i 0,.i 0])] [] [] .nil ?_;refine NmQ (fun v=>zji v=some r) (fun v=>⟨[(3,.ptr 3 0),(4,.row 28 0)],[(3,(zag v.1))],[(28,.z 75 5 0 (v.2.map zab))],[],[]⟩) ?_ ?_
  ·refine zdb ?_;unfold R_CellsOf_L1 at hF;refine zas 4 60002 75 5 rfl rfl rfl ?_;refine zd9 (fs:=[0,3,4]) (bs:=[3]) (rs:=[60002]) (ms:=[]) (aa:=[]) (nv:=[]) rfl ?_;refine za9 ⟨[],[(60002,28)],[],[]⟩ rfl ?_;refine Nitr hF [] (fun v1=>⟨[(0,.sl 1 (v1.1.map za8)),(3,.ptr 3 0),(4,.row 28 0)],[(3,(zag v1.2.1))],[(28,.z 75 5 0 (v1.2.2.map zab))],[],[]⟩) ?_;intro n1 v1 y1 hF ih1 dn1;unfold zjn at hF;refine RJ (.l za8 v1.1 .z) ?_;refine Nif hF ?_ ?_ <;> intro hb hF
   ·refine zdb ?_;have⟨x2,h2,hF⟩:=oE hF;refine RJ (.b (R_CellAt_ok h2) .z) ?_;refine LR0 ?_;refine Nif hF ?_ ?_ <;> intro hb hF
    ·have⟨x3,h3,hF⟩:=lS hF;refine VR [.nat (v1.2.2.length:Int),.callB (.agg (zag x3))] [2,3] [3] [] [] [(2,.nils),(3,.ptr 3 0)] [(3,(zag x3))] [] [] (hc (zfb zab v1.2.2) (hc (zen h3) .nil)) ?_;have hF:=zde hF dn1;cases hF;refine zas 2 60003 75 5 rfl rfl rfl ?_;refine za9 ⟨[],[(60003,28)],[],[]⟩ rfl ?_;exact Wz [] hfin
    ·have⟨h4,hF⟩:=aE hF;refine RJ (.a (.sealed) (.p zab h4 .z)) ?_;have⟨h5,hF⟩:=aE hF;refine RJ (.s10 za8 h5 .z) ?_;exact zg1 [(28,⟨0,true,true,false⟩)] hF ih1
   ·refine zcp rfl ?_;have hF:=zak hF dn1;exact zfr (v1.2.1,v1.2.2) [] hF
  ·intro v hF;unfold zji at hF;have⟨x1,h1,hF⟩:=oE hF;refine RJ (.b (zlb h1) .z) ?_;refine LR0 ?_;refine Nif hF ?_ ?_ <;> intro hb hF
   ·refine VD [] [2,3] [3] [] [] [(2,.nils),(3,.ptr 3 0)] [(3,(zag x1))] [] [] .nil ?_;cases hF;refine zas 2 60001 75 5 rfl rfl rfl ?_;refine za9 ⟨[],[(60001,28)],[],[]⟩ rfl ?_;exact Wz [] hfin
   ·refine LR0 ?_;cases hF;exact Wz [] hfin

/- tabularyref.NoteFault -/
def zlh (num:Note):Option Fault:=
 if ((decide (num.Seq<1))||(decide (1000000000<num.Seq)))=true then
  lt (R_F 3 (-1)) fun x=>
  some x
 else
  if ((decide ((num.Cells.length:Int)=0))||(decide (20<(num.Cells.length:Int))))=true then
   lt (R_F 2 (-1)) fun x1=>
   some x1
  else
   ob (zga num.Cells) fun x2=>
   some x2
theorem R_NoteFault_ok {num r}(hF:zlh num=some r):Pe Tryz.prog 102 S.none [.agg (c_Note num)] (.agg (zag r)) S.none:=by
 refine PT 26 [.cell 2 32] [32] Tryz.func102 ?_;intro Q g hfin;unfold zlh at hF;refine LR0 ?_;refine LR0 ?_;refine Nif hF ?_ ?_ <;> intro hb hF
 ·have⟨x,h0,hF⟩:=lS hF;refine RJ (.b (zen h0) .z) ?_;cases hF;exact Wz [] hfin
 ·refine RJ (.l zab num.Cells (.a (.nat (num.Cells.length:Int)) (.g (fun (_:(!(decide ((num.Cells.length:Int)=0)))=true)=>(zfb zab num.Cells)) .z))) ?_;refine Nif hF ?_ ?_ <;> intro hb hF
  ·have⟨x1,h1,hF⟩:=lS hF;refine RJ (.b (zen h1) .z) ?_;cases hF;exact Wz [] hfin
  ·have⟨x2,h2,hF⟩:=oE hF;refine RJ (.b (zlb h2) .z) ?_;cases hF;exact Wz [] hfin

/- tabularyref.NoteOf -/
def R_NoteOf (b:B8):Option (Int×Cs×Fault):=
 if (decide (60000<(b.length:Int)))=true then
  lt (R_F 8 0) fun x=>
  some (0,([]:Cs),x)
 else
  ob (zhz b) fun x1=>
  if (decide (x1.2=0))=true then
   lt (R_F 5 (-1)) fun x2=>
   some (0,([]:Cs),x2)
  else
   zao (0<=x1.2/\x1.2<=(b.length:Int)) <|
   ob (zni (zdt b x1.2)) fun x3=>
   if (!decide (x3.2.Code=0))=true then
    some (0,([]:Cs),x3.2)
   else
    ob (zlh (⟨x1.1,x3.1⟩:Note)) fun x4=>
    if (!decide (x4.Code=0))=true then
     some (0,([]:Cs),x4)
    else
     some (x1.1,x3.1,(⟨0,0⟩:Fault))
theorem R_NoteOf_ok {b r}(hF:R_NoteOf b=some r):Pe Tryz.prog 64 (.w []) [.sl 1 (b.map za8)] (.tup [.agg [.i r.1,.row 27 0],.agg (zag r.2.2)]) ⟨[],[],[(27,.z 75 5 0 (r.2.1.map zab))],[],[]⟩:=by
 refine PT 47 [.cell 2 106,.cell 3 32] [106,32] Tryz.func64 ?_;intro Q g hfin;unfold R_NoteOf at hF;refine LR0 ?_;refine RJ (.l za8 b .z) ?_;refine Nif hF ?_ ?_ <;> intro hb hF
 ·have⟨x,h0,hF⟩:=lS hF;refine VR [.callB (.agg (zag x))] [2,3] [2,3] [] [] [(2,.ptr 2 0),(3,.ptr 3 0)] [(2,[.i 0,.nils]),(3,(zag x))] [] [] (hc (zen h0) .nil) ?_;cases hF;refine zb0 2 1 60000 75 5 rfl rfl rfl rfl rfl ?_;refine za9 ⟨[],[(60000,27)],[],[]⟩ rfl ?_;exact Wz [] hfin
 ·have⟨x1,h1,hF⟩:=oE hF;refine RJ (.b (zkh h1) .z) ?_;refine LR0 ?_;refine Nif hF ?_ ?_ <;> intro hb hF
  ·have⟨x2,h2,hF⟩:=lS hF;refine VR [.callB (.agg (zag x2))] [2,3] [2,3] [] [] [(2,.ptr 2 0),(3,.ptr 3 0)] [(2,[.i 0,.nils]),(3,(zag x2))] [] [] (hc (zen h2) .nil) ?_;cases hF;refine zb0 2 1 60001 75 5 rfl rfl rfl rfl rfl ?_;refine za9 ⟨[],[(60001,27)],[],[]⟩ rfl ?_;exact Wz [] hfin
  ·have⟨h3,hF⟩:=aE hF;have⟨x3,h4,hF⟩:=oE hF;have p5:=(Pe.ren (R_CellsOf_ok h4) ⟨[],[(28,27)],[],[]⟩);refine RJ (.s10 za8 h3 (.e [] [] p5 .z)) ?_;refine LR0 ?_;refine Nif hF ?_ ?_ <;> intro hb hF
   ·refine VD [] [2,3] [2,3] [] [] [(2,.ptr 2 0),(3,.ptr 3 0)] [(2,[.i 0,.nils]),(3,(zag x3.2))] [] [] .nil ?_;cases hF;refine zb0 2 1 60002 75 5 rfl rfl rfl rfl rfl ?_;refine za9 ⟨[],[(60002,27)],[],[]⟩ rfl ?_;exact Wz [] hfin
   ·refine LR0 ?_;have⟨x4,h6,hF⟩:=oE hF;refine RJ (.b (R_NoteFault_ok h6) .z) ?_;refine LR0 ?_;refine Nif hF ?_ ?_ <;> intro hb hF
    ·refine VD [] [2,3] [2,3] [] [] [(2,.ptr 2 0),(3,.ptr 3 0)] [(2,[.i 0,.nils]),(3,(zag x4))] [] [] .nil ?_;cases hF;refine zb0 2 1 60003 75 5 rfl rfl rfl rfl rfl ?_;refine za9 ⟨[],[(60003,27)],[],[]⟩ rfl ?_;exact Wz [] hfin
    ·refine LR0 ?_;cases hF;exact Wz [] hfin

/- tabularyref.Logged -/
def zo0 (v:List Note×Int):Option (List Note×Int):=
 some (v.1,v.2)
def zi8 (x:B9×Int)(v1:List Note×Int×Int):Option ((List Note×Int×Int)⊕(List Note×Int)):=
 if (decide (v1.2.2<(x.1.length:Int)))=true then
  zao (0<=v1.2.2/\v1.2.2<(x.1.length:Int)) <|
  zao (0<=v1.2.2/\v1.2.2<(x.1.length:Int)) <|
  ob (R_NoteOf (zad x.1 v1.2.2)) fun x1=>
  zao ((decide (0<v1.2.2))=true->(!(!decide (x1.2.2.Code=0)))=true->0<=w64 (v1.2.2 - 1)/\w64 (v1.2.2 - 1)<(v1.1.length:Int)) <|
  zao ((decide (0<v1.2.2))=true->(!(!decide (x1.2.2.Code=0)))=true->0<=w64 (v1.2.2 - 1)/\w64 (v1.2.2 - 1)<(v1.1.length:Int)) <|
  if ((!decide (x1.2.2.Code=0))||((decide (0<v1.2.2))&&(!decide ((w64 (x1.1 - 1))=((zad v1.1 (w64 (v1.2.2 - 1))).Seq)))))=true then
   zey (zo0 (v1.1,v1.2.1))
  else
   zao (((v1.1++[(⟨x1.1,x1.2.1⟩:Note)]).length:Int)*32<=140737488351232) <|
   zao (0<=v1.2.2/\v1.2.2<(x.1.length:Int)) <|
   zao (0<=v1.2.2/\v1.2.2<(x.1.length:Int)) <|
   some (Sum.inl ((v1.1++[(⟨x1.1,x1.2.1⟩:Note)]),w64 ((w64 (v1.2.1+6))+((zad x.1 v1.2.2).length:Int)),w64 (v1.2.2+1)))
 else
  zey (zo0 (v1.1,v1.2.1))
def R_Logged_L1 (x:B9×Int)(v0:List Note×Int×Int):Option (List Note×Int):=
 zb7 (fun y=>zi8 x y) v0
def R_Logged (b:B8):Option (List Note×Int):=
 ob (zkz b) fun x=>
 R_Logged_L1 x (([]:List Note),0,0)
theorem R_Logged_ok {b r}(hF:R_Logged b=some r):Pe Tryz.prog 38 (.w []) [.sl 1 (b.map za8)] (.tup [.row 52 0,.i r.2]) ⟨[],[],[(52,.z 106 2 0 (r.1.map zar))],[],[]⟩:=by
 refine PT 63 [.tmp 2,.tmp 3] [67,3] Tryz.func38 ?_;intro Q g hfin;unfold R_Logged at hF;refine LR0 ?_;have⟨x,h0,hF⟩:=oE hF;have p1:=(Pe.ren (R_Unframed_ok h0) ⟨[],[(56,13)],[],[]⟩);refine RJ (.e [] [] p1 .z) ?_;refine LR0 ?_;refine LR0 ?_;refine VR [] [4,6,7,8] [] [13] [] [(4,.row 13 0),(6,.nils),(7,.i 0),(8,.i 0)] [] [(13,.z 22 1 0 (x.1.map zal))] [] .nil ?_;refine NmQ (fun v=>zo0 v=some r) (fun v=>⟨[(6,.row 52 0),(7,.i v.2)],[],[(52,.z 106 2 0 (v.1.map zar))],[],[]⟩) ?_ ?_
 ·refine zdb ?_;unfold R_Logged_L1 at hF;refine zas 6 60000 106 2 rfl rfl rfl ?_;refine zd9 (fs:=[4,6,7,8]) (bs:=[]) (rs:=[13,60000]) (ms:=[]) (aa:=[]) (nv:=[]) rfl ?_;refine za9 ⟨[],[(60000,52)],[],[]⟩ rfl ?_;refine Nitr hF [] (fun v1=>⟨[(4,.row 13 0),(6,.row 52 0),(7,.i v1.2.1),(8,.i v1.2.2)],[],[(13,.z 22 1 0 (x.1.map zal)),(52,.z 106 2 0 (v1.1.map zar))],[],[]⟩) ?_;intro n1 v1 y1 hF ih1 dn1;unfold zi8 at hF;refine RJ (.l zal x.1 .z) ?_;refine Nif hF ?_ ?_ <;> intro hb hF
  ·refine zdb ?_;have⟨h2,h3,hF⟩:=zhi hF;have⟨x1,h4,hF⟩:=oE hF;have p5:=(Pe.ren (R_NoteOf_ok h4) ⟨[],[],[],[]⟩);refine RJ (.x zal h2 (.r zal h3 (.e [] [] p5 .z))) ?_;have⟨h6,h7,hF⟩:=zhi hF;refine DJ (.g (fun (ga0:(decide (0<v1.2.2))=true) (ga1:(!(!decide (x1.2.2.Code=0)))=true)=>(zj2 zar (h6 ga0 ga1))) (.a (.av (zar (zad v1.1 (w64 (v1.2.2 - 1))))) (.g (fun (ga0:(decide (0<v1.2.2))=true) (ga1:(!(!decide (x1.2.2.Code=0)))=true)=>(ziv zar (h7 ga0 ga1))) .z))) ?_;refine Nif hF ?_ ?_ <;> intro hb hF
   ·refine zcp rfl ?_;have hF:=zak hF dn1;exact zfr (v1.1,v1.2.1) [] hF
   ·have⟨h8,hF⟩:=aE hF;refine RJ (.a (.sealed) (.p zar h8 .z)) ?_;have⟨h9,h10,hF⟩:=zhi hF;refine RJ (.x zal h9 (.r zal h10 (.l za8 (zad x.1 v1.2.2) .z))) ?_;refine LR0 ?_;exact zg1 [(52,⟨0,true,true,false⟩)] hF ih1
  ·refine zcp rfl ?_;have hF:=zak hF dn1;exact zfr (v1.1,v1.2.1) [] hF
 ·intro v hF;unfold zo0 at hF;refine LR0 ?_;cases hF;exact Wz [] hfin

/- tabularyref.RowsOf -/
def R_RowsOf_J1 (v:B9):Option B9:=
 some v
def zhk (l:Cs)(v1:B9×Int):Option ((B9×Int)⊕B9):=
 if (decide (v1.2<(l.length:Int)))=true then
  zao ((!(decide ((v1.1.length:Int)=0)))=true->0<=w64 ((v1.1.length:Int) - 1)/\w64 ((v1.1.length:Int) - 1)<(v1.1.length:Int)) <|
  zao ((!(decide ((v1.1.length:Int)=0)))=true->0<=w64 ((v1.1.length:Int) - 1)/\w64 ((v1.1.length:Int) - 1)<(v1.1.length:Int)) <|
  zao ((!(decide ((v1.1.length:Int)=0)))=true->0<=v1.2/\v1.2<(l.length:Int)) <|
  ob (
   if ((decide ((v1.1.length:Int)=0))||(!decide ((zad v1.1 (w64 ((v1.1.length:Int) - 1)))=((zad l v1.2).Row))))=true then
    zao (0<=v1.2/\v1.2<(l.length:Int)) <|
    zao (((v1.1++([(zad l v1.2).Row]:B9)).length:Int)*16<=140737488351232) <|
    some (v1.1++([(zad l v1.2).Row]:B9))
   else
    some v1.1) fun v2=>
  some (Sum.inl (v2,w64 (v1.2+1)))
 else
  zey (R_RowsOf_J1 v1.1)
def R_RowsOf_L1 (l:Cs)(v0:B9×Int):Option B9:=
 zb7 (fun y=>zhk l y) v0
def R_RowsOf (l:Cs):Option B9:=
 R_RowsOf_L1 l (([]:B9),0)
theorem R_RowsOf_ok {l r}(hF:R_RowsOf l=some r):Pe Tryz.prog 107 (.w []) [.sl 5 (l.map zab)] (.row 36 0) ⟨[],[],[(36,.z 9 1 0 (r.map zet))],[],[]⟩:=by
 refine PT 38 [.tmp 2] [137] Tryz.func107 ?_;intro Q g hfin;unfold R_RowsOf at hF;refine LR0 ?_;refine LR0 ?_;refine NR [] [0,3,4] [] [] [(0,.sl 5 (l.map zab)),(3,.nils),(4,.i 0)] .nil ?_;refine NmQ (fun v=>R_RowsOf_J1 v=some r) (fun v=>⟨[(3,.row 36 0)],[],[(36,.z 9 1 0 (v.map zet))],[],[]⟩) ?_ ?_
 ·refine zdb ?_;unfold R_RowsOf_L1 at hF;refine zas 3 60000 9 1 rfl rfl rfl ?_;refine zd9 (fs:=[0,3,4]) (bs:=[]) (rs:=[60000]) (ms:=[]) (aa:=[]) (nv:=[]) rfl ?_;refine za9 ⟨[],[(60000,36)],[],[]⟩ rfl ?_;refine Nitr hF [] (fun v1=>⟨[(0,.sl 5 (l.map zab)),(3,.row 36 0),(4,.i v1.2)],[],[(36,.z 9 1 0 (v1.1.map zet))],[],[]⟩) ?_;intro n1 v1 y1 hF ih1 dn1;unfold zhk at hF;refine RJ (.l zab l .z) ?_;refine Nif hF ?_ ?_ <;> intro hb hF
  ·refine zdb ?_;refine RJ (.l zet v1.1 .z) ?_;have⟨h0,h1,hF⟩:=zhi hF;have⟨h2,hF⟩:=aE hF;refine DJ (.g (fun (ga0:(!(decide ((v1.1.length:Int)=0)))=true)=>(zj2 zet (h0 ga0))) (.a (.av (zet (zad v1.1 (w64 ((v1.1.length:Int) - 1))))) (.g (fun (ga0:(!(decide ((v1.1.length:Int)=0)))=true)=>(ziv zet (h1 ga0))) (.a (.av (zab (zad l v1.2))) (.g (fun (ga0:(!(decide ((v1.1.length:Int)=0)))=true)=>(ze5 zab (h2 ga0))) .z))))) ?_;have⟨v2,hv,hF⟩:=oE hF;refine NmT (fun Z=>Z.up [0,3,4] [] [36] [] [] [] [(36,.z 9 1 0 (v2.map zet))] []) ?_ ?_
   ·have hF:=hv;refine Nif hF ?_ ?_ <;> intro hb hF
    ·have⟨h3,hF⟩:=aE hF;have⟨h4,hF⟩:=aE hF;refine RJ (.i zab h3 (.a (.sealed) (.p zet h4 .z))) ?_;cases hF;exact zmf [(36,⟨0,true,true,false⟩)]
    ·cases hF;exact zmf []
   ·refine LR0 ?_;exact zg1 [] hF ih1
  ·refine zcp rfl ?_;have hF:=zak hF dn1;exact zfr v1.1 [] hF
 ·intro v hF;unfold R_RowsOf_J1 at hF;refine LR0 ?_;cases hF;exact Wz [] hfin

/- tabularyref.Bits -/
def R_Bits (row:B8)(num:Int):Option (List Int):=
 zao ((row.length:Int)<=140737488351232) <|
 ob (R_Rest row) fun x=>
 zao ((IntKind.u64.wrap num)≠0) <|
 zao ((IntKind.u64.wrap num)≠0) <|
 zao ((IntKind.u64.wrap num)≠0) <|
 lt (([w64 (Int.tmod (Int.tmod (IntKind.u64.wrap x) 65536) (IntKind.u64.wrap num)),w64 (Int.tmod (IntKind.u64.wrap ((Int.tmod (IntKind.u64.wrap x) 65536)+(IntKind.u64.wrap (Int.tdiv (IntKind.u64.wrap x) 65536)))) (IntKind.u64.wrap num)),w64 (Int.tmod (IntKind.u64.wrap ((Int.tmod (IntKind.u64.wrap x) 65536)+(IntKind.u64.wrap (2*(IntKind.u64.wrap (Int.tdiv (IntKind.u64.wrap x) 65536)))))) (IntKind.u64.wrap num))]:List Int)) fun v=>
 some v
theorem R_Bits_ok {row num r}(hF:R_Bits row num=some r):Pe Tryz.prog 108 S.none [.str row,.i num] (.sl 1 (r.map zit)) S.none:=by
 refine PT 37 [.tmp 4] [44] Tryz.func108 ?_;intro Q g hfin;unfold R_Bits at hF;refine LR0 ?_;have⟨h0,hF⟩:=aE hF;have⟨x,h1,hF⟩:=oE hF;refine RJ (.g (bof_ok h0) (.b (R_Rest_ok h1) .z)) ?_;refine RJ (.g (by decide:(65536:Int)≠0) (.g (by decide:(65536:Int)≠0) .z)) ?_;refine LR0 ?_;have⟨h2,h3,hF⟩:=zhi hF;have⟨h4,hF⟩:=aE hF;refine NDL (([w64 (Int.tmod (Int.tmod (IntKind.u64.wrap x) 65536) (IntKind.u64.wrap num)),w64 (Int.tmod (IntKind.u64.wrap ((Int.tmod (IntKind.u64.wrap x) 65536)+(IntKind.u64.wrap (Int.tdiv (IntKind.u64.wrap x) 65536)))) (IntKind.u64.wrap num)),w64 (Int.tmod (IntKind.u64.wrap ((Int.tmod (IntKind.u64.wrap x) 65536)+(IntKind.u64.wrap (2*(IntKind.u64.wrap (Int.tdiv (IntKind.u64.wrap x) 65536)))))) (IntKind.u64.wrap num))]:List Int)) (fun v:List Int=>([(4,.sl 1 (v.map zit))],[],[],[])) [.sealed] [4] [] [] [] (hc h2 (hc h3 (hc h4 .nil))) (fun v hv=>?_);have hF:=zei hF hv;cases hF;exact Wz [] hfin

/- tabularyref.FilterOf -/
def zop (v2:B8):Option B8:=
 some v2
def zfp (v1:List Bool)(v3:B8×Int):Option ((B8×Int)⊕B8):=
 if (decide (v3.2<(v1.length:Int)))=true then
  zao (0<=v3.2/\v3.2<(v1.length:Int)) <|
  zao (0<=v3.2/\v3.2<(v1.length:Int)) <|
  ob (
   if (zad v1 v3.2)=true then
    zao (0<=w64 (Int.tdiv v3.2 8)/\w64 (Int.tdiv v3.2 8)<(v3.1.length:Int)) <|
    zao (0<=w64 (Int.tdiv v3.2 8)/\w64 (Int.tdiv v3.2 8)<(v3.1.length:Int)) <|
    zao (0<=(Int.tmod v3.2 8)) <|
    zao (0<=w64 (Int.tdiv v3.2 8)/\w64 (Int.tdiv v3.2 8)<(v3.1.length:Int)) <|
    zao (0<=w64 (Int.tdiv v3.2 8)/\w64 (Int.tdiv v3.2 8)<(v3.1.length:Int)) <|
    lt ((zmc v3.1 (w64 (Int.tdiv v3.2 8)) (zfq (((zad v3.1 (w64 (Int.tdiv v3.2 8))).toNat:Int)+((zfq (((1:UInt8).toNat:Int)*2 ^ (min (Int.tmod v3.2 8).toNat 8))).toNat:Int))))) fun v5=>
    some v5
   else
    some v3.1) fun v4=>
  some (Sum.inl (v4,w64 (v3.2+1)))
 else
  zey (zop v3.1)
def zoo (v1:List Bool)(v0:B8×Int):Option B8:=
 zb7 (fun y=>zfp v1 y) v0
def ziq (v:Int)(v1:List Bool):Option B8:=
 zao (0<=(v:Int)/\v<=v/\v*1<=140737488351232) <|
 zoo v1 ((List.replicate v.toNat ((0:UInt8):UInt8)),0)
def zkl (v6:List Bool×Int)(v7:List Bool):Option ((List Bool×Int)⊕B8):=
 some (Sum.inl (v7,w64 (v6.2+1)))
def zd8 (v6:List Bool×Int)(x1:List Int)(v8:List Bool×Int):Option ((List Bool×Int)⊕((List Bool×Int)⊕B8)):=
 if (decide (v8.2<(x1.length:Int)))=true then
  zao (0<=v8.2/\v8.2<(x1.length:Int)) <|
  zao (0<=(zad x1 v8.2)/\(zad x1 v8.2)<(v8.1.length:Int)) <|
  zao (0<=(zad x1 v8.2)/\(zad x1 v8.2)<(v8.1.length:Int)) <|
  some (Sum.inl ((zmc v8.1 (zad x1 v8.2) true),w64 (v8.2+1)))
 else
  zey (zkl v6 v8.1)
def zoy (v6:List Bool×Int)(x1:List Int)(v0:List Bool×Int):Option ((List Bool×Int)⊕B8):=
 zb7 (fun y=>zd8 v6 x1 y) v0
def zfg (x:B9)(v:Int)(v6:List Bool×Int):Option ((List Bool×Int)⊕B8):=
 if (decide (v6.2<(x.length:Int)))=true then
  zao (0<=v6.2/\v6.2<(x.length:Int)) <|
  zao (0<=v6.2/\v6.2<(x.length:Int)) <|
  ob (R_Bits (zad x v6.2) (w64 (8*v))) fun x1=>
  zoy v6 x1 (v6.1,0)
 else
  zey (ziq v v6.1)
def znv (x:B9)(v:Int)(v0:List Bool×Int):Option B8:=
 zb7 (fun y=>zfg x v y) v0
def zkv (l:Cs):Option B8:=
 ob (R_RowsOf l) fun x=>
 ob (
  if (decide ((x.length:Int)=0))=true then
   some 1
  else
   some (x.length:Int)) fun (v:Int)=>
 zao (0<=(w64 (8*v):Int)/\w64 (8*v)<=w64 (8*v)/\(w64 (8*v))*1<=140737488351232) <|
 znv x v ((List.replicate (w64 (8*v)).toNat (false:Bool)),0)
theorem R_FilterOf_ok {l r}(hF:zkv l=some r):Pe Tryz.prog 68 (.w []) [.sl 5 (l.map zab)] (.row 46 0) ⟨[],[],[(46,.o 5 1 0 (r.map za8))],[],[]⟩:=by
 refine PT 71 [.tmp 2] [22] Tryz.func68 ?_;intro Q g hfin;unfold zkv at hF;refine LR0 ?_;have⟨x,h0,hF⟩:=oE hF;have p1:=(Pe.ren (R_RowsOf_ok h0) ⟨[],[(36,12)],[],[]⟩);refine RJ (.e [] [] p1 .z) ?_;refine RJ (.l zet x .z) ?_;refine LR0 ?_;have⟨v,hv,hF⟩:=oE hF;refine NmT (fun Z=>Z.up [3,4] [] [12] [] [(4,.i v)] [] [] []) ?_ ?_
 ·have hF:=hv;refine Nif hF ?_ ?_ <;> intro hb hF
  ·refine LR0 ?_;cases hF;exact zmf []
  ·cases hF;exact zmf []
 ·have⟨h2,hF⟩:=aE hF;refine RJ (.a (.xs ((List.replicate (w64 (8*v)).toNat (false:Bool)).map zj3)) (.g (mk_ok h2) (.g (rep_ok zj3 (w64 (8*v)) (false:Bool)) .z))) ?_;refine LR0 ?_;refine NmS (fun v1=>ziq v v1=some r) (fun Z v1=>Z.up [4,5] [] [19] [] [] [] [(19,.o 4 1 0 (v1.map zj3))] []) ?_ ?_
  ·refine zdb ?_;unfold znv at hF;refine znj hF [] (fun Z v6=>Z.up [3,4,5,6] [] [12,19] [] [(6,.i v6.2)] [] [(19,.o 4 1 0 (v6.1.map zj3))] []) ?_;intro n1 v6 y1 hF ih1 dn1;unfold zfg at hF;refine RJ (.l zet x .z) ?_;refine Nif hF ?_ ?_ <;> intro hb hF
   ·refine zdb ?_;have⟨h11,h12,hF⟩:=zhi hF;have⟨x1,h13,hF⟩:=oE hF;refine RJ (.x zet h11 (.r zet h12 (.c (R_Bits_ok h13) .z))) ?_;refine LR0 ?_;refine NmS (fun v7=>zkl v6 v7=some y1) (fun Z v7=>Z.up [3,4,5,6] [] [12,19] [] [] [] [(19,.o 4 1 0 (v7.map zj3))] []) ?_ ?_
    ·refine zdb ?_;unfold zoy at hF;refine znj hF [] (fun Z v8=>Z.up [3,4,5,6,7,8] [] [12,19] [] [(8,.i v8.2)] [] [(19,.o 4 1 0 (v8.1.map zj3))] []) ?_;intro n2 v8 y2 hF ih2 dn2;unfold zd8 at hF;refine RJ (.l zit x1 .z) ?_;refine Nif hF ?_ ?_ <;> intro hb hF
     ·refine zdb ?_;have⟨h14,h15,hF⟩:=zhi hF;have⟨h16,hF⟩:=aE hF;refine RJ (.i zit h14 (.x zj3 h15 (.w zj3 h16 true .z))) ?_;refine LR0 ?_;exact zg1 [] hF ih2
     ·refine zcp rfl ?_;have hF:=zak hF dn2;exact zfr v8.1 [] hF
    ·intro v7 hF;unfold zkl at hF;refine LR0 ?_;exact zg1 [] hF ih1
   ·refine zcp rfl ?_;have hF:=zak hF dn1;exact zfr v6.1 [] hF
  ·intro v1 hF;unfold ziq at hF;have⟨h3,hF⟩:=aE hF;refine RJ (.a (.xs ((List.replicate v.toNat ((0:UInt8):UInt8)).map za8)) (.g (mk_ok h3) (.g (rep_ok za8 v ((0:UInt8):UInt8)) .z))) ?_;refine LR0 ?_;refine NmS (fun v2=>zop v2=some r) (fun Z v2=>Z.up [9] [] [46] [] [] [] [(46,.o 5 1 0 (v2.map za8))] []) ?_ ?_
   ·refine zdb ?_;unfold zoo at hF;refine znj hF [] (fun Z v3=>Z.up [5,9,10] [] [19,46] [] [(10,.i v3.2)] [] [(46,.o 5 1 0 (v3.1.map za8))] []) ?_;intro n1 v3 y1 hF ih1 dn1;unfold zfp at hF;refine RJ (.l zj3 v1 .z) ?_;refine Nif hF ?_ ?_ <;> intro hb hF
    ·refine zdb ?_;have⟨h4,h5,hF⟩:=zhi hF;refine RJ (.x zj3 h4 (.r zj3 h5 .z)) ?_;have⟨v4,hv,hF⟩:=oE hF;refine NmT (fun Z=>Z.up [5,9,10] [] [19,46] [] [] [] [(46,.o 5 1 0 (v4.map za8))] []) ?_ ?_
     ·have hF:=hv;refine Nif hF ?_ ?_ <;> intro hb hF
      ·have⟨h6,hF⟩:=aE hF;have⟨h7,h8,h9,h10,hF⟩:=zj1 hF;have⟨v5,hv,hF⟩:=lS hF;refine DJ (.g (by decide:(8:Int)≠0) (.g (by decide:(8:Int)≠0) (.x za8 h6 (.r za8 h7 (.g (by decide:(8:Int)≠0) (.g h8 (.x za8 h9 (.wN za8 h10 hv .z)))))))) ?_;cases hF;exact zmf []
      ·cases hF;exact zmf []
     ·refine LR0 ?_;exact zg1 [] hF ih1
    ·refine zcp rfl ?_;have hF:=zak hF dn1;exact zfr v3.1 [] hF
   ·intro v2 hF;unfold zop at hF;refine LR0 ?_;cases hF;exact Wz [] hfin

/- tabularyref.OpenedFile -/
def zef (x1:B9×Int)(v1:Fault×Cs×List Int):Option (Cs×List Int×Fault):=
 ob (zga v1.2.1) fun x4=>
 if ((!decide (x4.Code=0))||(decide (500<(v1.2.1.length:Int))))=true then
  lt (R_F 5 2) fun x5=>
  some (([]:Cs),([]:List Int),x5)
 else
  ob (zkv v1.2.1) fun x6=>
  zao (0<=w64 ((w64 ((x1.1.length:Int) - 2))+1)/\w64 ((w64 ((x1.1.length:Int) - 2))+1)<(x1.1.length:Int)) <|
  zao (0<=w64 ((w64 ((x1.1.length:Int) - 2))+1)/\w64 ((w64 ((x1.1.length:Int) - 2))+1)<(x1.1.length:Int)) <|
  lt (zju x6 (zad x1.1 (w64 ((w64 ((x1.1.length:Int) - 2))+1)))) fun x7=>
  if (!x7)=true then
   lt (R_F 5 3) fun x8=>
   some (([]:Cs),([]:List Int),x8)
  else
   some (v1.2.1,v1.2.2,(⟨0,0⟩:Fault))
def ze1 (x1:B9×Int)(v:Fault×B8×B9)(v2:Fault×Cs×List Int×Int):Option ((Fault×Cs×List Int×Int)⊕(Cs×List Int×Fault)):=
 if (decide (v2.2.2.2<(w64 ((x1.1.length:Int) - 2))))=true then
  zao (0<=v2.2.2.2/\v2.2.2.2<(x1.1.length:Int)) <|
  zao (0<=v2.2.2.2/\v2.2.2.2<(x1.1.length:Int)) <|
  ob (zni (zad x1.1 v2.2.2.2)) fun x9=>
  zao ((!((!decide (x9.2.Code=0))||(decide ((x9.1.length:Int)=0))))=true->0<=(0:Int)/\0<(x9.1.length:Int)) <|
  zao ((!((!decide (x9.2.Code=0))||(decide ((x9.1.length:Int)=0))))=true->0<=(0:Int)/\0<(x9.1.length:Int)) <|
  zao ((!((!decide (x9.2.Code=0))||(decide ((x9.1.length:Int)=0))))=true->0<=v2.2.2.2/\v2.2.2.2<(v.2.2.length:Int)) <|
  zao ((!((!decide (x9.2.Code=0))||(decide ((x9.1.length:Int)=0))))=true->0<=v2.2.2.2/\v2.2.2.2<(v.2.2.length:Int)) <|
  if (((!decide (x9.2.Code=0))||(decide ((x9.1.length:Int)=0)))||(!decide (((zad x9.1 0).Row)=(zad v.2.2 v2.2.2.2))))=true then
   lt (R_F 5 2) fun x10=>
   some (Sum.inr (([]:Cs),([]:List Int),x10))
  else
   zao (((v2.2.1++x9.1).length:Int)*64<=140737488351232) <|
   zao (((v2.2.2.1++([(x9.1.length:Int)]:List Int)).length:Int)*8<=140737488351232) <|
   some (Sum.inl (v2.1,(v2.2.1++x9.1),(v2.2.2.1++([(x9.1.length:Int)]:List Int)),w64 (v2.2.2.2+1)))
 else
  zey (zef x1 (v2.1,v2.2.1,v2.2.2.1))
def ze9 (x1:B9×Int)(v:Fault×B8×B9)(v0:Fault×Cs×List Int×Int):Option (Cs×List Int×Fault):=
 zb7 (fun y=>ze1 x1 v y) v0
def zf6 (x1:B9×Int)(v:Fault×B8×B9):Option (Cs×List Int×Fault):=
 if (decide (0<(v.2.1.length:Int)))=true then
  lt (R_F 5 1) fun x3=>
  some (([]:Cs),([]:List Int),x3)
 else
  ze9 x1 v (v.1,([]:Cs),([]:List Int),0)
def zdz (x1:B9×Int)(v3:Fault×B8×B9×Int):Option ((Fault×B8×B9×Int)⊕(Cs×List Int×Fault)):=
 if (decide (v3.2.2.2<(w64 ((x1.1.length:Int) - 2))))=true then
  ob (zhz v3.2.1) fun x11=>
  if ((decide (x11.2=0))||(decide ((w64 ((v3.2.1.length:Int) - x11.2))<x11.1)))=true then
   lt (R_F 5 1) fun x12=>
   some (Sum.inr (([]:Cs),([]:List Int),x12))
  else
   zao (0<=x11.2/\x11.2<=w64 (x11.2+x11.1)/\w64 (x11.2+x11.1)<=(v3.2.1.length:Int)) <|
   zao (((v3.2.2.1++([(zdt (zdq v3.2.1 (w64 (x11.2+x11.1))) x11.2)]:B9)).length:Int)*16<=140737488351232) <|
   lt ((v3.2.2.1++([(zdt (zdq v3.2.1 (w64 (x11.2+x11.1))) x11.2)]:B9))) fun v4=>
   zao (0<=w64 (x11.2+x11.1)/\w64 (x11.2+x11.1)<=(v3.2.1.length:Int)) <|
   ob (zhz (zdt v3.2.1 (w64 (x11.2+x11.1)))) fun x13=>
   zao ((!(decide (x13.2=0)))=true->0<=v3.2.2.2/\v3.2.2.2<(x1.1.length:Int)) <|
   zao ((!(decide (x13.2=0)))=true->0<=v3.2.2.2/\v3.2.2.2<(x1.1.length:Int)) <|
   if ((decide (x13.2=0))||(!decide (x13.1=((zad x1.1 v3.2.2.2).length:Int))))=true then
    lt (R_F 5 1) fun x14=>
    some (Sum.inr (([]:Cs),([]:List Int),x14))
   else
    zao (0<=x13.2/\x13.2<=((zdt v3.2.1 (w64 (x11.2+x11.1))).length:Int)) <|
    some (Sum.inl (v3.1,(zdt (zdt v3.2.1 (w64 (x11.2+x11.1))) x13.2),v4,w64 (v3.2.2.2+1)))
 else
  zey (zf6 x1 (v3.1,v3.2.1,v3.2.2.1))
def zh4 (x1:B9×Int)(v0:Fault×B8×B9×Int):Option (Cs×List Int×Fault):=
 zb7 (fun y=>zdz x1 y) v0
def zjo (b:B8):Option (Cs×List Int×Fault):=
 if (decide (60000<(b.length:Int)))=true then
  lt (R_F 8 0) fun x=>
  some (([]:Cs),([]:List Int),x)
 else
  ob (zkz b) fun x1=>
  zao ((!((!decide (x1.2=(b.length:Int)))||(decide ((w64 ((x1.1.length:Int) - 2))<0))))=true->0<=w64 ((w64 ((x1.1.length:Int) - 2))+1)/\w64 ((w64 ((x1.1.length:Int) - 2))+1)<(x1.1.length:Int)) <|
  zao ((!((!decide (x1.2=(b.length:Int)))||(decide ((w64 ((x1.1.length:Int) - 2))<0))))=true->0<=w64 ((w64 ((x1.1.length:Int) - 2))+1)/\w64 ((w64 ((x1.1.length:Int) - 2))+1)<(x1.1.length:Int)) <|
  if (((!decide (x1.2=(b.length:Int)))||(decide ((w64 ((x1.1.length:Int) - 2))<0)))||(decide (((zad x1.1 (w64 ((w64 ((x1.1.length:Int) - 2))+1))).length:Int)=0)))=true then
   lt (R_F 5 0) fun x2=>
   some (([]:Cs),([]:List Int),x2)
  else
   zao (0<=w64 ((x1.1.length:Int) - 2)/\w64 ((x1.1.length:Int) - 2)<(x1.1.length:Int)) <|
   zao (0<=w64 ((x1.1.length:Int) - 2)/\w64 ((x1.1.length:Int) - 2)<(x1.1.length:Int)) <|
   zh4 x1 ((⟨0,0⟩:Fault),(zad x1.1 (w64 ((x1.1.length:Int) - 2))),([]:B9),0)
theorem R_OpenedFile_ok {b r}(hF:zjo b=some r):Pe Tryz.prog 39 (.w []) [.sl 1 (b.map za8)] (.tup [.row 147 0,.row 152 0,.agg (zag r.2.2)]) ⟨[],[],[(147,⟨75,5,0,(r.1.map zab).length,0,true,0,[],(r.1.map zab)⟩),(152,.z 3 1 0 (r.2.1.map zit))],[],[]⟩:=by
 refine PT 176 [.tmp 2,.tmp 3,.cell 4 32] [68,44,32] Tryz.func39 ?_;intro Q g hfin;unfold zjo at hF;refine LR0 ?_;refine RJ (.l za8 b .z) ?_;refine Nif hF ?_ ?_ <;> intro hb hF
 ·have⟨x,h0,hF⟩:=lS hF;refine VR [.callB (.agg (zag x))] [2,3,4] [4] [] [] [(2,.nils),(3,.nils),(4,.ptr 4 0)] [(4,(zag x))] [] [] (hc (zen h0) .nil) ?_;cases hF;refine zas 2 60000 75 5 rfl rfl rfl ?_;refine zas 3 60001 3 1 rfl rfl rfl ?_;refine za9 ⟨[],[(60000,147),(60001,152)],[],[]⟩ rfl ?_;exact Wz [(147,⟨0,true,true,true⟩)] hfin
 ·have⟨x1,h1,hF⟩:=oE hF;have p2:=(Pe.ren (R_Unframed_ok h1) ⟨[],[(56,24)],[],[]⟩);refine RJ (.e [] [] p2 .z) ?_;refine RJ (.l zal x1.1 .z) ?_;have⟨h3,h4,hF⟩:=zhi hF;refine RJ (.l za8 b (.g (fun (ga0:(!((!decide (x1.2=(b.length:Int)))||(decide ((w64 ((x1.1.length:Int) - 2))<0))))=true)=>(zj2 zal (h3 ga0))) (.a (.av (zal (zad x1.1 (w64 ((w64 ((x1.1.length:Int) - 2))+1))))) (.g (fun (ga0:(!((!decide (x1.2=(b.length:Int)))||(decide ((w64 ((x1.1.length:Int) - 2))<0))))=true)=>(ziv zal (h4 ga0))) (.a (.nat ((zad x1.1 (w64 ((w64 ((x1.1.length:Int) - 2))+1))).length:Int)) (.g (fun (_:(!((!decide (x1.2=(b.length:Int)))||(decide ((w64 ((x1.1.length:Int) - 2))<0))))=true)=>(zfb za8 (zad x1.1 (w64 ((w64 ((x1.1.length:Int) - 2))+1))))) .z)))))) ?_;refine Nif hF ?_ ?_ <;> intro hb hF
  ·have⟨x2,h5,hF⟩:=lS hF;refine VR [.callB (.agg (zag x2))] [2,3,4] [4] [] [] [(2,.nils),(3,.nils),(4,.ptr 4 0)] [(4,(zag x2))] [] [] (hc (zen h5) .nil) ?_;cases hF;refine zas 2 60002 75 5 rfl rfl rfl ?_;refine zas 3 60003 3 1 rfl rfl rfl ?_;refine za9 ⟨[],[(60002,147),(60003,152)],[],[]⟩ rfl ?_;exact Wz [(147,⟨0,true,true,true⟩)] hfin
  ·have⟨h6,hF⟩:=aE hF;have⟨h7,hF⟩:=aE hF;refine RJ (.x zal h6 (.r zal h7 .z)) ?_;refine LR0 ?_;refine VR [] [4,5,7,8,9,10] [4] [24] [] [(4,.ptr 4 0),(5,.row 24 0),(7,.i (w64 ((x1.1.length:Int) - 2))),(8,.sl 1 ((zad x1.1 (w64 ((x1.1.length:Int) - 2))).map za8)),(9,.nils),(10,.i 0)] [(4,[.i 0,.i 0])] [(24,.z 22 1 0 (x1.1.map zal))] [] .nil ?_;refine NmS (fun v=>zf6 x1 v=some r) (fun Z v=>Z.up [4,5,7,8,9] [4] [24,82] [] [(8,.sl 1 (v.2.1.map za8)),(9,.row 82 0)] [(4,(zag v.1))] [(82,.z 9 1 0 (v.2.2.map zet))] []) ?_ ?_
   ·refine zdb ?_;unfold zh4 at hF;refine zas 9 60014 9 1 rfl rfl rfl ?_;refine zd9 (fs:=[4,5,7,8,9,10]) (bs:=[4]) (rs:=[24,60014]) (ms:=[]) (aa:=[]) (nv:=[]) rfl ?_;refine za9 ⟨[],[(60014,82)],[],[]⟩ rfl ?_;refine Nitr hF [] (fun v3=>⟨[(4,.ptr 4 0),(5,.row 24 0),(7,.i (w64 ((x1.1.length:Int) - 2))),(8,.sl 1 (v3.2.1.map za8)),(9,.row 82 0),(10,.i v3.2.2.2)],[(4,(zag v3.1))],[(24,.z 22 1 0 (x1.1.map zal)),(82,.z 9 1 0 (v3.2.2.1.map zet))],[],[]⟩) ?_;intro n1 v3 y1 hF ih1 dn1;unfold zdz at hF;refine LR0 ?_;refine Nif hF ?_ ?_ <;> intro hb hF
    ·refine zdb ?_;have⟨x11,h28,hF⟩:=oE hF;refine RJ (.b (zkh h28) .z) ?_;refine RJ (.a (.nat (v3.2.1.length:Int)) (.g (fun (_:(!(decide (x11.2=0)))=true)=>(zfb za8 v3.2.1)) .z)) ?_;refine Nif hF ?_ ?_ <;> intro hb hF
     ·have⟨x12,h29,hF⟩:=lS hF;refine VR [.callB (.agg (zag x12))] [2,3,4] [4] [] [] [(2,.nils),(3,.nils),(4,.ptr 4 0)] [(4,(zag x12))] [] [] (hc (zen h29) .nil) ?_;have hF:=zde hF dn1;cases hF;refine zas 2 60015 75 5 rfl rfl rfl ?_;refine zas 3 60016 3 1 rfl rfl rfl ?_;refine za9 ⟨[],[(60015,147),(60016,152)],[],[]⟩ rfl ?_;exact Wz [(147,⟨0,true,true,true⟩)] hfin
     ·have⟨h30,hF⟩:=aE hF;have⟨h31,hF⟩:=aE hF;have⟨v4,hv,hF⟩:=lS hF;refine RJ (.s11 za8 h30 (.a (.str (zdt (zdq v3.2.1 (w64 (x11.2+x11.1))) x11.2)) (.g (u8s_ok (zdt (zdq v3.2.1 (w64 (x11.2+x11.1))) x11.2)) (.a (.sealed) (.pN zet hv h31 .z))))) ?_;have⟨h32,hF⟩:=aE hF;refine RJ (.s10 za8 h32 .z) ?_;have⟨x13,h33,hF⟩:=oE hF;refine RJ (.b (zkh h33) .z) ?_;have⟨h34,h35,hF⟩:=zhi hF;refine RJ (.g (fun (ga0:(!(decide (x13.2=0)))=true)=>(zj2 zal (h34 ga0))) (.a (.av (zal (zad x1.1 v3.2.2.2))) (.g (fun (ga0:(!(decide (x13.2=0)))=true)=>(ziv zal (h35 ga0))) (.a (.nat ((zad x1.1 v3.2.2.2).length:Int)) (.g (fun (_:(!(decide (x13.2=0)))=true)=>(zfb za8 (zad x1.1 v3.2.2.2))) .z))))) ?_;refine Nif hF ?_ ?_ <;> intro hb hF
      ·have⟨x14,h36,hF⟩:=lS hF;refine VR [.callB (.agg (zag x14))] [2,3,4] [4] [] [] [(2,.nils),(3,.nils),(4,.ptr 4 0)] [(4,(zag x14))] [] [] (hc (zen h36) .nil) ?_;have hF:=zde hF dn1;cases hF;refine zas 2 60017 75 5 rfl rfl rfl ?_;refine zas 3 60018 3 1 rfl rfl rfl ?_;refine za9 ⟨[],[(60017,147),(60018,152)],[],[]⟩ rfl ?_;exact Wz [(147,⟨0,true,true,true⟩)] hfin
      ·have⟨h37,hF⟩:=aE hF;refine RJ (.s10 za8 h37 .z) ?_;refine LR0 ?_;exact zg1 [(82,⟨0,true,true,false⟩)] hF ih1
    ·refine zcp rfl ?_;have hF:=zak hF dn1;exact zfr (v3.1,v3.2.1,v3.2.2.1) [] hF
   ·intro v hF;unfold zf6 at hF;refine RJ (.l za8 v.2.1 .z) ?_;refine Nif hF ?_ ?_ <;> intro hb hF
    ·have⟨x3,h8,hF⟩:=lS hF;refine VR [.callB (.agg (zag x3))] [2,3,4] [4] [] [] [(2,.nils),(3,.nils),(4,.ptr 4 0)] [(4,(zag x3))] [] [] (hc (zen h8) .nil) ?_;cases hF;refine zas 2 60004 75 5 rfl rfl rfl ?_;refine zas 3 60005 3 1 rfl rfl rfl ?_;refine za9 ⟨[],[(60004,147),(60005,152)],[],[]⟩ rfl ?_;exact Wz [(147,⟨0,true,true,true⟩)] hfin
    ·refine LR0 ?_;refine LR0 ?_;refine VR [] [4,5,7,9,13,14,15] [4] [24,82] [] [(4,.ptr 4 0),(5,.row 24 0),(7,.i (w64 ((x1.1.length:Int) - 2))),(9,.row 82 0),(13,.nils),(14,.nils),(15,.i 0)] [(4,(zag v.1))] [(24,.z 22 1 0 (x1.1.map zal)),(82,.z 9 1 0 (v.2.2.map zet))] [] .nil ?_;refine NmS (fun v1=>zef x1 v1=some r) (fun Z v1=>Z.up [4,5,7,13,14] [4] [24,147,152] [] [(13,.row 147 0),(14,.row 152 0)] [(4,(zag v1.1))] [(147,.z 75 5 0 (v1.2.1.map zab)),(152,.z 3 1 0 (v1.2.2.map zit))] []) ?_ ?_
     ·refine zdb ?_;unfold ze9 at hF;refine zas 13 60010 75 5 rfl rfl rfl ?_;refine zas 14 60011 3 1 rfl rfl rfl ?_;refine zd9 (fs:=[4,5,7,9,13,14,15]) (bs:=[4]) (rs:=[24,82,60010,60011]) (ms:=[]) (aa:=[]) (nv:=[]) rfl ?_;refine za9 ⟨[],[(60010,147),(60011,152)],[],[]⟩ rfl ?_;refine Nitr hF [] (fun v2=>⟨[(4,.ptr 4 0),(5,.row 24 0),(7,.i (w64 ((x1.1.length:Int) - 2))),(9,.row 82 0),(13,.row 147 0),(14,.row 152 0),(15,.i v2.2.2.2)],[(4,(zag v2.1))],[(24,.z 22 1 0 (x1.1.map zal)),(82,.z 9 1 0 (v.2.2.map zet)),(147,.z 75 5 0 (v2.2.1.map zab)),(152,.z 3 1 0 (v2.2.2.1.map zit))],[],[]⟩) ?_;intro n1 v2 y1 hF ih1 dn1;unfold ze1 at hF;refine LR0 ?_;refine Nif hF ?_ ?_ <;> intro hb hF
      ·refine zdb ?_;have⟨h17,h18,hF⟩:=zhi hF;have⟨x9,h19,hF⟩:=oE hF;have p20:=(Pe.ren (R_CellsOf_ok h19) ⟨[],[(28,122)],[],[]⟩);refine RJ (.x zal h17 (.r zal h18 (.e [] [] p20 .z))) ?_;have⟨h21,h22,h23,h24,hF⟩:=zj1 hF;refine DJ (.a (.nat (x9.1.length:Int)) (.g (fun (_:(!(!decide (x9.2.Code=0)))=true)=>(zfb zab x9.1)) (.g (fun (ga0:(!((!decide (x9.2.Code=0))||(decide ((x9.1.length:Int)=0))))=true)=>(zj2 zab (h21 ga0))) (.a (.av (zab (zad x9.1 0))) (.g (fun (ga0:(!((!decide (x9.2.Code=0))||(decide ((x9.1.length:Int)=0))))=true)=>(ziv zab (h22 ga0))) (.g (fun (ga0:(!((!decide (x9.2.Code=0))||(decide ((x9.1.length:Int)=0))))=true)=>(zj2 zet (h23 ga0))) (.a (.av (zet (zad v.2.2 v2.2.2.2))) (.g (fun (ga0:(!((!decide (x9.2.Code=0))||(decide ((x9.1.length:Int)=0))))=true)=>(ziv zet (h24 ga0))) .z)))))))) ?_;refine Nif hF ?_ ?_ <;> intro hb hF
       ·have⟨x10,h25,hF⟩:=lS hF;refine VR [.callB (.agg (zag x10))] [2,3,4] [4] [] [] [(2,.nils),(3,.nils),(4,.ptr 4 0)] [(4,(zag x10))] [] [] (hc (zen h25) .nil) ?_;have hF:=zde hF dn1;cases hF;refine zas 2 60012 75 5 rfl rfl rfl ?_;refine zas 3 60013 3 1 rfl rfl rfl ?_;refine za9 ⟨[],[(60012,147),(60013,152)],[],[]⟩ rfl ?_;exact Wz [(147,⟨0,true,true,true⟩)] hfin
       ·have⟨h26,hF⟩:=aE hF;refine RJ (.p zab h26 .z) ?_;have⟨h27,hF⟩:=aE hF;refine RJ (.l zab x9.1 (.a (.sealed) (.p zit h27 .z))) ?_;refine LR0 ?_;exact zg1 [(147,⟨0,true,true,false⟩),(152,⟨0,true,true,false⟩)] hF ih1
      ·refine zcp rfl ?_;have hF:=zak hF dn1;exact zfr (v2.1,v2.2.1,v2.2.2.1) [] hF
     ·intro v1 hF;unfold zef at hF;have⟨x4,h9,hF⟩:=oE hF;refine RJ (.b (zlb h9) (.a (.nat (v1.2.1.length:Int)) (.g (fun (_:(!(!decide (x4.Code=0)))=true)=>(zfb zab v1.2.1)) .z))) ?_;refine Nif hF ?_ ?_ <;> intro hb hF
      ·have⟨x5,h10,hF⟩:=lS hF;refine VR [.callB (.agg (zag x5))] [2,3,4] [4] [] [] [(2,.nils),(3,.nils),(4,.ptr 4 0)] [(4,(zag x5))] [] [] (hc (zen h10) .nil) ?_;cases hF;refine zas 2 60006 75 5 rfl rfl rfl ?_;refine zas 3 60007 3 1 rfl rfl rfl ?_;refine za9 ⟨[],[(60006,147),(60007,152)],[],[]⟩ rfl ?_;exact Wz [(147,⟨0,true,true,true⟩)] hfin
      ·have⟨x6,h11,hF⟩:=oE hF;have p12:=(Pe.ren (R_FilterOf_ok h11) ⟨[],[(46,164)],[],[]⟩);have⟨h13,h14,hF⟩:=zhi hF;have⟨x7,h15,hF⟩:=lS hF;refine DJ (.e [] [] p12 (.x zal h13 (.r zal h14 (.b (R_Same_ok h15) .z)))) ?_;refine Nif hF ?_ ?_ <;> intro hb hF
       ·have⟨x8,h16,hF⟩:=lS hF;refine VR [.callB (.agg (zag x8))] [2,3,4] [4] [] [] [(2,.nils),(3,.nils),(4,.ptr 4 0)] [(4,(zag x8))] [] [] (hc (zen h16) .nil) ?_;cases hF;refine zas 2 60008 75 5 rfl rfl rfl ?_;refine zas 3 60009 3 1 rfl rfl rfl ?_;refine za9 ⟨[],[(60008,147),(60009,152)],[],[]⟩ rfl ?_;exact Wz [(147,⟨0,true,true,true⟩)] hfin
       ·refine LR0 ?_;cases hF;exact Wz [] hfin

/- tabularyref.Above -/
def R_Above_J1 (v:List Note):Option (List Note):=
 some v
def R_Above_B1 (l:List Note)(num:Int)(v1:List Note×Int):Option ((List Note×Int)⊕(List Note)):=
 if (decide (v1.2<(l.length:Int)))=true then
  zao (0<=v1.2/\v1.2<(l.length:Int)) <|
  ob (
   if (decide (num<((zad l v1.2).Seq)))=true then
    zao (0<=v1.2/\v1.2<(l.length:Int)) <|
    zao (((v1.1++[(⟨(zad l v1.2).Seq,(zad l v1.2).Cells⟩:Note)]).length:Int)*32<=140737488351232) <|
    some (v1.1++[(⟨(zad l v1.2).Seq,(zad l v1.2).Cells⟩:Note)])
   else
    some v1.1) fun v2=>
  some (Sum.inl (v2,w64 (v1.2+1)))
 else
  zey (R_Above_J1 v1.1)
def R_Above_L1 (l:List Note)(num:Int)(v0:List Note×Int):Option (List Note):=
 zb7 (fun y=>R_Above_B1 l num y) v0
def R_Above (l:List Note)(num:Int):Option (List Note):=
 R_Above_L1 l num (([]:List Note),0)
theorem R_Above_ok {l num r}(hF:R_Above l num=some r):Pe Tryz.prog 41 (.w []) [.sl 2 (l.map zar),.i num] (.row 26 0) ⟨[],[],[(26,.z 106 2 0 (r.map zar))],[],[]⟩:=by
 refine PT 28 [.tmp 4] [67] Tryz.func41 ?_;intro Q g hfin;unfold R_Above at hF;refine LR0 ?_;refine LR0 ?_;refine NR [] [0,1,5,6] [] [] [(0,.sl 2 (l.map zar)),(1,.i num),(5,.nils),(6,.i 0)] .nil ?_;refine NmQ (fun v=>R_Above_J1 v=some r) (fun v=>⟨[(5,.row 26 0)],[],[(26,.z 106 2 0 (v.map zar))],[],[]⟩) ?_ ?_
 ·refine zdb ?_;unfold R_Above_L1 at hF;refine zas 5 60000 106 2 rfl rfl rfl ?_;refine zd9 (fs:=[0,1,5,6]) (bs:=[]) (rs:=[60000]) (ms:=[]) (aa:=[]) (nv:=[]) rfl ?_;refine za9 ⟨[],[(60000,26)],[],[]⟩ rfl ?_;refine Nitr hF [] (fun v1=>⟨[(0,.sl 2 (l.map zar)),(1,.i num),(5,.row 26 0),(6,.i v1.2)],[],[(26,.z 106 2 0 (v1.1.map zar))],[],[]⟩) ?_;intro n1 v1 y1 hF ih1 dn1;unfold R_Above_B1 at hF;refine RJ (.l zar l .z) ?_;refine Nif hF ?_ ?_ <;> intro hb hF
  ·refine zdb ?_;have⟨h0,hF⟩:=aE hF;refine RJ (.i zar h0 .z) ?_;have⟨v2,hv,hF⟩:=oE hF;refine NmT (fun Z=>Z.up [0,1,5,6] [] [26] [] [] [] [(26,.z 106 2 0 (v2.map zar))] []) ?_ ?_
   ·have hF:=hv;refine Nif hF ?_ ?_ <;> intro hb hF
    ·have⟨h1,hF⟩:=aE hF;have⟨h2,hF⟩:=aE hF;refine RJ (.i zar h1 (.a (.sealed) (.p zar h2 .z))) ?_;cases hF;exact zmf [(26,⟨0,true,true,false⟩)]
    ·cases hF;exact zmf []
   ·refine LR0 ?_;exact zg1 [] hF ih1
  ·refine zcp rfl ?_;have hF:=zak hF dn1;exact zfr v1.1 [] hF
 ·intro v hF;unfold R_Above_J1 at hF;refine LR0 ?_;cases hF;exact Wz [] hfin

/- tabularyref.PutCell -/
def zfc (l:Cs)(v:Cell×Int):Option Cs:=
 zao ((decide (v.2<(l.length:Int)))=true->0<=v.2/\v.2<(l.length:Int)) <|
 lt (zbo v.1 (⟨(zad l v.2).Row,(zad l v.2).Col,(zad l v.2).Time,(zad l v.2).Gone,(zad l v.2).Value⟩:Cell)) fun x=>
 if ((decide (v.2<(l.length:Int)))&&(!x))=true then
  zao ((l.length:Int)*64<=140737488351232) <|
  zao (0<=v.2/\v.2<(l.length:Int)) <|
  zao (0<=v.2/\v.2<(l.length:Int)) <|
  some (zmc l v.2 v.1)
 else
  zao (0<=v.2/\v.2<=(l.length:Int)) <|
  zao (((zdq l v.2).length:Int)*64<=140737488351232) <|
  zao ((((zdq l v.2)++[v.1]).length:Int)*64<=140737488351232) <|
  zao (0<=v.2/\v.2<=(l.length:Int)) <|
  zao (((((zdq l v.2)++[v.1])++(zdt l v.2)).length:Int)*64<=140737488351232) <|
  some (((zdq l v.2)++[v.1])++(zdt l v.2))
def zjp (l:Cs)(v1:Cell×Int):Option ((Cell×Int)⊕Cs):=
 zao ((decide (v1.2<(l.length:Int)))=true->0<=v1.2/\v1.2<(l.length:Int)) <|
 lt (zbo (⟨(zad l v1.2).Row,(zad l v1.2).Col,(zad l v1.2).Time,(zad l v1.2).Gone,(zad l v1.2).Value⟩:Cell) v1.1) fun x1=>
 if ((decide (v1.2<(l.length:Int)))&&x1)=true then
  some (Sum.inl (v1.1,w64 (v1.2+1)))
 else
  zey (zfc l (v1.1,v1.2))
def zly (l:Cs)(v0:Cell×Int):Option Cs:=
 zb7 (fun y=>zjp l y) v0
def R_PutCell (l:Cs)(c:Cell):Option Cs:=
 zly l (c,0)
theorem R_PutCell_ok {l c r}(hF:R_PutCell l c=some r):Pe Tryz.prog 109 (.w []) [.sl 5 (l.map zab),.agg (zfa c)] (.row 35 0) ⟨[],[],[(35,.z 75 5 0 (r.map zab))],[],[]⟩:=by
 refine PT 52 [.tmp 4] [68] Tryz.func109 ?_;intro Q g hfin;unfold R_PutCell at hF;refine LR0 ?_;refine LR0 ?_;refine NmS (fun v=>zfc l v=some r) (fun Z v=>Z.up [0,3,5] [3] [] [] [(5,.i v.2)] [(3,(zfa v.1))] [] []) ?_ ?_
 ·refine zdb ?_;unfold zly at hF;refine znj hF [] (fun Z v1=>Z.up [0,3,5] [3] [] [] [(5,.i v1.2)] [(3,(zfa v1.1))] [] []) ?_;intro n1 v1 y1 hF ih1 dn1;unfold zjp at hF;have⟨h10,hF⟩:=aE hF;have⟨x1,h11,hF⟩:=lS hF;refine DJ (.l zab l (.a (.av (zab (zad l v1.2))) (.g (fun (ga0:(decide (v1.2<(l.length:Int)))=true)=>(ze5 zab (h10 ga0))) (.a (.callB (.bool x1)) (.g (fun (ga0:(decide (v1.2<(l.length:Int)))=true)=>(R_Ahead_ok h11)) .z))))) ?_;refine Nif hF ?_ ?_ <;> intro hb hF
  ·refine zdb ?_;refine LR0 ?_;exact zg1 [] hF ih1
  ·refine zcp rfl ?_;have hF:=zak hF dn1;exact zfr (v1.1,v1.2) [] hF
 ·intro v hF;unfold zfc at hF;have⟨h0,hF⟩:=aE hF;have⟨x,h1,hF⟩:=lS hF;refine DJ (.l zab l (.a (.av (zab (zad l v.2))) (.g (fun (ga0:(decide (v.2<(l.length:Int)))=true)=>(ze5 zab (h0 ga0))) (.a (.callB (.bool x)) (.g (fun (ga0:(decide (v.2<(l.length:Int)))=true)=>(R_Ahead_ok h1)) .z))))) ?_;refine Nif hF ?_ ?_ <;> intro hb hF
  ·have⟨h2,hF⟩:=aE hF;refine RJ (.p0 zab h2 .z) ?_;have⟨h3,h4,hF⟩:=zhi hF;refine RJ (.x zab h3 (.w zab h4 v.1 .z)) ?_;refine LR0 ?_;cases hF;exact Wz [(35,⟨0,true,true,false⟩)] hfin
  ·have⟨h5,hF⟩:=aE hF;have⟨h6,h7,h8,h9,hF⟩:=zj1 hF;refine VD [.xs ((zdq l v.2).map zab),.xs ((zdq l v.2).map zab),.sealed,.xs (((zdq l v.2)++[v.1]).map zab),.xs ((zdt l v.2).map zab),.xs ((((zdq l v.2)++[v.1])++(zdt l v.2)).map zab)] [4] [] [44] [] [(4,.row 44 3)] [] [(44,.z 75 5 3 ((((zdq l v.2)++[v.1])++(zdt l v.2)).map zab))] [] (hc (sl01_ok zab h5) (hc (app0_ok zab (zdq l v.2)) (hc (appl_ok zab h6) (hc (app_ok zab (zdq l v.2) [v.1]) (hc (appl_ok zab h7) (hc (sl10_ok zab h8) (hc (app_ok zab ((zdq l v.2)++[v.1]) (zdt l v.2)) (hc (appl_ok zab h9) .nil)))))))) ?_;cases hF;refine za9 ⟨[],[(44,35)],[],[]⟩ rfl ?_;exact Wz [(35,⟨0,true,true,false⟩)] hfin

/- tabularyref.PutCells -/
def zn5 (v:Cs):Option Cs:=
 some v
def zkk (m:Cs)(v1:Cs×Int):Option ((Cs×Int)⊕Cs):=
 if (decide (v1.2<(m.length:Int)))=true then
  zao (0<=v1.2/\v1.2<(m.length:Int)) <|
  ob (R_PutCell v1.1 (⟨(zad m v1.2).Row,(zad m v1.2).Col,(zad m v1.2).Time,(zad m v1.2).Gone,(zad m v1.2).Value⟩:Cell)) fun x=>
  some (Sum.inl (x,w64 (v1.2+1)))
 else
  zey (zn5 v1.1)
def zod (m:Cs)(v0:Cs×Int):Option Cs:=
 zb7 (fun y=>zkk m y) v0
def zkw (l m:Cs):Option Cs:=
 zod m (l,0)
theorem R_PutCells_ok {l m r}(hF:zkw l m=some r):Pe Tryz.prog 69 S.none [.sl 5 (l.map zab),.sl 5 (m.map zab)] (.sl 5 (r.map zab)) S.none:=by
 refine PT 19 [.tmp 4] [68] Tryz.func69 ?_;intro Q g hfin;unfold zkw at hF;refine LR0 ?_;refine LR0 ?_;refine NmQ (fun v=>zn5 v=some r) (fun v=>⟨[(0,.sl 5 (v.map zab))],[],[],[],[]⟩) ?_ ?_
 ·refine zdb ?_;unfold zod at hF;refine znj hF [] (fun Z v1=>Z.up [0,1,5] [] [] [] [(0,.sl 5 (v1.1.map zab)),(5,.i v1.2)] [] [] []) ?_;intro n1 v1 y1 hF ih1 dn1;unfold zkk at hF;refine RJ (.l zab m .z) ?_;refine Nif hF ?_ ?_ <;> intro hb hF
  ·refine zdb ?_;have⟨h0,hF⟩:=aE hF;have⟨x,h1,hF⟩:=oE hF;have p2:=(Pe.ren (R_PutCell_ok h1) ⟨[],[(35,17)],[],[]⟩);refine RJ (.i zab h0 (.e [] [] p2 .z)) ?_;refine VR [] [0,1,5] [] [17] [] [(0,.row 17 0),(1,.sl 5 (m.map zab)),(5,.i (w64 (v1.2+1)))] [] [(17,.z 75 5 0 (x.map zab))] [] .nil ?_;refine Wk_sealX [] 0 rfl rfl ?_;exact zg1 [] hF ih1
  ·refine zcp rfl ?_;have hF:=zak hF dn1;exact zfr v1.1 [] hF
 ·intro v hF;unfold zn5 at hF;refine LR0 ?_;cases hF;exact Wz [] hfin

/- tabularyref.PutNotes -/
def zog (v:Cs):Option Cs:=
 some v
def zke (notes:List Note)(v1:Cs×Int):Option ((Cs×Int)⊕Cs):=
 if (decide (v1.2<(notes.length:Int)))=true then
  zao (0<=v1.2/\v1.2<(notes.length:Int)) <|
  ob (zkw v1.1 ((zad notes v1.2).Cells)) fun x=>
  some (Sum.inl (x,w64 (v1.2+1)))
 else
  zey (zog v1.1)
def zoc (notes:List Note)(v0:Cs×Int):Option Cs:=
 zb7 (fun y=>zke notes y) v0
def R_PutNotes (l:Cs)(notes:List Note):Option Cs:=
 zoc notes (l,0)
theorem R_PutNotes_ok {l notes r}(hF:R_PutNotes l notes=some r):Pe Tryz.prog 40 S.none [.sl 5 (l.map zab),.sl 2 (notes.map zar)] (.sl 5 (r.map zab)) S.none:=by
 refine PT 20 [.tmp 4] [68] Tryz.func40 ?_;intro Q g hfin;unfold R_PutNotes at hF;refine LR0 ?_;refine LR0 ?_;refine NmQ (fun v=>zog v=some r) (fun v=>⟨[(0,.sl 5 (v.map zab))],[],[],[],[]⟩) ?_ ?_
 ·refine zdb ?_;unfold zoc at hF;refine znj hF [] (fun Z v1=>Z.up [0,1,5] [] [] [] [(0,.sl 5 (v1.1.map zab)),(5,.i v1.2)] [] [] []) ?_;intro n1 v1 y1 hF ih1 dn1;unfold zke at hF;refine RJ (.l zar notes .z) ?_;refine Nif hF ?_ ?_ <;> intro hb hF
  ·refine zdb ?_;have⟨h0,hF⟩:=aE hF;have⟨x,h1,hF⟩:=oE hF;refine RJ (.i zar h0 (.c (R_PutCells_ok h1) .z)) ?_;refine LR0 ?_;exact zg1 [] hF ih1
  ·refine zcp rfl ?_;have hF:=zak hF dn1;exact zfr v1.1 [] hF
 ·intro v hF;unfold zog at hF;refine LR0 ?_;cases hF;exact Wz [] hfin

/- tabularyref.Together -/
def znt (v:Cs):Option Cs:=
 some v
def zkd (l:List Cs)(v1:Cs×Int):Option ((Cs×Int)⊕Cs):=
 if (decide (0<v1.2))=true then
  zao (0<=w64 (v1.2 - 1)/\w64 (v1.2 - 1)<(l.length:Int)) <|
  ob (zkw v1.1 (zad l (w64 (v1.2 - 1)))) fun x=>
  some (Sum.inl (x,w64 (v1.2 - 1)))
 else
  zey (znt v1.1)
def zoz (l:List Cs)(v0:Cs×Int):Option Cs:=
 zb7 (fun y=>zkd l y) v0
def zng (l:List Cs):Option Cs:=
 zoz l (([]:Cs),(l.length:Int))
theorem R_Together_ok {l r}(hF:zng l=some r):Pe Tryz.prog 42 S.none [.sl 1 (l.map za1)] (.sl 5 (r.map zab)) S.none:=by
 refine PT 19 [.tmp 2] [68] Tryz.func42 ?_;intro Q g hfin;unfold zng at hF;refine LR0 ?_;refine LR0 ?_;refine NR [.nat (l.length:Int)] [0,3,4] [] [] [(0,.sl 1 (l.map za1)),(3,.nils),(4,.i (l.length:Int))] (hc (zfb za1 l) .nil) ?_;refine NmQ (fun v=>znt v=some r) (fun v=>⟨[(3,.sl 5 (v.map zab))],[],[],[],[]⟩) ?_ ?_
 ·refine zdb ?_;unfold zoz at hF;refine Wk_coe 3 (.sl 5 (([]:Cs).map zab)) rfl (.cell rfl (CoeS.nils 5)) ?_;refine Nitr hF [] (fun v1=>⟨[(0,.sl 1 (l.map za1)),(3,.sl 5 (v1.1.map zab)),(4,.i v1.2)],[],[],[],[]⟩) ?_;intro n1 v1 y1 hF ih1 dn1;unfold zkd at hF;refine LR0 ?_;refine Nif hF ?_ ?_ <;> intro hb hF
  ·refine zdb ?_;have⟨h0,hF⟩:=aE hF;have⟨x,h1,hF⟩:=oE hF;refine RJ (.i za1 h0 (.c (R_PutCells_ok h1) .z)) ?_;refine LR0 ?_;exact zg1 [] hF ih1
  ·refine zcp rfl ?_;have hF:=zak hF dn1;exact zfr v1.1 [] hF
 ·intro v hF;unfold znt at hF;refine LR0 ?_;cases hF;exact Wz [] hfin

/- tabularyref.Heavy -/
def R_Heavy (x:Inside):Fault:=
 if (decide (500<(x.Mem.length:Int)))=true then
  lt (R_F 9 (-2)) fun x1=>
  x1
 else
  if (decide (1000<(x.All.length:Int)))=true then
   lt (R_F 9 (-1)) fun x2=>
   x2
  else
   (⟨0,0⟩:Fault)
theorem R_Heavy_ok {x r}(hF:R_Heavy x=r):Pe Tryz.prog 43 S.none [.agg (c_Inside x)] (.agg (zag r)) S.none:=by
 refine PT 14 [.cell 2 32] [32] Tryz.func43 ?_;intro Q g hfin;unfold R_Heavy at hF;refine LR0 ?_;refine RJ (.l zab x.Mem .z) ?_;refine Nif hF ?_ ?_ <;> intro hb hF
 ·have⟨x1,h0,hF⟩:=lS hF;refine RJ (.b (zen h0) .z) ?_;cases hF;exact Wz [] hfin
 ·refine RJ (.l zab x.All .z) ?_;refine Nif hF ?_ ?_ <;> intro hb hF
  ·have⟨x2,h1,hF⟩:=lS hF;refine RJ (.b (zen h1) .z) ?_;cases hF;exact Wz [] hfin
  ·refine LR0 ?_;cases hF;exact Wz [] hfin

/- tabularyref.InsideOf -/
def zkg (x4:List Note×Int)(v:Tablet×Inside×Fault×Int)(v1:Tablet×Inside×Fault×List Cs):Option (List Note×Int×Cs×List Cs×Cs×Fault):=
 ob (R_Above x4.1 v1.1.Done) fun x6=>
 ob (R_PutNotes ([]:Cs) x6) fun x7=>
 zao (((([x7]:List Cs)++v1.2.2.2).length:Int)*24<=140737488351232) <|
 ob (zng (([x7]:List Cs)++v1.2.2.2)) fun x8=>
 lt (R_Heavy (⟨x4.1,v.2.2.2,x7,v1.2.2.2,x8⟩:Inside)) fun x9=>
 some (x4.1,v.2.2.2,x7,v1.2.2.2,x8,x9)
def zik (x4:List Note×Int)(v:Tablet×Inside×Fault×Int)(v2:Tablet×Inside×Fault×List Cs×Int):Option ((Tablet×Inside×Fault×List Cs×Int)⊕(List Note×Int×Cs×List Cs×Cs×Fault)):=
 if (decide (v2.2.2.2.2<(v2.1.Files.length:Int)))=true then
  zao (0<=v2.2.2.2.2/\v2.2.2.2.2<(v2.1.Files.length:Int)) <|
  ob (zjo (zad v2.1.Files v2.2.2.2.2)) fun x10=>
  if (!decide (x10.2.2.Code=0))=true then
   lt (R_F x10.2.2.Code v2.2.2.2.2) fun x11=>
   some (Sum.inr (([]:List Note),0,([]:Cs),([]:List Cs),([]:Cs),x11))
  else
   zao (((v2.2.2.2.1++([x10.1]:List Cs)).length:Int)*24<=140737488351232) <|
   some (Sum.inl (v2.1,v2.2.1,v2.2.2.1,(v2.2.2.2.1++([x10.1]:List Cs)),w64 (v2.2.2.2.2+1)))
 else
  zey (zkg x4 v (v2.1,v2.2.1,v2.2.2.1,v2.2.2.2.1))
def zn2 (x4:List Note×Int)(v:Tablet×Inside×Fault×Int)(v0:Tablet×Inside×Fault×List Cs×Int):Option (List Note×Int×Cs×List Cs×Cs×Fault):=
 zb7 (fun y=>zik x4 v y) v0
def zir (x4:List Note×Int)(v:Tablet×Inside×Fault×Int):Option (List Note×Int×Cs×List Cs×Cs×Fault):=
 zn2 x4 v (v.1,v.2.1,v.2.2.1,([]:List Cs),0)
def zmw (t0:Tablet):Option (List Note×Int×Cs×List Cs×Cs×Fault):=
 if ((((decide (t0.Done<0))||(decide (1000000000<t0.Done)))||(decide (t0.Since<0)))||(decide (1000000000<t0.Since)))=true then
  lt (R_F 3 0) fun x=>
  some (([]:List Note),0,([]:Cs),([]:List Cs),([]:Cs),x)
 else
  if (decide (10<(t0.Files.length:Int)))=true then
   lt (R_F 2 (-1)) fun x1=>
   some (([]:List Note),0,([]:Cs),([]:List Cs),([]:Cs),x1)
  else
   lt (zli t0.Log) fun x2=>
   if (!decide (x2.Code=0))=true then
    lt (R_F x2.Code (-2)) fun x3=>
    some (([]:List Note),0,([]:Cs),([]:List Cs),([]:Cs),x3)
   else
    ob (R_Logged t0.Log.Bytes) fun x4=>
    if (!decide (x4.2=(t0.Log.Bytes.length:Int)))=true then
     lt (R_F 11 (-2)) fun x5=>
     some (([]:List Note),0,([]:Cs),([]:List Cs),([]:Cs),x5)
    else
     if (decide (0<(x4.1.length:Int)))=true then
      zao (0<=w64 ((x4.1.length:Int) - 1)/\w64 ((x4.1.length:Int) - 1)<(x4.1.length:Int)) <|
      zao (0<=w64 ((x4.1.length:Int) - 1)/\w64 ((x4.1.length:Int) - 1)<(x4.1.length:Int)) <|
      zao (0<=(0:Int)/\0<(x4.1.length:Int)) <|
      zao (0<=(0:Int)/\0<(x4.1.length:Int)) <|
      if ((decide (t0.Done<(w64 (((zad x4.1 0).Seq) - 1))))||(decide (((zad x4.1 (w64 ((x4.1.length:Int) - 1))).Seq)<t0.Done)))=true then
       lt (R_F 11 (-2)) fun x12=>
       some (([]:List Note),0,([]:Cs),([]:List Cs),([]:Cs),x12)
      else
       zir x4 (t0,(⟨([]:List Note),0,([]:Cs),([]:List Cs),([]:Cs)⟩:Inside),(⟨0,0⟩:Fault),(zad x4.1 (w64 ((x4.1.length:Int) - 1))).Seq)
     else
      zir x4 (t0,(⟨([]:List Note),0,([]:Cs),([]:List Cs),([]:Cs)⟩:Inside),(⟨0,0⟩:Fault),t0.Done)
theorem R_InsideOf_ok {t0 r}(hF:zmw t0=some r):Pe Tryz.prog 18 (.w []) [.agg (zdo t0)] (.tup [.agg [.row 52 0,.i r.2.1,.sl 5 (r.2.2.1.map zab),.row 124 0,.sl 5 (r.2.2.2.2.1.map zab)],.agg (zag r.2.2.2.2.2)]) ⟨[],[],[(52,⟨106,2,0,(r.1.map zar).length,0,true,0,[],(r.1.map zar)⟩),(124,.z 68 1 0 (r.2.2.2.1.map za1))],[],[]⟩:=by
 refine PT 143 [.cell 2 71,.cell 3 32] [71,32] Tryz.func18 ?_;intro Q g hfin;unfold zmw at hF;refine LR0 ?_;refine LR0 ?_;refine Nif hF ?_ ?_ <;> intro hb hF
 ·have⟨x,h0,hF⟩:=lS hF;refine VR [.callB (.agg (zag x))] [2,3] [2,3] [] [] [(2,.ptr 2 0),(3,.ptr 3 0)] [(2,[.nils,.i 0,.nils,.nils,.nils]),(3,(zag x))] [] [] (hc (zen h0) .nil) ?_;cases hF;refine zb0 2 0 60000 106 2 rfl rfl rfl rfl rfl ?_;refine zb0 2 3 60001 68 1 rfl rfl rfl rfl rfl ?_;refine za9 ⟨[],[(60000,52),(60001,124)],[],[]⟩ rfl ?_;exact Wz [(52,⟨0,true,true,true⟩)] hfin
 ·refine RJ (.l zal t0.Files .z) ?_;refine Nif hF ?_ ?_ <;> intro hb hF
  ·have⟨x1,h1,hF⟩:=lS hF;refine VR [.callB (.agg (zag x1))] [2,3] [2,3] [] [] [(2,.ptr 2 0),(3,.ptr 3 0)] [(2,[.nils,.i 0,.nils,.nils,.nils]),(3,(zag x1))] [] [] (hc (zen h1) .nil) ?_;cases hF;refine zb0 2 0 60002 106 2 rfl rfl rfl rfl rfl ?_;refine zb0 2 3 60003 68 1 rfl rfl rfl rfl rfl ?_;refine za9 ⟨[],[(60002,52),(60003,124)],[],[]⟩ rfl ?_;exact Wz [(52,⟨0,true,true,true⟩)] hfin
  ·have⟨x2,h2,hF⟩:=lS hF;refine RJ (.b (R_DiskFault_ok h2) .z) ?_;refine LR0 ?_;refine Nif hF ?_ ?_ <;> intro hb hF
   ·have⟨x3,h3,hF⟩:=lS hF;refine VR [.callB (.agg (zag x3))] [2,3] [2,3] [] [] [(2,.ptr 2 0),(3,.ptr 3 0)] [(2,[.nils,.i 0,.nils,.nils,.nils]),(3,(zag x3))] [] [] (hc (zen h3) .nil) ?_;cases hF;refine zb0 2 0 60004 106 2 rfl rfl rfl rfl rfl ?_;refine zb0 2 3 60005 68 1 rfl rfl rfl rfl rfl ?_;refine za9 ⟨[],[(60004,52),(60005,124)],[],[]⟩ rfl ?_;exact Wz [(52,⟨0,true,true,true⟩)] hfin
   ·have⟨x4,h4,hF⟩:=oE hF;have p5:=(Pe.ren (R_Logged_ok h4) ⟨[],[],[],[]⟩);refine RJ (.e [] [] p5 .z) ?_;refine RJ (.l za8 t0.Log.Bytes .z) ?_;refine Nif hF ?_ ?_ <;> intro hb hF
    ·have⟨x5,h6,hF⟩:=lS hF;refine VR [.callB (.agg (zag x5))] [2,3] [2,3] [] [] [(2,.ptr 2 0),(3,.ptr 3 0)] [(2,[.nils,.i 0,.nils,.nils,.nils]),(3,(zag x5))] [] [] (hc (zen h6) .nil) ?_;cases hF;refine zb0 2 0 60006 106 2 rfl rfl rfl rfl rfl ?_;refine zb0 2 3 60007 68 1 rfl rfl rfl rfl rfl ?_;refine za9 ⟨[],[(60006,52),(60007,124)],[],[]⟩ rfl ?_;exact Wz [(52,⟨0,true,true,true⟩)] hfin
    ·refine LR0 ?_;refine VR [.nat (x4.1.length:Int)] [1,2,3,5,7,69] [1,2,3,7] [52] [] [(1,.ptr 1 0),(2,.ptr 2 0),(3,.ptr 3 0),(5,.row 52 0),(7,.ptr 7 0),(69,.bool (decide (0<(x4.1.length:Int))))] [(1,(zdo t0)),(2,[.nils,.i 0,.nils,.nils,.nils]),(3,[.i 0,.i 0]),(7,[.row 52 0,.i t0.Done,.nils,.nils,.nils])] [(52,.z 106 2 0 (x4.1.map zar))] [] (hc (zfb zar x4.1) .nil) ?_;refine NmS (fun v=>zir x4 v=some r) (fun Z v=>Z.up [1,2,3,5,7] [1,2,3,7] [52] [] [] [(1,(zdo v.1)),(2,(c_Inside v.2.1)),(3,(zag v.2.2.1)),(7,[.row 52 0,.i v.2.2.2,.nils,.nils,.nils])] [] []) ?_ ?_
     ·refine Nif hF ?_ ?_ <;> intro hb hF
      ·have⟨h18,hF⟩:=aE hF;have⟨h19,hF⟩:=aE hF;refine RJ (.l zar x4.1 (.x zar h18 (.r zar h19 .z))) ?_;have⟨h20,h21,hF⟩:=zhi hF;refine VD [.av (zar (zad x4.1 0))] [1,2,3,5,7,92] [1,2,3,7] [52] [] [(1,.ptr 1 0),(2,.ptr 2 0),(3,.ptr 3 0),(5,.row 52 0),(7,.ptr 7 0),(92,.bool ((decide (t0.Done<(w64 (((zad x4.1 0).Seq) - 1))))||(decide (((zad x4.1 (w64 ((x4.1.length:Int) - 1))).Seq)<t0.Done))))] [(1,(zdo t0)),(2,[.nils,.i 0,.nils,.nils,.nils]),(3,[.i 0,.i 0]),(7,[.row 52 0,.i ((zad x4.1 (w64 ((x4.1.length:Int) - 1))).Seq),.nils,.nils,.nils])] [(52,.z 106 2 0 (x4.1.map zar))] [] (hc (zj2 zar h20) (hc (ziv zar h21) .nil)) ?_;refine Nif hF ?_ ?_ <;> intro hb hF
       ·have⟨x12,h22,hF⟩:=lS hF;refine VR [.callB (.agg (zag x12))] [2,3] [2,3] [] [] [(2,.ptr 2 0),(3,.ptr 3 0)] [(2,[.nils,.i 0,.nils,.nils,.nils]),(3,(zag x12))] [] [] (hc (zen h22) .nil) ?_;cases hF;refine zb0 2 0 60011 106 2 rfl rfl rfl rfl rfl ?_;refine zb0 2 3 60012 68 1 rfl rfl rfl rfl rfl ?_;refine za9 ⟨[],[(60011,52),(60012,124)],[],[]⟩ rfl ?_;exact Wz [(52,⟨0,true,true,true⟩)] hfin
       ·refine Wk_coeB 2 [.sl 2 (([]:List Note).map zar),.i 0,.sl 5 (([]:Cs).map zab),.sl 1 (([]:List Cs).map za1),.sl 5 (([]:Cs).map zab)] rfl (.cons (CoeS.nils 2) (.cons (CoeS.refl _) (.cons (CoeS.nils 5) (.cons (CoeS.nils 1) (.cons (CoeS.nils 5) .nil))))) ?_;exact zfr (t0,(⟨([]:List Note),0,([]:Cs),([]:List Cs),([]:Cs)⟩:Inside),(⟨0,0⟩:Fault),(zad x4.1 (w64 ((x4.1.length:Int) - 1))).Seq) [] hF
      ·refine Wk_coeB 2 [.sl 2 (([]:List Note).map zar),.i 0,.sl 5 (([]:Cs).map zab),.sl 1 (([]:List Cs).map za1),.sl 5 (([]:Cs).map zab)] rfl (.cons (CoeS.nils 2) (.cons (CoeS.refl _) (.cons (CoeS.nils 5) (.cons (CoeS.nils 1) (.cons (CoeS.nils 5) .nil))))) ?_;exact zfr (t0,(⟨([]:List Note),0,([]:Cs),([]:List Cs),([]:Cs)⟩:Inside),(⟨0,0⟩:Fault),t0.Done) [] hF
     ·intro v hF;unfold zir at hF;refine VR [] [1,2,3,5,7,8] [1,2,3,7] [52] [] [(1,.ptr 1 0),(2,.ptr 2 0),(3,.ptr 3 0),(5,.row 52 0),(7,.ptr 7 0),(8,.i 0)] [(1,(zdo v.1)),(2,(c_Inside v.2.1)),(3,(zag v.2.2.1)),(7,[.row 52 0,.i v.2.2.2,.nils,.nils,.nils])] [(52,.z 106 2 0 (x4.1.map zar))] [] .nil ?_;refine NmS (fun v1=>zkg x4 v v1=some r) (fun Z v1=>Z.up [1,2,3,5,7] [1,2,3,7] [52,124] [] [] [(1,(zdo v1.1)),(2,(c_Inside v1.2.1)),(3,(zag v1.2.2.1)),(7,[.row 52 0,.i v.2.2.2,.nils,.row 124 0,.nils])] [(124,.z 68 1 0 (v1.2.2.2.map za1))] []) ?_ ?_
      ·refine zdb ?_;unfold zn2 at hF;refine zb0 7 3 60008 68 1 rfl rfl rfl rfl rfl ?_;refine zd9 (fs:=[1,2,3,5,7,8]) (bs:=[1,2,3,7]) (rs:=[52,60008]) (ms:=[]) (aa:=[]) (nv:=[]) rfl ?_;refine za9 ⟨[],[(60008,124)],[],[]⟩ rfl ?_;refine Nitr hF [] (fun v2=>⟨[(1,.ptr 1 0),(2,.ptr 2 0),(3,.ptr 3 0),(5,.row 52 0),(7,.ptr 7 0),(8,.i v2.2.2.2.2)],[(1,(zdo v2.1)),(2,(c_Inside v2.2.1)),(3,(zag v2.2.2.1)),(7,[.row 52 0,.i v.2.2.2,.nils,.row 124 0,.nils])],[(52,.z 106 2 0 (x4.1.map zar)),(124,.z 68 1 0 (v2.2.2.2.1.map za1))],[],[]⟩) ?_;intro n1 v2 y1 hF ih1 dn1;unfold zik at hF;refine RJ (.l zal v2.1.Files .z) ?_;refine Nif hF ?_ ?_ <;> intro hb hF
       ·refine zdb ?_;have⟨h13,hF⟩:=aE hF;have⟨x10,h14,hF⟩:=oE hF;have p15:=(Pe.ren (R_OpenedFile_ok h14) ⟨[],[(147,108),(152,20108)],[],[]⟩);refine RJ (.i zal h13 (.e [] [] p15 .z)) ?_;refine LR0 ?_;refine Nif hF ?_ ?_ <;> intro hb hF
        ·have⟨x11,h16,hF⟩:=lS hF;refine VR [.callB (.agg (zag x11))] [2,3] [2,3] [] [] [(2,.ptr 2 0),(3,.ptr 3 0)] [(2,[.nils,.i 0,.nils,.nils,.nils]),(3,(zag x11))] [] [] (hc (zen h16) .nil) ?_;have hF:=zde hF dn1;cases hF;refine zb0 2 0 60009 106 2 rfl rfl rfl rfl rfl ?_;refine zb0 2 3 60010 68 1 rfl rfl rfl rfl rfl ?_;refine za9 ⟨[],[(60009,52),(60010,124)],[],[]⟩ rfl ?_;exact Wz [(52,⟨0,true,true,true⟩)] hfin
        ·have⟨h17,hF⟩:=aE hF;refine RJ (.a (.sealed) (.p za1 h17 .z)) ?_;refine LR0 ?_;exact zg1 [(124,⟨0,true,true,false⟩)] hF ih1
       ·refine zcp rfl ?_;have hF:=zak hF dn1;exact zfr (v2.1,v2.2.1,v2.2.2.1,v2.2.2.2.1) [] hF
      ·intro v1 hF;unfold zkg at hF;have⟨x6,h7,hF⟩:=oE hF;have p8:=(Pe.ren (R_Above_ok h7) ⟨[],[(26,129)],[],[]⟩);have⟨x7,h9,hF⟩:=oE hF;refine RJ (.e [] [] p8 (.c (R_PutNotes_ok h9) .z)) ?_;have⟨h10,hF⟩:=aE hF;have⟨x8,h11,hF⟩:=oE hF;refine RJ (.p za1 h10 (.c (R_Together_ok h11) .z)) ?_;have⟨x9,h12,hF⟩:=lS hF;refine DJ (.b (R_Heavy_ok h12) .z) ?_;cases hF;exact Wz [] hfin

/- tabularyref.SeenCell -/
def zfd (l:Cs)(v:Cell×Int):Option (Cell×Bool):=
 zao ((!(decide (v.2<0)))=true->0<=v.2/\v.2<(l.length:Int)) <|
 if ((decide (v.2<0))||((zad l v.2).Gone))=true then
  some ((⟨([]:B8),([]:B8),0,false,([]:B8)⟩:Cell),false)
 else
  zao (0<=v.2/\v.2<(l.length:Int)) <|
  some ((⟨(zad l v.2).Row,(zad l v.2).Col,(zad l v.2).Time,(zad l v.2).Gone,(zad l v.2).Value⟩:Cell),true)
def zh7 (l:Cs)(row col:B8)(time:Int)(v1:Cell×Int×Int):Option ((Cell×Int×Int)⊕(Cell×Bool)):=
 if (decide (v1.2.2<(l.length:Int)))=true then
  zao (0<=v1.2.2/\v1.2.2<(l.length:Int)) <|
  zao ((decide (((zad l v1.2.2).Row)=row))=true->0<=v1.2.2/\v1.2.2<(l.length:Int)) <|
  zao (((decide (((zad l v1.2.2).Row)=row))&&(decide (((zad l v1.2.2).Col)=col)))=true->0<=v1.2.2/\v1.2.2<(l.length:Int)) <|
  zao ((!(decide (v1.2.1<0)))=true->(((decide (((zad l v1.2.2).Row)=row))&&(decide (((zad l v1.2.2).Col)=col)))&&(decide (((zad l v1.2.2).Time)<=time)))=true->0<=v1.2.2/\v1.2.2<(l.length:Int)) <|
  zao ((!(decide (v1.2.1<0)))=true->(((decide (((zad l v1.2.2).Row)=row))&&(decide (((zad l v1.2.2).Col)=col)))&&(decide (((zad l v1.2.2).Time)<=time)))=true->0<=v1.2.1/\v1.2.1<(l.length:Int)) <|
  ob (
   if ((((decide (((zad l v1.2.2).Row)=row))&&(decide (((zad l v1.2.2).Col)=col)))&&(decide (((zad l v1.2.2).Time)<=time)))&&((decide (v1.2.1<0))||(decide (((zad l v1.2.1).Time)<((zad l v1.2.2).Time)))))=true then
    some (v1.1,v1.2.2)
   else
    some (v1.1,v1.2.1)) fun v2=>
  some (Sum.inl (v2.1,v2.2,w64 (v1.2.2+1)))
 else
  zey (zfd l (v1.1,v1.2.1))
def zow (l:Cs)(row col:B8)(time:Int)(v0:Cell×Int×Int):Option (Cell×Bool):=
 zb7 (fun y=>zh7 l row col time y) v0
def R_SeenCell (l:Cs)(row col:B8)(time:Int):Option (Cell×Bool):=
 zow l row col time ((⟨([]:B8),([]:B8),0,false,([]:B8)⟩:Cell),(-1),0)
theorem R_SeenCell_ok {l row col time r}(hF:R_SeenCell l row col time=some r):Pe Tryz.prog 19 S.none [.sl 5 (l.map zab),.str row,.str col,.i time] (.tup [.agg (zfa r.1),.bool r.2]) S.none:=by
 refine PT 75 [.cell 8 75,.tmp 9] [75,4] Tryz.func19 ?_;intro Q g hfin;unfold R_SeenCell at hF;refine LR0 ?_;refine LR0 ?_;refine LR0 ?_;refine NmS (fun v=>zfd l v=some r) (fun Z v=>Z.up [0,8,10] [8] [] [] [(10,.i v.2)] [(8,(zfa v.1))] [] []) ?_ ?_
 ·refine zdb ?_;unfold zow at hF;refine znj hF [] (fun Z v1=>Z.up [0,1,2,3,8,10,11] [8] [] [] [(10,.i v1.2.1),(11,.i v1.2.2)] [(8,(zfa v1.1))] [] []) ?_;intro n1 v1 y1 hF ih1 dn1;unfold zh7 at hF;refine RJ (.l zab l .z) ?_;refine Nif hF ?_ ?_ <;> intro hb hF
  ·refine zdb ?_;have⟨h2,h3,h4,h5,hF⟩:=zj1 hF;have⟨h6,hF⟩:=aE hF;refine DJ (.i zab h2 (.a (.av (zab (zad l v1.2.2))) (.g (fun (ga0:(decide (((zad l v1.2.2).Row)=row))=true)=>(ze5 zab (h3 ga0))) (.a (.av (zab (zad l v1.2.2))) (.g (fun (ga0:((decide (((zad l v1.2.2).Row)=row))&&(decide (((zad l v1.2.2).Col)=col)))=true)=>(ze5 zab (h4 ga0))) (.a (.av (zab (zad l v1.2.2))) (.g (fun (ga0:(!(decide (v1.2.1<0)))=true) (ga1:(((decide (((zad l v1.2.2).Row)=row))&&(decide (((zad l v1.2.2).Col)=col)))&&(decide (((zad l v1.2.2).Time)<=time)))=true)=>(ze5 zab (h5 ga0 ga1))) (.a (.av (zab (zad l v1.2.1))) (.g (fun (ga0:(!(decide (v1.2.1<0)))=true) (ga1:(((decide (((zad l v1.2.2).Row)=row))&&(decide (((zad l v1.2.2).Col)=col)))&&(decide (((zad l v1.2.2).Time)<=time)))=true)=>(ze5 zab (h6 ga0 ga1))) .z))))))))) ?_;have⟨v2,hv,hF⟩:=oE hF;refine NmT (fun Z=>Z.up [0,1,2,3,8,10,11] [8] [] [] [(10,.i v2.2)] [(8,(zfa v2.1))] [] []) ?_ ?_
   ·have hF:=hv;refine Nif hF ?_ ?_ <;> intro hb hF
    ·refine LR0 ?_;cases hF;exact zmf []
    ·cases hF;exact zmf []
   ·refine LR0 ?_;exact zg1 [] hF ih1
  ·refine zcp rfl ?_;have hF:=zak hF dn1;exact zfr (v1.1,v1.2.1) [] hF
 ·intro v hF;unfold zfd at hF;have⟨h0,hF⟩:=aE hF;refine RJ (.a (.av (zab (zad l v.2))) (.g (fun (ga0:(!(decide (v.2<0)))=true)=>(ze5 zab (h0 ga0))) .z)) ?_;refine Nif hF ?_ ?_ <;> intro hb hF
  ·refine LR0 ?_;cases hF;exact Wz [] hfin
  ·have⟨h1,hF⟩:=aE hF;refine RJ (.i zab h1 .z) ?_;cases hF;exact Wz [] hfin

/- tabularyref.Num -/
def R_Num (num:Int):Bool:=
 (decide (0<=num))&&(decide (num<=1000000000))
theorem R_Num_ok {num r}(hF:R_Num num=r):Pe Tryz.prog 44 S.none [.i num] (.bool r) S.none:=by
 refine PT 9 [.tmp 2] [4] Tryz.func44 ?_;intro Q g hfin;unfold R_Num at hF;refine LR0 ?_;refine LR0 ?_;cases hF;exact Wz [] hfin

/- tabularyref.One -/
def R_One (num:Int):Bool:=
 lt (R_Num num) fun x=>
 (decide (0<num))&&x
theorem R_One_ok {num r}(hF:R_One num=r):Pe Tryz.prog 21 S.none [.i num] (.bool r) S.none:=by
 refine PT 9 [.tmp 2] [4] Tryz.func21 ?_;intro Q g hfin;unfold R_One at hF;refine LR0 ?_;have⟨x,h0,hF⟩:=lS hF;refine RJ (.a (.callB (.bool x)) (.g (fun (ga0:(decide (0<num))=true)=>(R_Num_ok h0)) .z)) ?_;cases hF;exact Wz [] hfin

/- tabularyref.Digits -/
def zhw (rec:Int->Option B8)(num:Int):Option B8:=
 if (decide (num<10))=true then
  some ([zfq (w64 (48+num))]:B8)
 else
  ob (rec (w64 (Int.tdiv num 10))) fun x=>
  ob (rec (Int.tmod num 10)) fun x1=>
  zao ((x.length:Int)+x1.length<=9223372036854775807) <|
  some (x++x1)
def R_Digits (num:Int):Option B8:=recO (fun rec (x:Int)=>zhw rec x) num
theorem R_Digits_ok {num r}(hF:R_Digits num=some r):Pe Tryz.prog 22 S.none [.i num] (.str r) S.none:=by
 have key:∀ (k:Nat) (x:Int) (r:B8),fuelO (fun rec (x:Int)=>zhw rec x) k x=some r->Pe Tryz.prog 22 S.none [.i x] (.str r) S.none:=by
  intro k
  induction k with
  | zero=>intro x r hF; cases hF
  | succ k ih=>
   intro x r hF;have hF:zhw (fuelO (fun rec (x:Int)=>zhw rec x) k) x=some r:=hF;generalize fuelO (fun rec (x:Int)=>zhw rec x) k=rec at ih hF;revert hF;generalize x=num;intro hF;refine PT 17 [.tmp 2] [9] Tryz.func22 ?_;intro Q g hfin;unfold zhw at hF;refine LR0 ?_;refine LR0 ?_;refine Nif hF ?_ ?_ <;> intro hb hF
   ·refine RJ (.a (.sealed) (.a (.str ([zfq (w64 (48+num))]:B8)) (.g (u8s_ok ([zfq (w64 (48+num))]:B8)) .z))) ?_;cases hF;exact Wz [] hfin
   ·have⟨x,h0,hF⟩:=oE hF;have⟨x1,h1,hF⟩:=oE hF;have⟨h2,hF⟩:=aE hF;refine RJ (.g (by decide:(10:Int)≠0) (.b (ih (w64 (Int.tdiv num 10)) x h0) (.g (by decide:(10:Int)≠0) (.b (ih (Int.tmod num 10) x1 h1) (.g (cat_ok h2) .z))))) ?_;cases hF;exact Wz [] hfin
 have⟨k,hF⟩:=recO_elim hF;exact key k _ r hF

/- tabularyref.NumberIn -/
def zfk (v:Fault×Fault×Cell×Int):Option (Int×Fault):=
 lt (R_One v.2.2.2) fun x2=>
 ob (if (!(!x2))=true then (R_Digits v.2.2.2) else some default) fun x3=>
 if ((!x2)||(!decide (x3=v.2.2.1.Value)))=true then
  lt (R_F 5 0) fun x4=>
  some (0,x4)
 else
  some (v.2.2.2,v.2.1)
def zdw (v1:Fault×Fault×Cell×Int×Int):Option ((Fault×Fault×Cell×Int×Int)⊕(Int×Fault)):=
 if ((decide (v1.2.2.2.2<(v1.2.2.1.Value.length:Int)))&&(decide (v1.2.2.2.2<11)))=true then
  zao (0<=v1.2.2.2.2/\v1.2.2.2.2<(v1.2.2.1.Value.length:Int)) <|
  zao ((!(decide (((zad v1.2.2.1.Value v1.2.2.2.2).toNat:Int)<((48:UInt8).toNat:Int))))=true->0<=v1.2.2.2.2/\v1.2.2.2.2<(v1.2.2.1.Value.length:Int)) <|
  if ((decide (((zad v1.2.2.1.Value v1.2.2.2.2).toNat:Int)<((48:UInt8).toNat:Int)))||(decide (((57:UInt8).toNat:Int)<((zad v1.2.2.1.Value v1.2.2.2.2).toNat:Int))))=true then
   lt (R_F 5 0) fun x5=>
   some (Sum.inr (0,x5))
  else
   zao (0<=v1.2.2.2.2/\v1.2.2.2.2<(v1.2.2.1.Value.length:Int)) <|
   lt (w64 ((w64 (v1.2.2.2.1*10))+(w64 ((zfq (((zad v1.2.2.1.Value v1.2.2.2.2).toNat:Int) - ((48:UInt8).toNat:Int))).toNat:Int)))) fun v2=>
   some (Sum.inl (v1.1,v1.2.1,v1.2.2.1,v2,w64 (v1.2.2.2.2+1)))
 else
  zey (zfk (v1.1,v1.2.1,v1.2.2.1,v1.2.2.2.1))
def zfl (v0:Fault×Fault×Cell×Int×Int):Option (Int×Fault):=
 zb7 (fun y=>zdw y) v0
def znf (t0:Tablet)(row:B8):Option (Int×Fault):=
 ob (zmw t0) fun x=>
 if (!decide (x.2.2.2.2.2.Code=0))=true then
  some (0,x.2.2.2.2.2)
 else
  ob (R_SeenCell x.2.2.2.2.1 row ([]:B8) 1000000000) fun x1=>
  if (!x1.2)=true then
   some (0,x.2.2.2.2.2)
  else
   zfl ((⟨0,0⟩:Fault),x.2.2.2.2.2,x1.1,0,0)
theorem R_NumberIn_ok {t0 row r}(hF:znf t0 row=some r):Pe Tryz.prog 8 S.none [.agg (zdo t0),.str row] (.tup [.i r.1,.agg (zag r.2)]) S.none:=by
 refine PT 77 [.tmp 4,.cell 5 32] [3,32] Tryz.func8 ?_;intro Q g hfin;unfold znf at hF;refine LR0 ?_;have⟨x,h0,hF⟩:=oE hF;have p1:=(Pe.ren (R_InsideOf_ok h0) ⟨[],[(52,14),(124,20014)],[],[]⟩);refine RJ (.e [] [] p1 .z) ?_;refine LR0 ?_;refine Nif hF ?_ ?_ <;> intro hb hF
 ·refine LD0 ?_;cases hF;exact Wz [] hfin
 ·have⟨x1,h2,hF⟩:=oE hF;refine RJ (.b (R_SeenCell_ok h2) .z) ?_;refine LR0 ?_;refine Nif hF ?_ ?_ <;> intro hb hF
  ·refine LD0 ?_;cases hF;exact Wz [] hfin
  ·refine LR0 ?_;refine LR0 ?_;refine NmS (fun v=>zfk v=some r) (fun Z v=>Z.up [5,7,8,10] [5,7,8] [] [] [(10,.i v.2.2.2)] [(5,(zag v.1)),(7,(zag v.2.1)),(8,(zfa v.2.2.1))] [] []) ?_ ?_
   ·refine zdb ?_;unfold zfl at hF;refine znj hF [] (fun Z v1=>Z.up [5,7,8,10,11] [5,7,8] [] [] [(10,.i v1.2.2.2.1),(11,.i v1.2.2.2.2)] [(5,(zag v1.1)),(7,(zag v1.2.1)),(8,(zfa v1.2.2.1))] [] []) ?_;intro n1 v1 y1 hF ih1 dn1;unfold zdw at hF;refine LR0 ?_;refine Nif hF ?_ ?_ <;> intro hb hF
    ·refine zdb ?_;have⟨h6,h7,hF⟩:=zhi hF;refine RJ (.u h6 (.a (.u8 (zad v1.2.2.1.Value v1.2.2.2.2)) (.g (fun (ga0:(!(decide (((zad v1.2.2.1.Value v1.2.2.2.2).toNat:Int)<((48:UInt8).toNat:Int))))=true)=>(idxS_ok (h7 ga0))) .z))) ?_;refine Nif hF ?_ ?_ <;> intro hb hF
     ·have⟨x5,h8,hF⟩:=lS hF;refine RJ (.b (zen h8) .z) ?_;have hF:=zde hF dn1;cases hF;exact Wz [] hfin
     ·have⟨h9,hF⟩:=aE hF;refine NRL (w64 ((w64 (v1.2.2.2.1*10))+(w64 ((zfq (((zad v1.2.2.1.Value v1.2.2.2.2).toNat:Int) - ((48:UInt8).toNat:Int))).toNat:Int)))) (fun v2:Int=>([(10,.i v2)],[],[],[])) [.u8 (zad v1.2.2.1.Value v1.2.2.2.2)] [5,7,8,10,11] [5,7,8] [] [] (hc (idxS_ok h9) .nil) (fun v2 hv=>?_);have hF:=zei hF hv;refine LR0 ?_;exact zg1 [] hF ih1
    ·refine zcp rfl ?_;have hF:=zak hF dn1;exact zfr (v1.1,v1.2.1,v1.2.2.1,v1.2.2.2.1) [] hF
   ·intro v hF;unfold zfk at hF;have⟨x2,h3,hF⟩:=lS hF;have⟨x3,h4,hF⟩:=oE hF;refine DJ (.b (R_One_ok h3) (.a (.callB (.str x3)) (.g (fun (ga0:(!(!x2))=true)=>(R_Digits_ok (ite_t h4 ga0))) .z))) ?_;refine Nif hF ?_ ?_ <;> intro hb hF
    ·have⟨x4,h5,hF⟩:=lS hF;refine RJ (.b (zen h5) .z) ?_;cases hF;exact Wz [] hfin
    ·refine LD0 ?_;cases hF;exact Wz [] hfin

/- tabularyref.SameDisk -/
def zmr (a0 b:Disk):Bool:=
 lt (zju a0.Bytes b.Bytes) fun x=>
 (decide (a0.Kept=b.Kept))&&x
theorem R_SameDisk_ok {a0 b r}(hF:zmr a0 b=r):Pe Tryz.prog 23 S.none [.agg (c_Disk a0),.agg (c_Disk b)] (.bool r) S.none:=by
 refine PT 17 [.tmp 4] [4] Tryz.func23 ?_;intro Q g hfin;unfold zmr at hF;refine LR0 ?_;have⟨x,h0,hF⟩:=lS hF;refine RJ (.a (.callB (.bool x)) (.g (fun (ga0:(decide (a0.Kept=b.Kept))=true)=>(R_Same_ok h0)) .z)) ?_;cases hF;exact Wz [] hfin

/- tabularyref.SameBodies -/
def zid (v:Unit):Option Bool:=
 some true
def zf8 (a0 b:B9)(v1:Int):Option (Int⊕Bool):=
 if (decide (v1<(a0.length:Int)))=true then
  zao (0<=v1/\v1<(a0.length:Int)) <|
  zao (0<=v1/\v1<(b.length:Int)) <|
  lt (zju (zad a0 v1) (zad b v1)) fun x=>
  if (!x)=true then
   some (Sum.inr false)
  else
   some (Sum.inl (w64 (v1+1)))
 else
  zey (zid ())
def zlk (a0 b:B9)(v0:Int):Option Bool:=
 zb7 (fun y=>zf8 a0 b y) v0
def zjk (a0 b:B9):Option Bool:=
 if (!decide ((a0.length:Int)=(b.length:Int)))=true then
  some false
 else
  zlk a0 b 0
theorem R_SameBodies_ok {a0 b r}(hF:zjk a0 b=some r):Pe Tryz.prog 24 S.none [.sl 1 (a0.map zal),.sl 1 (b.map zal)] (.bool r) S.none:=by
 refine PT 27 [.tmp 4] [4] Tryz.func24 ?_;intro Q g hfin;unfold zjk at hF;refine LR0 ?_;refine RJ (.l zal a0 (.l zal b .z)) ?_;refine Nif hF ?_ ?_ <;> intro hb hF
 ·refine LR0 ?_;cases hF;exact Wz [] hfin
 ·refine LR0 ?_;refine NmQ (fun v=>zid v=some r) (fun v=>(.w [])) ?_ ?_
  ·refine zdb ?_;unfold zlk at hF;refine znj hF [] (fun Z v1=>Z.up [0,1,5] [] [] [] [(5,.i v1)] [] [] []) ?_;intro n1 v1 y1 hF ih1 dn1;unfold zf8 at hF;refine RJ (.l zal a0 .z) ?_;refine Nif hF ?_ ?_ <;> intro hb hF
   ·refine zdb ?_;have⟨h0,h1,hF⟩:=zhi hF;have⟨x,h2,hF⟩:=lS hF;refine DJ (.i zal h0 (.i zal h1 (.b (R_Same_ok h2) .z))) ?_;refine Nif hF ?_ ?_ <;> intro hb hF
    ·refine LR0 ?_;have hF:=zde hF dn1;cases hF;exact Wz [] hfin
    ·refine LR0 ?_;exact zg1 [] hF ih1
   ·refine zcp rfl ?_;have hF:=zak hF dn1;exact zfr () [] hF
  ·intro v hF;unfold zid at hF;refine LR0 ?_;cases hF;exact Wz [] hfin

/- tabularyref.SameTablet -/
def zjh (a0 b:Tablet):Option Bool:=
 lt (zmr a0.Log b.Log) fun x=>
 ob (if x=true then (zjk a0.Files b.Files) else some default) fun x1=>
 lt (((x&&x1)&&(decide (a0.Done=b.Done)))&&(decide (a0.Since=b.Since))) fun v=>
 some v
theorem R_SameTablet_ok {a0 b r}(hF:zjh a0 b=some r):Pe Tryz.prog 9 S.none [.agg (zdo a0),.agg (zdo b)] (.bool r) S.none:=by
 refine PT 31 [.tmp 4] [4] Tryz.func9 ?_;intro Q g hfin;unfold zjh at hF;refine LR0 ?_;have⟨x,h0,hF⟩:=lS hF;have⟨x1,h1,hF⟩:=oE hF;refine NRL (((x&&x1)&&(decide (a0.Done=b.Done)))&&(decide (a0.Since=b.Since))) (fun v:Bool=>([(4,.bool v)],[],[],[])) [.callB (.bool x),.callB (.bool x1)] [4] [] [] [] (hc (R_SameDisk_ok h0) (hc (fun (ga0:x=true)=>(R_SameBodies_ok (ite_t h1 ga0))) .nil)) (fun v hv=>?_);have hF:=zei hF hv;cases hF;exact Wz [] hfin

/- tabularylaw.StoreNumbers -/
def zhb (t0:Tablet)(row:B8):Option Bool:=
 ob (zma) fun x=>
 if (!x)=true then
  some false
 else
  ob (zfw t0) fun x1=>
  if x1=true then
   some true
  else
   ob (zim t0) fun x2=>
   ob (zjm x2 row) fun x3=>
   ob (znf t0 row) fun x4=>
   ob (zjh x2 t0) fun x5=>
   lt ((x5&&(decide (x3.1=x4.1)))&&(decide (x3.2.Code=x4.2.Code)&&(decide (x3.2.At=x4.2.At)&&true))) fun v=>
   some v
theorem law_StoreNumbers_ok {t0 row r}(hF:zhb t0 row=some r):Pe Tryz.prog 3 S.none [.agg (zdo t0),.str row] (.bool r) S.none:=by
 refine PT 41 [.tmp 4] [4] Tryz.func3 ?_;intro Q g hfin;unfold zhb at hF;refine LR0 ?_;have⟨x,h0,hF⟩:=oE hF;refine RJ (.b (law_storeBegun_ok  x h0) .z) ?_;refine Nif hF ?_ ?_ <;> intro hb hF
 ·refine LR0 ?_;cases hF;exact Wz [] hfin
 ·have⟨x1,h1,hF⟩:=oE hF;refine RJ (.b (law_vastTablet_ok h1) .z) ?_;refine Nif hF ?_ ?_ <;> intro hb hF
  ·refine LR0 ?_;cases hF;exact Wz [] hfin
  ·have⟨x2,h2,hF⟩:=oE hF;refine RJ (.c (law_ownTablet_ok h2) .z) ?_;have⟨x3,h3,hF⟩:=oE hF;refine RJ (.b (store_Number_ok h3) .z) ?_;have⟨x4,h4,hF⟩:=oE hF;refine RJ (.b (R_NumberIn_ok h4) .z) ?_;have⟨x5,h5,hF⟩:=oE hF;refine NRL ((x5&&(decide (x3.1=x4.1)))&&(decide (x3.2.Code=x4.2.Code)&&(decide (x3.2.At=x4.2.At)&&true))) (fun v:Bool=>([(4,.bool v)],[],[],[])) [.callB (.bool x5)] [4] [] [] [] (hc (R_SameTablet_ok h5) .nil) (fun v hv=>?_);have hF:=zei hF hv;cases hF;exact Wz [] hfin

end
end G
end Go.Proofs.YtgcndnddgajekaaGreatDoor
