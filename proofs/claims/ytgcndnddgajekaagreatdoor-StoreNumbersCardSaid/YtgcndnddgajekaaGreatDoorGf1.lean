/- The program's functions as plain functions, and that they are these. Written by a program (dec2.py). -/
import Derived.Test.YtgcndnddgajekaaGreatDoorGf0
namespace Go.Proofs.YtgcndnddgajekaaGreatDoor
open Go Go.Dm
set_option linter.unusedVariables false
set_option linter.unusedSimpArgs false
set_option maxRecDepth 100000
namespace G
noncomputable section
/- slices.symMergeCmpFunc[api.Cell] -/
def zc6 (v1:Cs):Option Cs:=
 some v1
def zb4 (v:Int)(v2:Cs×Int):Option ((Cs×Int)⊕Cs):=
 if (decide (v2.2<(w64 (v - 1))))=true then
  zao (0<=w64 (v2.2+1)/\w64 (v2.2+1)<(v2.1.length:Int)) <|
  zao (0<=w64 (v2.2+1)/\w64 (v2.2+1)<(v2.1.length:Int)) <|
  zao (0<=v2.2/\v2.2<(v2.1.length:Int)) <|
  zao (0<=v2.2/\v2.2<(v2.1.length:Int)) <|
  zao (0<=v2.2/\v2.2<(v2.1.length:Int)) <|
  zao (0<=v2.2/\v2.2<(v2.1.length:Int)) <|
  zao (0<=w64 (v2.2+1)/\w64 (v2.2+1)<((zmc v2.1 v2.2 (⟨(zad v2.1 (w64 (v2.2+1))).Row,(zad v2.1 (w64 (v2.2+1))).Col,(zad v2.1 (w64 (v2.2+1))).Time,(zad v2.1 (w64 (v2.2+1))).Gone,(zad v2.1 (w64 (v2.2+1))).Value⟩:Cell)).length:Int)) <|
  zao (0<=w64 (v2.2+1)/\w64 (v2.2+1)<((zmc v2.1 v2.2 (⟨(zad v2.1 (w64 (v2.2+1))).Row,(zad v2.1 (w64 (v2.2+1))).Col,(zad v2.1 (w64 (v2.2+1))).Time,(zad v2.1 (w64 (v2.2+1))).Gone,(zad v2.1 (w64 (v2.2+1))).Value⟩:Cell)).length:Int)) <|
  lt ((zmc (zmc v2.1 v2.2 (⟨(zad v2.1 (w64 (v2.2+1))).Row,(zad v2.1 (w64 (v2.2+1))).Col,(zad v2.1 (w64 (v2.2+1))).Time,(zad v2.1 (w64 (v2.2+1))).Gone,(zad v2.1 (w64 (v2.2+1))).Value⟩:Cell)) (w64 (v2.2+1)) (⟨(zad v2.1 v2.2).Row,(zad v2.1 v2.2).Col,(zad v2.1 v2.2).Time,(zad v2.1 v2.2).Gone,(zad v2.1 v2.2).Value⟩:Cell))) fun v3=>
  some (Sum.inl (v3,w64 (v2.2+1)))
 else
  zey (zc6 v2.1)
def zc3 (v:Int)(v0:Cs×Int):Option Cs:=
 zb7 (fun y=>zb4 v y) v0
def zbh (a0:Int)(row:Cs)(v:Int):Option Cs:=
 zc3 v (row,a0)
def zbg (a0:Int)(row:Cs)(v4:Int×Int):Option ((Int×Int)⊕Cs):=
 if (decide (v4.1<v4.2))=true then
  lt (w64 (Int.fdiv (IntKind.u64.wrap (w64 (v4.1+v4.2))) (2 ^ (min (1:Int).toNat 64)))) fun v5=>
  zao (0<=v5/\v5<(row.length:Int)) <|
  zao (0<=v5/\v5<(row.length:Int)) <|
  zao (0<=a0/\a0<(row.length:Int)) <|
  zao (0<=a0/\a0<(row.length:Int)) <|
  ob (zej (⟨(zad row v5).Row,(zad row v5).Col,(zad row v5).Time,(zad row v5).Gone,(zad row v5).Value⟩:Cell) (⟨(zad row a0).Row,(zad row a0).Col,(zad row a0).Time,(zad row a0).Gone,(zad row a0).Value⟩:Cell)) fun x=>
  if (decide (x<0))=true then
   some (Sum.inl (w64 (v5+1),v4.2))
  else
   some (Sum.inl (v4.1,v5))
 else
  zey (zbh a0 row v4.1)
def zc4 (a0:Int)(row:Cs)(v0:Int×Int):Option Cs:=
 zb7 (fun y=>zbg a0 row y) v0
def zcz (v7:Cs):Option Cs:=
 some v7
def zb5 (v6:Int)(v8:Cs×Int):Option ((Cs×Int)⊕Cs):=
 if (decide (v6<v8.2))=true then
  zao (0<=w64 (v8.2 - 1)/\w64 (v8.2 - 1)<(v8.1.length:Int)) <|
  zao (0<=w64 (v8.2 - 1)/\w64 (v8.2 - 1)<(v8.1.length:Int)) <|
  zao (0<=v8.2/\v8.2<(v8.1.length:Int)) <|
  zao (0<=v8.2/\v8.2<(v8.1.length:Int)) <|
  zao (0<=v8.2/\v8.2<(v8.1.length:Int)) <|
  zao (0<=v8.2/\v8.2<(v8.1.length:Int)) <|
  zao (0<=w64 (v8.2 - 1)/\w64 (v8.2 - 1)<((zmc v8.1 v8.2 (⟨(zad v8.1 (w64 (v8.2 - 1))).Row,(zad v8.1 (w64 (v8.2 - 1))).Col,(zad v8.1 (w64 (v8.2 - 1))).Time,(zad v8.1 (w64 (v8.2 - 1))).Gone,(zad v8.1 (w64 (v8.2 - 1))).Value⟩:Cell)).length:Int)) <|
  zao (0<=w64 (v8.2 - 1)/\w64 (v8.2 - 1)<((zmc v8.1 v8.2 (⟨(zad v8.1 (w64 (v8.2 - 1))).Row,(zad v8.1 (w64 (v8.2 - 1))).Col,(zad v8.1 (w64 (v8.2 - 1))).Time,(zad v8.1 (w64 (v8.2 - 1))).Gone,(zad v8.1 (w64 (v8.2 - 1))).Value⟩:Cell)).length:Int)) <|
  lt ((zmc (zmc v8.1 v8.2 (⟨(zad v8.1 (w64 (v8.2 - 1))).Row,(zad v8.1 (w64 (v8.2 - 1))).Col,(zad v8.1 (w64 (v8.2 - 1))).Time,(zad v8.1 (w64 (v8.2 - 1))).Gone,(zad v8.1 (w64 (v8.2 - 1))).Value⟩:Cell)) (w64 (v8.2 - 1)) (⟨(zad v8.1 v8.2).Row,(zad v8.1 v8.2).Col,(zad v8.1 v8.2).Time,(zad v8.1 v8.2).Gone,(zad v8.1 v8.2).Value⟩:Cell))) fun v9=>
  some (Sum.inl (v9,w64 (v8.2 - 1)))
 else
  zey (zcz v8.1)
def zc2 (v6:Int)(v0:Cs×Int):Option Cs:=
 zb7 (fun y=>zb5 v6 y) v0
def zbj (m:Int)(row:Cs)(v6:Int):Option Cs:=
 zc2 v6 (row,m)
def zbf (m:Int)(row:Cs)(v10:Int×Int):Option ((Int×Int)⊕Cs):=
 if (decide (v10.1<v10.2))=true then
  lt (w64 (Int.fdiv (IntKind.u64.wrap (w64 (v10.1+v10.2))) (2 ^ (min (1:Int).toNat 64)))) fun v11=>
  zao (0<=m/\m<(row.length:Int)) <|
  zao (0<=m/\m<(row.length:Int)) <|
  zao (0<=v11/\v11<(row.length:Int)) <|
  zao (0<=v11/\v11<(row.length:Int)) <|
  ob (zej (⟨(zad row m).Row,(zad row m).Col,(zad row m).Time,(zad row m).Gone,(zad row m).Value⟩:Cell) (⟨(zad row v11).Row,(zad row v11).Col,(zad row v11).Time,(zad row v11).Gone,(zad row v11).Value⟩:Cell)) fun x1=>
  if (!(decide (x1<0)))=true then
   some (Sum.inl (w64 (v11+1),v10.2))
  else
   some (Sum.inl (v10.1,v11))
 else
  zey (zbj m row v10.1)
def zc1 (m:Int)(row:Cs)(v0:Int×Int):Option Cs:=
 zb7 (fun y=>zbf m row y) v0
def zaz (a0 m b:Int)(row:Cs)(rec:(Int×Int×Int×Cs)->Option Cs)(v12 v14:Int):Option Cs:=
 ob (
  if ((decide (v14<m))&&(decide (m<(w64 ((w64 (v12+m)) - v14)))))=true then
   ob (zbl v14 m (w64 ((w64 (v12+m)) - v14)) row) fun x2=>
   some x2
  else
   some row) fun v15=>
 ob (
  if ((decide (a0<v14))&&(decide (v14<v12)))=true then
   ob (rec (a0,v14,v12,v15)) fun x3=>
   some x3
  else
   some v15) fun v16=>
 if ((decide (v12<(w64 ((w64 (v12+m)) - v14))))&&(decide ((w64 ((w64 (v12+m)) - v14))<b)))=true then
  ob (rec (v12,w64 ((w64 (v12+m)) - v14),b,v16)) fun x4=>
  some x4
 else
  some v16
def zbi (a0 m b:Int)(row:Cs)(rec:(Int×Int×Int×Cs)->Option Cs)(v12:Int)(v17:Int×Int):Option ((Int×Int)⊕Cs):=
 if (decide (v17.1<v17.2))=true then
  lt (w64 (Int.fdiv (IntKind.u64.wrap (w64 (v17.1+v17.2))) (2 ^ (min (1:Int).toNat 64)))) fun v18=>
  zao (0<=w64 ((w64 ((w64 (v12+m)) - 1)) - v18)/\w64 ((w64 ((w64 (v12+m)) - 1)) - v18)<(row.length:Int)) <|
  zao (0<=w64 ((w64 ((w64 (v12+m)) - 1)) - v18)/\w64 ((w64 ((w64 (v12+m)) - 1)) - v18)<(row.length:Int)) <|
  zao (0<=v18/\v18<(row.length:Int)) <|
  zao (0<=v18/\v18<(row.length:Int)) <|
  ob (zej (⟨(zad row (w64 ((w64 ((w64 (v12+m)) - 1)) - v18))).Row,(zad row (w64 ((w64 ((w64 (v12+m)) - 1)) - v18))).Col,(zad row (w64 ((w64 ((w64 (v12+m)) - 1)) - v18))).Time,(zad row (w64 ((w64 ((w64 (v12+m)) - 1)) - v18))).Gone,(zad row (w64 ((w64 ((w64 (v12+m)) - 1)) - v18))).Value⟩:Cell) (⟨(zad row v18).Row,(zad row v18).Col,(zad row v18).Time,(zad row v18).Gone,(zad row v18).Value⟩:Cell)) fun x5=>
  if (!(decide (x5<0)))=true then
   some (Sum.inl (w64 (v18+1),v17.2))
  else
   some (Sum.inl (v17.1,v18))
 else
  zey (zaz a0 m b row rec v12 v17.1)
def zbk (a0 m b:Int)(row:Cs)(rec:(Int×Int×Int×Cs)->Option Cs)(v12:Int)(v0:Int×Int):Option Cs:=
 zb7 (fun y=>zbi a0 m b row rec v12 y) v0
def zah (rec:(Int×Int×Int×Cs)->Option Cs)(a0 m b:Int)(row:Cs):Option Cs:=
 if (decide ((w64 (m - a0))=1))=true then
  zc4 a0 row (m,b)
 else
  if (decide ((w64 (b - m))=1))=true then
   zc1 m row (a0,m)
  else
   lt (w64 (Int.fdiv (IntKind.u64.wrap (w64 (a0+b))) (2 ^ (min (1:Int).toNat 64)))) fun v12=>
   ob (
    if (decide (v12<m))=true then
     some (w64 ((w64 (v12+m)) - b),v12)
    else
     some (a0,m)) fun v13=>
   zbk a0 m b row rec v12 (v13.1,v13.2)
def zby (a0 m b:Int)(row:Cs):Option Cs:=recO (fun rec (x:Int×Int×Int×Cs)=>zah rec x.1 x.2.1 x.2.2.1 x.2.2.2) (a0,m,b,row)
theorem zd5 (rk rc:Nat)(rn:Bool){a0 m b row r}(hF:zby a0 m b row=some r):Pe Tryz.prog 193 (.w [(100000,.q 75 5 0 0 rc rn (row.map zab))]) [.row 100000 0,.i a0,.i m,.i b,.fn 54 []] (.tup []) (.w [(100000,.q 75 5 0 0 rc rn (r.map zab))]):=by
 have key:∀ (k:Nat) (x:Int×Int×Int×Cs) (rk:Nat) (rc:Nat) (rn:Bool) (r:Cs),fuelO (fun rec (x:Int×Int×Int×Cs)=>zah rec x.1 x.2.1 x.2.2.1 x.2.2.2) k x=some r->Pe Tryz.prog 193 (.w [(100000,.q 75 5 0 0 rc rn (x.2.2.2.map zab))]) [.row 100000 0,.i x.1,.i x.2.1,.i x.2.2.1,.fn 54 []] (.tup []) (.w [(100000,.q 75 5 0 0 rc rn (r.map zab))]):=by
  intro k
  induction k with
  | zero=>intro x rk rc rn r hF; cases hF
  | succ k ih=>
   intro x rk rc rn r hF;have hF:zah (fuelO (fun rec (x:Int×Int×Int×Cs)=>zah rec x.1 x.2.1 x.2.2.1 x.2.2.2) k) x.1 x.2.1 x.2.2.1 x.2.2.2=some r:=hF;generalize fuelO (fun rec (x:Int×Int×Int×Cs)=>zah rec x.1 x.2.1 x.2.2.1 x.2.2.2) k=rec at ih hF;obtain ⟨a0,m,b,row⟩:=x;simp only at hF ⊢;refine PT 220 [] [] Tryz.func193 ?_;intro Q g hfin;unfold zah at hF;refine LR0 ?_;refine Nif hF ?_ ?_ <;> intro hb hF
   ·refine LR0 ?_;refine LR0 ?_;refine NmS (fun v=>zbh a0 row v=some r) (fun Z v=>Z.up [0,1,10] [] [100000] [] [(10,.i v)] [] [] []) ?_ ?_
    ·refine zdb ?_;unfold zc4 at hF;refine znj hF [] (fun Z v4=>Z.up [0,1,4,10,11] [] [100000] [] [(10,.i v4.1),(11,.i v4.2)] [] [] []) ?_;intro n1 v4 y1 hF ih1 dn1;unfold zbg at hF;refine LR0 ?_;refine Nif hF ?_ ?_ <;> intro hb hF
     ·refine zdb ?_;refine NRL (w64 (Int.fdiv (IntKind.u64.wrap (w64 (v4.1+v4.2))) (2 ^ (min (1:Int).toNat 64)))) (fun v5:Int=>([(12,.i v5)],[],[],[])) [] [0,1,4,10,11,12] [] [100000] [] (hc (by decide:(0:Int)<=1) .nil) (fun v5 hv=>?_);have hF:=zei hF hv;have⟨h8,h9,h10,h11,hF⟩:=zj1 hF;have⟨x,h12,hF⟩:=oE hF;refine DJ (.x zab h8 (.r zab h9 (.x zab h10 (.r zab h11 (.b (zeo h12) .z))))) ?_;refine Nif hF ?_ ?_ <;> intro hb hF
      ·refine LR0 ?_;exact zg1 [] hF ih1
      ·refine LR0 ?_;exact zg1 [] hF ih1
     ·refine zcp rfl ?_;have hF:=zak hF dn1;exact zfr v4.1 [] hF
    ·intro v hF;unfold zbh at hF;refine LR0 ?_;refine NmQ (fun v1=>zc6 v1=some r) (fun v1=>(.w [(100000,.q 75 5 0 0 rc rn (v1.map zab))])) ?_ ?_
     ·refine zdb ?_;unfold zc3 at hF;refine znj hF [] (fun Z v2=>Z.up [0,10,13] [] [100000] [] [(13,.i v2.2)] [] [(100000,.q 75 5 0 0 rc rn (v2.1.map zab))] []) ?_;intro n1 v2 y1 hF ih1 dn1;unfold zb4 at hF;refine LR0 ?_;refine Nif hF ?_ ?_ <;> intro hb hF
      ·refine zdb ?_;have⟨h0,h1,h2,h3,hF⟩:=zj1 hF;have⟨h4,h5,h6,h7,hF⟩:=zj1 hF;have⟨v3,hv,hF⟩:=lS hF;refine DJ (.x zab h0 (.r zab h1 (.x zab h2 (.r zab h3 (.x zab h4 (.w zab h5 (⟨(zad v2.1 (w64 (v2.2+1))).Row,(zad v2.1 (w64 (v2.2+1))).Col,(zad v2.1 (w64 (v2.2+1))).Time,(zad v2.1 (w64 (v2.2+1))).Gone,(zad v2.1 (w64 (v2.2+1))).Value⟩:Cell) (.x zab h6 (.wN zab h7 hv .z)))))))) ?_;refine LR0 ?_;exact zg1 [] hF ih1
      ·refine zcp rfl ?_;have hF:=zak hF dn1;exact zfr v2.1 [] hF
     ·intro v1 hF;unfold zc6 at hF;cases hF;exact Wz [] hfin
   ·refine LR0 ?_;refine Nif hF ?_ ?_ <;> intro hb hF
    ·refine LR0 ?_;refine LR0 ?_;refine NmS (fun v6=>zbj m row v6=some r) (fun Z v6=>Z.up [0,2,14] [] [100000] [] [(14,.i v6)] [] [] []) ?_ ?_
     ·refine zdb ?_;unfold zc1 at hF;refine znj hF [] (fun Z v10=>Z.up [0,2,4,14,15] [] [100000] [] [(14,.i v10.1),(15,.i v10.2)] [] [] []) ?_;intro n1 v10 y1 hF ih1 dn1;unfold zbf at hF;refine LR0 ?_;refine Nif hF ?_ ?_ <;> intro hb hF
      ·refine zdb ?_;refine NRL (w64 (Int.fdiv (IntKind.u64.wrap (w64 (v10.1+v10.2))) (2 ^ (min (1:Int).toNat 64)))) (fun v11:Int=>([(16,.i v11)],[],[],[])) [] [0,2,4,14,15,16] [] [100000] [] (hc (by decide:(0:Int)<=1) .nil) (fun v11 hv=>?_);have hF:=zei hF hv;have⟨h21,h22,h23,h24,hF⟩:=zj1 hF;have⟨x1,h25,hF⟩:=oE hF;refine DJ (.x zab h21 (.r zab h22 (.x zab h23 (.r zab h24 (.b (zeo h25) .z))))) ?_;refine Nif hF ?_ ?_ <;> intro hb hF
       ·refine LR0 ?_;exact zg1 [] hF ih1
       ·refine LR0 ?_;exact zg1 [] hF ih1
      ·refine zcp rfl ?_;have hF:=zak hF dn1;exact zfr v10.1 [] hF
     ·intro v6 hF;unfold zbj at hF;refine LR0 ?_;refine NmQ (fun v7=>zcz v7=some r) (fun v7=>(.w [(100000,.q 75 5 0 0 rc rn (v7.map zab))])) ?_ ?_
      ·refine zdb ?_;unfold zc2 at hF;refine znj hF [] (fun Z v8=>Z.up [0,14,17] [] [100000] [] [(17,.i v8.2)] [] [(100000,.q 75 5 0 0 rc rn (v8.1.map zab))] []) ?_;intro n1 v8 y1 hF ih1 dn1;unfold zb5 at hF;refine LR0 ?_;refine Nif hF ?_ ?_ <;> intro hb hF
       ·refine zdb ?_;have⟨h13,h14,h15,h16,hF⟩:=zj1 hF;have⟨h17,h18,h19,h20,hF⟩:=zj1 hF;have⟨v9,hv,hF⟩:=lS hF;refine DJ (.x zab h13 (.r zab h14 (.x zab h15 (.r zab h16 (.x zab h17 (.w zab h18 (⟨(zad v8.1 (w64 (v8.2 - 1))).Row,(zad v8.1 (w64 (v8.2 - 1))).Col,(zad v8.1 (w64 (v8.2 - 1))).Time,(zad v8.1 (w64 (v8.2 - 1))).Gone,(zad v8.1 (w64 (v8.2 - 1))).Value⟩:Cell) (.x zab h19 (.wN zab h20 hv .z)))))))) ?_;refine LR0 ?_;exact zg1 [] hF ih1
       ·refine zcp rfl ?_;have hF:=zak hF dn1;exact zfr v8.1 [] hF
      ·intro v7 hF;unfold zcz at hF;cases hF;exact Wz [] hfin
    ·refine NRL (w64 (Int.fdiv (IntKind.u64.wrap (w64 (a0+b))) (2 ^ (min (1:Int).toNat 64)))) (fun v12:Int=>([(18,.i v12)],[],[],[])) [] [0,1,2,3,4,18] [] [100000] [] (hc (by decide:(0:Int)<=1) .nil) (fun v12 hv=>?_);have hF:=zei hF hv;refine LR0 ?_;refine LR0 ?_;refine LR0 ?_;have⟨v13,hv,hF⟩:=oE hF;refine NmT (fun Z=>Z.up [0,1,2,3,4,18,19,20,21] [] [100000] [] [(20,.i v13.1),(21,.i v13.2)] [] [] []) ?_ ?_
     ·have hF:=hv;refine Nif hF ?_ ?_ <;> intro hb hF
      ·refine LR0 ?_;refine LR0 ?_;cases hF;exact zmf []
      ·refine LR0 ?_;refine LR0 ?_;cases hF;exact zmf []
     ·refine LR0 ?_;refine NmS (fun v14=>zaz a0 m b row rec v12 v14=some r) (fun Z v14=>Z.up [0,1,2,3,4,18,19,20] [] [100000] [] [(20,.i v14)] [] [] []) ?_ ?_
      ·refine zdb ?_;unfold zbk at hF;refine znj hF [] (fun Z v17=>Z.up [0,1,2,3,4,18,19,20,21,22] [] [100000] [] [(20,.i v17.1),(21,.i v17.2)] [] [] []) ?_;intro n1 v17 y1 hF ih1 dn1;unfold zbi at hF;refine LR0 ?_;refine Nif hF ?_ ?_ <;> intro hb hF
       ·refine zdb ?_;refine NRL (w64 (Int.fdiv (IntKind.u64.wrap (w64 (v17.1+v17.2))) (2 ^ (min (1:Int).toNat 64)))) (fun v18:Int=>([(23,.i v18)],[],[],[])) [] [0,1,2,3,4,18,19,20,21,22,23] [] [100000] [] (hc (by decide:(0:Int)<=1) .nil) (fun v18 hv=>?_);have hF:=zei hF hv;have⟨h32,h33,h34,h35,hF⟩:=zj1 hF;have⟨x5,h36,hF⟩:=oE hF;refine DJ (.x zab h32 (.r zab h33 (.x zab h34 (.r zab h35 (.b (zeo h36) .z))))) ?_;refine Nif hF ?_ ?_ <;> intro hb hF
        ·refine LR0 ?_;exact zg1 [] hF ih1
        ·refine LR0 ?_;exact zg1 [] hF ih1
       ·refine zcp rfl ?_;have hF:=zak hF dn1;exact zfr v17.1 [] hF
      ·intro v14 hF;unfold zaz at hF;refine LR0 ?_;refine LR0 ?_;have⟨v15,hv,hF⟩:=oE hF;refine NmT (fun Z=>Z.up [0,1,3,4,18,20,24] [] [100000] [] [] [] [(100000,.q 75 5 0 0 rc rn (v15.map zab))] []) ?_ ?_
       ·have hF:=hv;refine Nif hF ?_ ?_ <;> intro hb hF
        ·have⟨x2,h26,hF⟩:=oE hF;have p27:=(Pe.ren (zhj 0 rc rn h26) ⟨[],[],[],[]⟩);refine RJ (.e [] [100000] p27 .z) ?_;cases hF;exact zmf []
        ·cases hF;exact zmf []
       ·refine LR0 ?_;have⟨v16,hv,hF⟩:=oE hF;refine NmT (fun Z=>Z.up [0,3,4,18,24] [] [100000] [] [] [] [(100000,.q 75 5 0 0 rc rn (v16.map zab))] []) ?_ ?_
        ·have hF:=hv;refine Nif hF ?_ ?_ <;> intro hb hF
         ·have⟨x3,h28,hF⟩:=oE hF;have p29:=(Pe.ren (ih (a0,v14,v12,v15) 0 rc rn x3 h28) ⟨[],[],[],[]⟩);refine RJ (.e [] [100000] p29 .z) ?_;cases hF;exact zmf []
         ·cases hF;exact zmf []
        ·refine LR0 ?_;refine Nif hF ?_ ?_ <;> intro hb hF
         ·have⟨x4,h30,hF⟩:=oE hF;have p31:=(Pe.ren (ih (v12,w64 ((w64 (v12+m)) - v14),b,v16) 0 rc rn x4 h30) ⟨[],[],[],[]⟩);refine RJ (.e [] [100000] p31 .z) ?_;cases hF;exact Wk_end (hfin _ ⟨[100000],[],[100000],[],[],[],by kernel_rfl⟩)
         ·cases hF;exact Wk_end (hfin _ ⟨[100000],[],[100000],[],[],[],by kernel_rfl⟩)
 have⟨k,hF⟩:=recO_elim hF;exact key k _ rk rc rn r hF

/- slices.stableCmpFunc[api.Cell] -/
def zdi (v1:Cs):Option Cs:=
 some v1
def zca (num:Int)(v2 v3:Cs×Int):Option ((Cs×Int)⊕Cs):=
 ob (
  if (decide ((w64 (v3.2+v2.2))<num))=true then
   ob (zby v3.2 (w64 (v3.2+v2.2)) num v3.1) fun x1=>
   some x1
  else
   some v3.1) fun v4=>
 some (Sum.inl (v4,w64 (v2.2*2)))
def zcb (num:Int)(v2:Cs×Int)(v5:Cs×Int×Int):Option ((Cs×Int×Int)⊕((Cs×Int)⊕Cs)):=
 if (decide (v5.2.2<=num))=true then
  ob (zby v5.2.1 (w64 (v5.2.1+v2.2)) v5.2.2 v5.1) fun x2=>
  some (Sum.inl (x2,v5.2.2,w64 (v5.2.2+(w64 (2*v2.2)))))
 else
  zey (zca num v2 (v5.1,v5.2.1))
def zdg (num:Int)(v2:Cs×Int)(v0:Cs×Int×Int):Option ((Cs×Int)⊕Cs):=
 zb7 (fun y=>zcb num v2 y) v0
def zcc (num:Int)(v2:Cs×Int):Option ((Cs×Int)⊕Cs):=
 if (decide (v2.2<num))=true then
  zdg num v2 (v2.1,0,w64 (2*v2.2))
 else
  zey (zdi v2.1)
def zav (num:Int)(v0:Cs×Int):Option Cs:=
 zb7 (fun y=>zcc num y) v0
def zcd (num:Int)(v:Cs×Int):Option Cs:=
 ob (zay v.2 num v.1) fun x=>
 zav num (x,20)
def zbv (num:Int)(v6:Cs×Int×Int):Option ((Cs×Int×Int)⊕Cs):=
 if (decide (v6.2.2<=num))=true then
  ob (zay v6.2.1 v6.2.2 v6.1) fun x3=>
  some (Sum.inl (x3,v6.2.2,w64 (v6.2.2+20)))
 else
  zey (zcd num (v6.1,v6.2.1))
def zbt (num:Int)(v0:Cs×Int×Int):Option Cs:=
 zb7 (fun y=>zbv num y) v0
def zcq (num:Int)(row:Cs):Option Cs:=
 zbt num (row,0,20)
theorem zht (rk rc:Nat)(rn:Bool){num row r}(hF:zcq num row=some r):Pe Tryz.prog 143 (.w [(100000,.q 75 5 0 0 rc rn (row.map zab))]) [.row 100000 0,.i num,.fn 54 []] (.tup []) (.w [(100000,.q 75 5 0 0 rc rn (r.map zab))]):=by
 refine PT 63 [] [] Tryz.func143 ?_;intro Q g hfin;unfold zcq at hF;refine LR0 ?_;refine LR0 ?_;refine NmS (fun v=>zcd num v=some r) (fun Z v=>Z.up [0,1,2,6,7] [] [100000] [] [(7,.i v.2)] [] [(100000,.q 75 5 0 0 rc rn (v.1.map zab))] []) ?_ ?_
 ·refine zdb ?_;unfold zbt at hF;refine znj hF [] (fun Z v6=>Z.up [0,1,2,6,7,8] [] [100000] [] [(7,.i v6.2.1),(8,.i v6.2.2)] [] [(100000,.q 75 5 0 0 rc rn (v6.1.map zab))] []) ?_;intro n1 v6 y1 hF ih1 dn1;unfold zbv at hF;refine LR0 ?_;refine Nif hF ?_ ?_ <;> intro hb hF
  ·refine zdb ?_;have⟨x3,h6,hF⟩:=oE hF;have p7:=(Pe.ren (zdr 0 rc rn h6) ⟨[],[],[],[]⟩);refine RJ (.e [] [100000] p7 .z) ?_;refine LR0 ?_;refine LR0 ?_;exact zg1 [] hF ih1
  ·refine zcp rfl ?_;have hF:=zak hF dn1;exact zfr (v6.1,v6.2.1) [] hF
 ·intro v hF;unfold zcd at hF;have⟨x,h0,hF⟩:=oE hF;have p1:=(Pe.ren (zdr 0 rc rn h0) ⟨[],[],[],[]⟩);refine RJ (.e [] [100000] p1 .z) ?_;refine NmQ (fun v1=>zdi v1=some r) (fun v1=>(.w [(100000,.q 75 5 0 0 rc rn (v1.map zab))])) ?_ ?_
  ·refine zdb ?_;unfold zav at hF;refine znj hF [] (fun Z v2=>Z.up [0,1,2,6] [] [100000] [] [(6,.i v2.2)] [] [(100000,.q 75 5 0 0 rc rn (v2.1.map zab))] []) ?_;intro n1 v2 y1 hF ih1 dn1;unfold zcc at hF;refine LR0 ?_;refine Nif hF ?_ ?_ <;> intro hb hF
   ·refine zdb ?_;refine LR0 ?_;refine NmS (fun v3=>zca num v2 v3=some y1) (fun Z v3=>Z.up [0,1,2,6,7] [] [100000] [] [(7,.i v3.2)] [] [(100000,.q 75 5 0 0 rc rn (v3.1.map zab))] []) ?_ ?_
    ·refine zdb ?_;unfold zdg at hF;refine znj hF [] (fun Z v5=>Z.up [0,1,2,6,7,8] [] [100000] [] [(7,.i v5.2.1),(8,.i v5.2.2)] [] [(100000,.q 75 5 0 0 rc rn (v5.1.map zab))] []) ?_;intro n2 v5 y2 hF ih2 dn2;unfold zcb at hF;refine LR0 ?_;refine Nif hF ?_ ?_ <;> intro hb hF
     ·refine zdb ?_;have⟨x2,h4,hF⟩:=oE hF;have p5:=(Pe.ren (zd5 0 rc rn h4) ⟨[],[],[],[]⟩);refine RJ (.e [] [100000] p5 .z) ?_;refine LR0 ?_;refine LR0 ?_;exact zg1 [] hF ih2
     ·refine zcp rfl ?_;have hF:=zak hF dn2;exact zfr (v5.1,v5.2.1) [] hF
    ·intro v3 hF;unfold zca at hF;refine LR0 ?_;refine LR0 ?_;have⟨v4,hv,hF⟩:=oE hF;refine NmT (fun Z=>Z.up [0,1,2,6] [] [100000] [] [] [] [(100000,.q 75 5 0 0 rc rn (v4.map zab))] []) ?_ ?_
     ·have hF:=hv;refine Nif hF ?_ ?_ <;> intro hb hF
      ·have⟨x1,h2,hF⟩:=oE hF;have p3:=(Pe.ren (zd5 0 rc rn h2) ⟨[],[],[],[]⟩);refine RJ (.e [] [100000] p3 .z) ?_;cases hF;exact zmf []
      ·cases hF;exact zmf []
     ·refine LR0 ?_;exact zg1 [] hF ih1
   ·refine zcp rfl ?_;have hF:=zak hF dn1;exact zfr v2.1 [] hF
  ·intro v1 hF;unfold zdi at hF;cases hF;exact Wk_end (hfin _ ⟨[100000],[],[100000],[],[],[],by kernel_rfl⟩)

/- slices.SortStableFunc[[]api.Cell,api.Cell] -/
def za5 (row:Cs):Option Cs:=
 ob (zcq (row.length:Int) row) fun x=>
 some x
theorem ze4 (rk rc:Nat)(rn:Bool){row r}(hF:za5 row=some r):Pe Tryz.prog 91 (.w [(100000,.q 75 5 0 0 rc rn (row.map zab))]) [.row 100000 0,.fn 54 []] (.tup []) (.w [(100000,.q 75 5 0 0 rc rn (r.map zab))]):=by
 refine PT 9 [] [] Tryz.func91 ?_;intro Q g hfin;unfold za5 at hF;have⟨x,h0,hF⟩:=oE hF;have p1:=(Pe.ren (zht 0 rc rn h0) ⟨[],[],[],[]⟩);refine RJ (.l zab row (.e [] [100000] p1 .z)) ?_;cases hF;exact Wk_end (hfin _ ⟨[100000],[],[100000],[],[],[],by kernel_rfl⟩)

/- cell.Merge$1 -/
def zhx (a0 b:Cell):Option Bool:=
 ob (zej a0 b) fun x=>
 some (decide (x=0))
theorem cell_Merge_1_ok {a0 b r}(hF:zhx a0 b=some r):Pe Tryz.prog 93 S.none [.agg (zfa a0),.agg (zfa b)] (.bool r) S.none:=by
 refine PT 9 [.tmp 4] [4] Tryz.func93 ?_;intro Q g hfin;unfold zhx at hF;refine LR0 ?_;have⟨x,h0,hF⟩:=oE hF;refine RJ (.b (zeo h0) .z) ?_;cases hF;exact Wz [] hfin

/- slices.CompactFunc[[]api.Cell,api.Cell] -/
def zbr (row:Cs)(v:Unit):Option Cs:=
 some row
def zbq (v2:Cs×Int):Option (Int⊕Cs):=
 zao (0<=v2.2/\v2.2<=(v2.1.length:Int)) <|
 lt ((lclear v2.1 v2.2.toNat (v2.1.length - v2.2.toNat) ((⟨([]:B8),([]:B8),0,false,([]:B8)⟩:Cell):Cell))) fun (v3:Cs)=>
 zao (0<=v2.2/\v2.2<=(v3.length:Int)) <|
 zao (v2.2.toNat<=v3.length) <|
 some (Sum.inr (v3.take v2.2.toNat))
def za4 (row:Cs)(v1:Int)(v4:Cs×Int×Int):Option ((Cs×Int×Int)⊕(Int⊕Cs)):=
 if (decide (v4.2.2<(((row.length - v1.toNat):Nat):Int)))=true then
  zao (0<=v4.2.2/\v4.2.2.toNat<(row.length - v1.toNat)) <|
  zao (0<=(((v1.toNat+v4.2.2.toNat):Nat):Int)/\(((v1.toNat+v4.2.2.toNat):Nat):Int)<(v4.1.length:Int)) <|
  zao (0<=w64 (v4.2.2 - 1)/\(w64 (v4.2.2 - 1)).toNat<(row.length - v1.toNat)) <|
  zao (0<=(((v1.toNat+(w64 (v4.2.2 - 1)).toNat):Nat):Int)/\(((v1.toNat+(w64 (v4.2.2 - 1)).toNat):Nat):Int)<(v4.1.length:Int)) <|
  ob (zhx (⟨(zad v4.1 (((v1.toNat+v4.2.2.toNat):Nat):Int)).Row,(zad v4.1 (((v1.toNat+v4.2.2.toNat):Nat):Int)).Col,(zad v4.1 (((v1.toNat+v4.2.2.toNat):Nat):Int)).Time,(zad v4.1 (((v1.toNat+v4.2.2.toNat):Nat):Int)).Gone,(zad v4.1 (((v1.toNat+v4.2.2.toNat):Nat):Int)).Value⟩:Cell) (⟨(zad v4.1 (((v1.toNat+(w64 (v4.2.2 - 1)).toNat):Nat):Int)).Row,(zad v4.1 (((v1.toNat+(w64 (v4.2.2 - 1)).toNat):Nat):Int)).Col,(zad v4.1 (((v1.toNat+(w64 (v4.2.2 - 1)).toNat):Nat):Int)).Time,(zad v4.1 (((v1.toNat+(w64 (v4.2.2 - 1)).toNat):Nat):Int)).Gone,(zad v4.1 (((v1.toNat+(w64 (v4.2.2 - 1)).toNat):Nat):Int)).Value⟩:Cell)) fun x1=>
  ob (
   if (!x1)=true then
    zao (0<=v4.2.2/\v4.2.2.toNat<(row.length - v1.toNat)) <|
    zao (0<=(((v1.toNat+v4.2.2.toNat):Nat):Int)/\(((v1.toNat+v4.2.2.toNat):Nat):Int)<(v4.1.length:Int)) <|
    zao (0<=v4.2.1/\v4.2.1<(v4.1.length:Int)) <|
    zao (0<=v4.2.1/\v4.2.1<(v4.1.length:Int)) <|
    lt ((zmc v4.1 v4.2.1 (⟨(zad v4.1 (((v1.toNat+v4.2.2.toNat):Nat):Int)).Row,(zad v4.1 (((v1.toNat+v4.2.2.toNat):Nat):Int)).Col,(zad v4.1 (((v1.toNat+v4.2.2.toNat):Nat):Int)).Time,(zad v4.1 (((v1.toNat+v4.2.2.toNat):Nat):Int)).Gone,(zad v4.1 (((v1.toNat+v4.2.2.toNat):Nat):Int)).Value⟩:Cell))) fun v6=>
    some (v6,w64 (v4.2.1+1))
   else
    some (v4.1,v4.2.1)) fun v5=>
  some (Sum.inl (v5.1,v5.2,w64 (v4.2.2+1)))
 else
  zey (zbq (v4.1,v4.2.1))
def zbs (row:Cs)(v1:Int)(v0:Cs×Int×Int):Option (Int⊕Cs):=
 zb7 (fun y=>za4 row v1 y) v0
def za2 (row:Cs)(v1:Int):Option (Int⊕Cs):=
 if (decide (v1<(row.length:Int)))=true then
  zao (0<=v1/\v1<(row.length:Int)) <|
  zao (0<=v1/\v1<(row.length:Int)) <|
  zao (0<=w64 (v1 - 1)/\w64 (v1 - 1)<(row.length:Int)) <|
  zao (0<=w64 (v1 - 1)/\w64 (v1 - 1)<(row.length:Int)) <|
  ob (zhx (⟨(zad row v1).Row,(zad row v1).Col,(zad row v1).Time,(zad row v1).Gone,(zad row v1).Value⟩:Cell) (⟨(zad row (w64 (v1 - 1))).Row,(zad row (w64 (v1 - 1))).Col,(zad row (w64 (v1 - 1))).Time,(zad row (w64 (v1 - 1))).Gone,(zad row (w64 (v1 - 1))).Value⟩:Cell)) fun x=>
  if x=true then
   zao (0<=v1/\v1<=(row.length:Int)) <|
   zbs row v1 (row,v1,1)
  else
   some (Sum.inl (w64 (v1+1)))
 else
  zey (zbr row ())
def zci (row:Cs)(v0:Int):Option Cs:=
 zb7 (fun y=>za2 row y) v0
def zbb (row:Cs):Option Cs:=
 if (decide ((row.length:Int)<2))=true then
  some row
 else
  zci row 1
theorem zfs (rk rc:Nat)(rn:Bool){row r}(hF:zbb row=some r):Pe Tryz.prog 92 (.w [(100000,.q 75 5 0 0 rc rn (row.map zab))]) [.row 100000 0,.fn 93 []] (.row 100000 1) ⟨[],[],[(100000,.o 75 5 1 (r.map zab))],[],[]⟩:=by
 refine PT 66 [.tmp 4] [68] Tryz.func92 ?_;intro Q g hfin;unfold zbb at hF;refine LR0 ?_;refine RJ (.l zab row .z) ?_;refine Nif hF ?_ ?_ <;> intro hb hF
 ·refine LR0 ?_;cases hF;exact Wz [(100000,⟨1,false,false,false⟩)] hfin
 ·refine LR0 ?_;refine NmS (fun v=>zbr row v=some r) (fun Z v=>Z.up [0] [] [100000] [] [] [] [] []) ?_ ?_
  ·refine zdb ?_;unfold zci at hF;refine znj hF [] (fun Z v1=>Z.up [0,1,5] [] [100000] [] [(5,.i v1)] [] [] []) ?_;intro n1 v1 y1 hF ih1 dn1;unfold za2 at hF;refine RJ (.l zab row .z) ?_;refine Nif hF ?_ ?_ <;> intro hb hF
   ·refine zdb ?_;have⟨h0,h1,h2,h3,hF⟩:=zj1 hF;have⟨x,h4,hF⟩:=oE hF;refine DJ (.x zab h0 (.r zab h1 (.x zab h2 (.r zab h3 (.b (cell_Merge_1_ok h4) .z))))) ?_;refine Nif hF ?_ ?_ <;> intro hb hF
    ·have⟨h5,hF⟩:=aE hF;refine RJ (.a (.vw (row.length - v1.toNat)) (.g (vw10_ok zab h5) .z)) ?_;refine LR0 ?_;refine NmQ (fun v2=>zbq v2=some y1) (fun v2=>⟨[(0,.row 100000 0),(5,.i v2.2)],[],[(100000,.q 75 5 0 0 rc rn (v2.1.map zab))],[],[]⟩) ?_ ?_
     ·refine zdb ?_;unfold zbs at hF;refine znj hF [] (fun Z v4=>Z.up [0,1,5,6,7] [] [100000] [] [(5,.i v4.2.1),(7,.i v4.2.2)] [] [(100000,.q 75 5 0 0 rc rn (v4.1.map zab))] []) ?_;intro n2 v4 y2 hF ih2 dn2;unfold za4 at hF;refine LR0 ?_;refine Nif hF ?_ ?_ <;> intro hb hF
      ·refine zdb ?_;have⟨h9,h10,h11,h12,hF⟩:=zj1 hF;have⟨x1,h13,hF⟩:=oE hF;refine DJ (.g h9 (.r zab h10 (.g h11 (.r zab h12 (.b (cell_Merge_1_ok h13) .z))))) ?_;have⟨v5,hv,hF⟩:=oE hF;refine NmT (fun Z=>Z.up [0,1,5,6,7] [] [100000] [] [(5,.i v5.2)] [] [(100000,.q 75 5 0 0 rc rn (v5.1.map zab))] []) ?_ ?_
       ·have hF:=hv;refine Nif hF ?_ ?_ <;> intro hb hF
        ·have⟨h14,hF⟩:=aE hF;have⟨h15,h16,hF⟩:=zhi hF;have⟨h17,hF⟩:=aE hF;have⟨v6,hv,hF⟩:=lS hF;refine RJ (.g h14 (.r zab h15 (.x zab h16 (.wN zab h17 hv .z)))) ?_;refine LR0 ?_;cases hF;exact zmf []
        ·cases hF;exact zmf []
       ·refine LR0 ?_;exact zg1 [] hF ih2
      ·refine zcp rfl ?_;have hF:=zak hF dn2;exact zfr (v4.1,v4.2.1) [] hF
     ·intro v2 hF;unfold zbq at hF;have⟨h6,hF⟩:=aE hF;refine NRL ((lclear v2.1 v2.2.toNat (v2.1.length - v2.2.toNat) ((⟨([]:B8),([]:B8),0,false,([]:B8)⟩:Cell):Cell))) (fun v3:Cs=>([],[],[(100000,.q 75 5 0 0 rc rn (v3.map zab))],[])) [.vw (v2.1.length - v2.2.toNat),.xs ((lclear v2.1 v2.2.toNat (v2.1.length - v2.2.toNat) ((⟨([]:B8),([]:B8),0,false,([]:B8)⟩:Cell):Cell)).map zab)] [0,5] [] [100000] [] (hc (vw10_ok zab h6) (hc (clr_ok zab v2.1 v2.2.toNat (v2.1.length - v2.2.toNat) ((⟨([]:B8),([]:B8),0,false,([]:B8)⟩:Cell):Cell)) (hc (xbm v2.2.toNat) .nil))) (fun v3 hv=>?_);have hF:=zei hF hv;have⟨h7,hF⟩:=aE hF;refine VR [.vw v2.2.toNat] [4] [] [100000] [] [(4,.rowv 100000 0 0 v2.2.toNat)] [] [(100000,.q 75 5 0 0 rc rn (v3.map zab))] [] (hc (vw01_ok (cm:=rc) zab h7) .nil) ?_;have⟨h8,hF⟩:=aE hF;refine Wk_truncL 4 100000 0 v2.2.toNat ((v3.take v2.2.toNat).map zab) rfl rfl rfl rfl (tk_ok zab h8).1 (xbm _) (xex).symm ?_;have hF:=zde hF dn1;cases hF;exact Wz [(100000,⟨1,false,true,false⟩)] hfin
    ·refine LR0 ?_;exact zg1 [] hF ih1
   ·refine zcp rfl ?_;have hF:=zak hF dn1;exact zfr () [] hF
  ·intro v hF;unfold zbr at hF;refine LR0 ?_;cases hF;exact Wz [(100000,⟨1,false,false,false⟩)] hfin

/- cell.Merge -/
def zku (lists:List Cs):Option Cs:=
 ob (zct lists) fun x=>
 ob (za5 x) fun x1=>
 ob (zbb x1) fun x2=>
 some x2
theorem cell_Merge_ok {lists r}(hF:zku lists=some r):Pe Tryz.prog 55 (.w []) [.sl 1 (lists.map za1)] (.row 5 1) ⟨[],[],[(5,.o 75 5 1 (r.map zab))],[],[]⟩:=by
 refine PT 10 [.tmp 2] [68] Tryz.func55 ?_;intro Q g hfin;unfold zku at hF;refine LR0 ?_;have⟨x,h0,hF⟩:=oE hF;have p1:=(Pe.ren (zh2 h0) ⟨[],[(24,5)],[],[]⟩);refine RJ (.e [] [] p1 .z) ?_;have⟨x1,h2,hF⟩:=oE hF;have p3:=(Pe.ren (ze4 0 0 false h2) ⟨[],[(100000,5)],[],[]⟩);refine RJ (.e [] [5] p3 .z) ?_;have⟨x2,h4,hF⟩:=oE hF;have p5:=(Pe.ren (zfs 0 0 false h4) ⟨[],[(100000,5)],[],[]⟩);refine RJ (.e [] [5] p5 .z) ?_;cases hF;exact Wz [] hfin

/- wal.Put -/
theorem wal_Put_w:PutW Tryz.prog 86 55 68:=Go.Dm.put_w
def wal_Put (l:Cs)(notes:List Note):Option Cs:=
  zao (((notes.length:Int)+1)*24<=140737488351232) <|
  zku (notes.reverse.map (fun x=>x.Cells)++[l])
theorem wal_Put_ok (l:Cs)(notes:List Note)(r:Cs)(hF:wal_Put l notes=some r):Pe Tryz.prog 86 ⟨[],[],[],[],[]⟩ [.sl 5 (l.map zab),.sl 2 (notes.map zar)] (.row 5 1) ⟨[],[],[(5,⟨75,5,1,0,0,false,0,[],(r.map zab)⟩)],[],[]⟩:=by
  unfold wal_Put at hF;have⟨h0,hF⟩:=zjq hF;have h:=cell_Merge_ok hF;have e:(notes.reverse.map (fun x=>x.Cells)++[l]).map za1=((notes.map (fun x:Note=>((x.Seq:Int),x.Cells.map zab)):List (Int×List AV)).reverse.map fun x=>AV.sl 5 x.2)++[.sl 5 (l.map zab)]:=by
    rw [xbx,xdd,<- List.map_reverse,xdd]; rfl
  rw [e] at h;have:=Pe_put (nts:=(notes.map (fun x:Note=>((x.Seq:Int),x.Cells.map zab)):List (Int×List AV))) (xs:=l.map zab) (csz:=5) ⟨_,Tryz.func86,rfl,rfl⟩ wal_Put_w (by rw [xa5]; omega) h;rw [xdd] at this;exact this

/- (*tablet.tab).lists -/
def zhc (box:B8)(box1:Int)(box2:B9)(box3 box4 box5:Int)(row:List Note)(row1:Cs)(row2:List Cs):Option (List Cs×Cs):=
 zao (((([row1]:List Cs)++row2).length:Int)*24<=140737488351232) <|
 some ((([row1]:List Cs)++row2),row1)
theorem tablet_tab_lists_ok (rk rc:Nat)(rn:Bool)(rk1 rc1:Nat)(rn1:Bool)(rk2 rc2:Nat)(rn2:Bool){box box1 box2 box3 box4 box5 row row1 row2 r}(hF:zhc box box1 box2 box3 box4 box5 row row1 row2=some r):Pe Tryz.prog 56 ⟨[],[(100000,[.sl 1 (box.map za8),.i box1,.sl 1 (box2.map zal),.i box3,.i box4,.row 100000 0,.i box5,.row 100001 0,.row 100002 0])],[(100000,.q 106 2 0 rk rc rn (row.map zar)),(100001,.q 75 5 0 rk1 rc1 rn1 (row1.map zab)),(100002,.q 68 1 0 rk2 rc2 rn2 (row2.map za1))],[],[]⟩ [.ptr 100000 0] (.row 7 1) ⟨[],[(100000,[.sl 1 (box.map za8),.i box1,.sl 1 (box2.map zal),.i box3,.i box4,.row 100000 0,.i box5,.row 100001 0,.row 100002 0])],[(100000,.q 106 2 0 rk rc rn (row.map zar)),(100001,⟨75,5,0,(r.2.map zab).length,rc1,rn1,0,[],(r.2.map zab)⟩),(100002,.q 68 1 0 rk2 rc2 rn2 (row2.map za1)),(7,.z 68 1 1 (r.1.map za1))],[],[]⟩:=by
 refine PT 13 [.tmp 2] [69] Tryz.func56 ?_;intro Q g hfin;unfold zhc at hF;refine LR0 ?_;have⟨h0,hF⟩:=aE hF;refine DJ (.p za1 h0 .z) ?_;cases hF;exact Wz [] hfin

/- (*tablet.tab).all -/
def zf0 (box:B8)(box1:Int)(box2:B9)(box3 box4 box5:Int)(row:List Note)(row1:Cs)(row2:List Cs):Option (Cs×Cs):=
 ob (zhc box box1 box2 box3 box4 box5 row row1 row2) fun x=>
 ob (zku x.1) fun x1=>
 some (x1,x.2)
theorem zna (rk rc:Nat)(rn:Bool)(rk1 rc1:Nat)(rn1:Bool)(rk2 rc2:Nat)(rn2:Bool){box box1 box2 box3 box4 box5 row row1 row2 r}(hF:zf0 box box1 box2 box3 box4 box5 row row1 row2=some r):Pe Tryz.prog 33 ⟨[],[(100000,[.sl 1 (box.map za8),.i box1,.sl 1 (box2.map zal),.i box3,.i box4,.row 100000 0,.i box5,.row 100001 0,.row 100002 0])],[(100000,.q 106 2 0 rk rc rn (row.map zar)),(100001,.q 75 5 0 rk1 rc1 rn1 (row1.map zab)),(100002,.q 68 1 0 rk2 rc2 rn2 (row2.map za1))],[],[]⟩ [.ptr 100000 0] (.row 5 1) ⟨[],[(100000,[.sl 1 (box.map za8),.i box1,.sl 1 (box2.map zal),.i box3,.i box4,.row 100000 0,.i box5,.row 100001 0,.row 100002 0])],[(100000,.q 106 2 0 rk rc rn (row.map zar)),(100001,⟨75,5,0,(r.2.map zab).length,rc1,rn1,0,[],(r.2.map zab)⟩),(100002,.q 68 1 0 rk2 rc2 rn2 (row2.map za1)),(5,.o 75 5 1 (r.1.map zab))],[],[]⟩:=by
 refine PT 6 [.tmp 2] [68] Tryz.func33 ?_;intro Q g hfin;unfold zf0 at hF;refine LR0 ?_;have⟨x,h0,hF⟩:=oE hF;have p1:=(Pe.ren (tablet_tab_lists_ok rk rc rn rk1 rc1 rn1 rk2 rc2 rn2 h0) ⟨[],[(7,4)],[],[]⟩);have⟨x1,h2,hF⟩:=oE hF;have p3:=(Pe.ren (cell_Merge_ok h2) ⟨[],[],[],[]⟩);refine RJ (.e [100000] [100000,100001,100002] p1 (.e [] [] p3 .z)) ?_;cases hF;exact Wz [] hfin

/- (*tablet.tab).fill -/
def zgj (box:B8)(box1:Int)(box2:B9)(box3 box4 box5:Int)(row:List Note)(row1:List Cs):Option (Fault×B8×Int×B9×Int×Int×List Note×Int×Cs):=
 ob (zcj box box1 box2 box3 box4 box5 row row1) fun x=>
 ob (
  if (decide (0<=x))=true then
   zao (0<=x/\x<=(row.length:Int)) <|
   ob (wal_Put ([]:Cs) (zdt row x)) fun x1=>
   some (x1,(⟨0,0⟩:Fault))
  else
   some (([]:Cs),(⟨0,0⟩:Fault))) fun (v:Cs×Fault)=>
 if (decide (500<(v.1.length:Int)))=true then
  lt (zc8 9 (-2)) fun x2=>
  some (x2,box,box1,box2,box3,box4,row,box5,v.1)
 else
  ob (zf0 box box1 box2 box3 box4 box5 row v.1 row1) fun x3=>
  if (decide (1000<(x3.1.length:Int)))=true then
   lt (zc8 9 (-1)) fun x4=>
   some (x4,box,box1,box2,box3,box4,row,box5,x3.2)
  else
   some ((⟨0,0⟩:Fault),box,box1,box2,box3,box4,row,box5,x3.2)
theorem zl0 (rk rc:Nat)(rn:Bool)(rk1 rc1:Nat)(rn1:Bool){box box1 box2 box3 box4 box5 row row1 r}(hF:zgj box box1 box2 box3 box4 box5 row row1=some r):Pe Tryz.prog 52 ⟨[],[(100000,[.sl 1 (box.map za8),.i box1,.sl 1 (box2.map zal),.i box3,.i box4,.row 100000 0,.i box5,.nils,.row 100001 0])],[(100000,.q 106 2 0 rk rc rn (row.map zar)),(100001,.q 68 1 0 rk1 rc1 rn1 (row1.map za1))],[],[]⟩ [.ptr 100000 0] (.agg (zag r.1)) ⟨[],[(100000,[.sl 1 (r.2.1.map za8),.i r.2.2.1,.sl 1 (r.2.2.2.1.map zal),.i r.2.2.2.2.1,.i r.2.2.2.2.2.1,.row 100000 0,.i r.2.2.2.2.2.2.2.1,.row 22 0,.row 100001 0])],[(100000,⟨106,2,0,(r.2.2.2.2.2.2.1.map zar).length,rc,rn,0,[],(r.2.2.2.2.2.2.1.map zar)⟩),(100001,.q 68 1 0 rk1 rc1 rn1 (row1.map za1)),(22,⟨75,5,0,(r.2.2.2.2.2.2.2.2.map zab).length,0,false,0,[],(r.2.2.2.2.2.2.2.2.map zab)⟩)],[],[]⟩:=by
 refine PT 38 [.cell 2 32] [32] Tryz.func52 ?_;intro Q g hfin;unfold zgj at hF;refine LR0 ?_;have⟨x,h0,hF⟩:=oE hF;refine RJ (.q [1,100000] [100000,100001] (Pe.ren (zgz rk rc rn rk1 rc1 rn1 h0) ⟨[(100000,1),(100001,100000)],[],[],[]⟩) .z) ?_;refine LR0 ?_;refine VR [] [1,2,3,14] [1,2,100000] [100000,100001] [] [(1,.ptr 1 0),(2,.ptr 2 0),(3,.i x),(14,.bool (decide (0<=x)))] [(1,[.ptr 100000 0]),(2,[.i 0,.i 0]),(100000,[.sl 1 (box.map za8),.i box1,.sl 1 (box2.map zal),.i box3,.i box4,.row 100000 0,.i box5,.nils,.row 100001 0])] [(100000,.q 106 2 0 rk rc rn (row.map zar)),(100001,.q 68 1 0 rk1 rc1 rn1 (row1.map za1))] [] .nil ?_;have⟨v,hv,hF⟩:=oE hF;refine NmT (fun Z=>Z.up [1,2] [1,2,100000] [22,100000,100001] [] [] [(2,(zag v.2)),(100000,[.sl 1 (box.map za8),.i box1,.sl 1 (box2.map zal),.i box3,.i box4,.row 100000 0,.i box5,.row 22 0,.row 100001 0])] [(22,.o 75 5 0 (v.1.map zab)),(100000,⟨106,2,0,(row.map zar).length,rc,rn,0,[],(row.map zar)⟩)] []) ?_ ?_
 ·have hF:=hv;refine Nif hF ?_ ?_ <;> intro hb hF
  ·have⟨h1,hF⟩:=aE hF;have⟨x1,h2,hF⟩:=oE hF;have p3:=(Pe.ren (wal_Put_ok ([]:Cs) (zdt row x) x1 h2) ⟨[],[(5,22)],[],[]⟩);refine DJ (.s10 zar h1 (.e [] [] p3 .z)) ?_;cases hF;exact zmf [(22,⟨0,true,true,false⟩)]
  ·refine zb0 100000 7 60000 75 5 rfl rfl rfl rfl rfl ?_;refine zd9 (fs:=[1,2]) (bs:=[1,2,100000]) (rs:=[60000,100000,100001]) (ms:=[]) (aa:=[]) (nv:=[]) rfl ?_;refine za9 ⟨[],[(60000,22)],[],[]⟩ rfl ?_;cases hF;exact zmf [(22,⟨0,true,false,false⟩),(100000,⟨0,true,true,true⟩)]
 ·refine RJ (.l zab v.1 .z) ?_;refine Nif hF ?_ ?_ <;> intro hb hF
  ·have⟨x2,h4,hF⟩:=lS hF;refine RJ (.b (zbu h4) .z) ?_;cases hF;exact Wz [(22,⟨0,true,true,true⟩)] hfin
  ·have⟨x3,h5,hF⟩:=oE hF;have p6:=(Pe.ren (zna ((row.map zar).length) rc rn 0 0 false rk1 rc1 rn1 h5) ⟨[],[(100001,22),(100002,100001),(5,33)],[],[]⟩);refine RJ (.e [100000] [100000,22,100001] p6 (.l zab x3.1 .z)) ?_;refine Nif hF ?_ ?_ <;> intro hb hF
   ·have⟨x4,h7,hF⟩:=lS hF;refine RJ (.b (zbu h7) .z) ?_;cases hF;exact Wz [(100000,⟨0,true,true,true⟩)] hfin
   ·refine LR0 ?_;cases hF;exact Wz [(100000,⟨0,true,true,true⟩)] hfin

/- tablet.load -/
def zfy (x4:List Note×Int)(v:Tablet×Fault×B8×Int×B9×Int×Int×Int)(v1:Fault×List Cs):Option ((Fault)⊕(B8×Int×B9×Int×Int×List Note×Int×Cs×List Cs×Fault)):=
 ob (zgj v.2.2.1 v.2.2.2.1 v.2.2.2.2.1 v.2.2.2.2.2.1 v.2.2.2.2.2.2.1 v.2.2.2.2.2.2.2 x4.1 v1.2) fun x6=>
 some (Sum.inr (x6.2.1,x6.2.2.1,x6.2.2.2.1,x6.2.2.2.2.1,x6.2.2.2.2.2.1,x6.2.2.2.2.2.2.1,x6.2.2.2.2.2.2.2.1,x6.2.2.2.2.2.2.2.2,v1.2,x6.1))
def zfz (x4:List Note×Int)(v:Tablet×Fault×B8×Int×B9×Int×Int×Int)(v2:Fault×List Cs×B9×Int×Int):Option ((Fault×List Cs×B9×Int×Int)⊕((Fault)⊕(B8×Int×B9×Int×Int×List Note×Int×Cs×List Cs×Fault))):=
 if (decide (v2.2.2.2.2<v2.2.2.2.1))=true then
  zao (0<=v2.2.2.2.2/\v2.2.2.2.2<(v2.2.2.1.length:Int)) <|
  ob (file_Open (zad v2.2.2.1 v2.2.2.2.2)) fun x7=>
  if (!decide (x7.2.Code=0))=true then
   lt (zc8 x7.2.Code v2.2.2.2.2) fun x8=>
   some (Sum.inr (Sum.inl x8))
  else
   zao (((v2.2.1++([x7.1]:List Cs)).length:Int)*24<=140737488351232) <|
   some (Sum.inl (v2.1,(v2.2.1++([x7.1]:List Cs)),v2.2.2.1,v2.2.2.2.1,w64 (v2.2.2.2.2+1)))
 else
  zey (zfy x4 v (v2.1,v2.2.1))
def zjb (x4:List Note×Int)(v:Tablet×Fault×B8×Int×B9×Int×Int×Int)(v0:Fault×List Cs×B9×Int×Int):Option ((Fault)⊕(B8×Int×B9×Int×Int×List Note×Int×Cs×List Cs×Fault)):=
 zb7 (fun y=>zfz x4 v y) v0
def zhn (t0:Tablet):Option ((Fault)⊕(B8×Int×B9×Int×Int×List Note×Int×Cs×List Cs×Fault)):=
 if ((((decide (t0.Done<0))||(decide (1000000000<t0.Done)))||(decide (t0.Since<0)))||(decide (1000000000<t0.Since)))=true then
  lt (zc8 3 0) fun x=>
  some (Sum.inl x)
 else
  if (decide (10<(t0.Files.length:Int)))=true then
   lt (zc8 2 (-1)) fun x1=>
   some (Sum.inl x1)
  else
   lt (zm6 t0.Log) fun x2=>
   if (!decide (x2.Code=0))=true then
    lt (zc8 x2.Code (-2)) fun x3=>
    some (Sum.inl x3)
   else
    ob (wal_Notes t0.Log) fun x4=>
    zao ((decide (0<(x4.1.length:Int)))=true->(!(!decide (x4.2=(t0.Log.Bytes.length:Int))))=true->0<=(0:Int)/\0<(x4.1.length:Int)) <|
    zao ((decide (0<(x4.1.length:Int)))=true->(!(!decide (x4.2=(t0.Log.Bytes.length:Int))))=true->0<=(0:Int)/\0<(x4.1.length:Int)) <|
    zao ((!(decide ((w64 (t0.Done+1))<((zad x4.1 0).Seq))))=true->(decide (0<(x4.1.length:Int)))=true->(!(!decide (x4.2=(t0.Log.Bytes.length:Int))))=true->0<=w64 ((x4.1.length:Int) - 1)/\w64 ((x4.1.length:Int) - 1)<(x4.1.length:Int)) <|
    zao ((!(decide ((w64 (t0.Done+1))<((zad x4.1 0).Seq))))=true->(decide (0<(x4.1.length:Int)))=true->(!(!decide (x4.2=(t0.Log.Bytes.length:Int))))=true->0<=w64 ((x4.1.length:Int) - 1)/\w64 ((x4.1.length:Int) - 1)<(x4.1.length:Int)) <|
    if ((!decide (x4.2=(t0.Log.Bytes.length:Int)))||((decide (0<(x4.1.length:Int)))&&((decide ((w64 (t0.Done+1))<((zad x4.1 0).Seq)))||(decide (((zad x4.1 (w64 ((x4.1.length:Int) - 1))).Seq)<t0.Done)))))=true then
     lt (zc8 11 (-2)) fun x5=>
     some (Sum.inl x5)
    else
     ob (
      if (decide (0<(x4.1.length:Int)))=true then
       zao (0<=w64 ((x4.1.length:Int) - 1)/\w64 ((x4.1.length:Int) - 1)<(x4.1.length:Int)) <|
       zao (0<=w64 ((x4.1.length:Int) - 1)/\w64 ((x4.1.length:Int) - 1)<(x4.1.length:Int)) <|
       some (t0,(⟨0,0⟩:Fault),t0.Log.Bytes,t0.Log.Kept,t0.Files,t0.Done,t0.Since,(zad x4.1 (w64 ((x4.1.length:Int) - 1))).Seq)
      else
       some (t0,(⟨0,0⟩:Fault),t0.Log.Bytes,t0.Log.Kept,t0.Files,t0.Done,t0.Since,t0.Done)) fun (v:Tablet×Fault×B8×Int×B9×Int×Int×Int)=>
     zjb x4 v (v.2.1,([]:List Cs),v.1.Files,(v.1.Files.length:Int),0)
theorem tablet_load_okl {t0 r}(hF:zhn t0=some (Sum.inl r)):Pe Tryz.prog 29 S.none [.agg (zdo t0)] (.tup [.nilp,.agg (zag r)]) S.none:=by
 refine PT 150 [.tmp 2,.cell 3 32] [96,32] Tryz.func29 ?_;intro Q g hfin;unfold zhn at hF;refine LR0 ?_;refine LR0 ?_;refine Nif hF ?_ ?_ <;> intro hb hF
 ·have⟨x,h0,hF⟩:=lS hF;refine RJ (.b (zbu h0) .z) ?_;cases hF;exact Wz [] hfin
 ·refine RJ (.l zal t0.Files .z) ?_;refine Nif hF ?_ ?_ <;> intro hb hF
  ·have⟨x1,h1,hF⟩:=lS hF;refine RJ (.b (zbu h1) .z) ?_;cases hF;exact Wz [] hfin
  ·have⟨x2,h2,hF⟩:=lS hF;refine RJ (.b (disk_Check_ok h2) .z) ?_;refine LR0 ?_;refine Nif hF ?_ ?_ <;> intro hb hF
   ·have⟨x3,h3,hF⟩:=lS hF;refine RJ (.b (zbu h3) .z) ?_;cases hF;exact Wz [] hfin
   ·refine LR0 ?_;refine LR0 ?_;have⟨x4,h4,hF⟩:=oE hF;have p5:=(Pe.ren (wal_Notes_ok h4) ⟨[],[(53,54)],[],[]⟩);refine RJ (.e [] [] p5 .z) ?_;refine RJ (.l zar x4.1 .z) ?_;have⟨h6,h7,h8,h9,hF⟩:=zj1 hF;refine DJ (.l za8 t0.Log.Bytes (.g (fun (ga0:(decide (0<(x4.1.length:Int)))=true) (ga1:(!(!decide (x4.2=(t0.Log.Bytes.length:Int))))=true)=>(zj2 zar (h6 ga0 ga1))) (.a (.av (zar (zad x4.1 0))) (.g (fun (ga0:(decide (0<(x4.1.length:Int)))=true) (ga1:(!(!decide (x4.2=(t0.Log.Bytes.length:Int))))=true)=>(ziv zar (h7 ga0 ga1))) (.g (fun (ga0:(!(decide ((w64 (t0.Done+1))<((zad x4.1 0).Seq))))=true) (ga1:(decide (0<(x4.1.length:Int)))=true) (ga2:(!(!decide (x4.2=(t0.Log.Bytes.length:Int))))=true)=>(zj2 zar (h8 ga0 ga1 ga2))) (.a (.av (zar (zad x4.1 (w64 ((x4.1.length:Int) - 1))))) (.g (fun (ga0:(!(decide ((w64 (t0.Done+1))<((zad x4.1 0).Seq))))=true) (ga1:(decide (0<(x4.1.length:Int)))=true) (ga2:(!(!decide (x4.2=(t0.Log.Bytes.length:Int))))=true)=>(ziv zar (h9 ga0 ga1 ga2))) .z))))))) ?_;refine Nif hF ?_ ?_ <;> intro hb hF
    ·have⟨x5,h10,hF⟩:=lS hF;refine RJ (.b (zbu h10) .z) ?_;cases hF;exact Wz [] hfin
    ·refine LR0 ?_;have⟨v,hv,hF⟩:=oE hF;refine NmT (fun Z=>Z.up [1,3,5] [1,3,49] [54] [] [] [(1,(zdo v.1)),(3,(zag v.2.1)),(49,[.sl 1 (v.2.2.1.map za8),.i v.2.2.2.1,.sl 1 (v.2.2.2.2.1.map zal),.i v.2.2.2.2.2.1,.i v.2.2.2.2.2.2.1,.row 54 0,.i v.2.2.2.2.2.2.2,.nils,.nils])] [] []) ?_ ?_
     ·have hF:=hv;refine Nif hF ?_ ?_ <;> intro hb hF
      ·have⟨h11,hF⟩:=aE hF;have⟨h12,hF⟩:=aE hF;refine RJ (.x zar h11 (.r zar h12 .z)) ?_;cases hF;exact zmf []
      ·cases hF;exact zmf []
     ·refine VR [.nat (v.1.Files.length:Int)] [3,5,117,118,119] [3,49] [54] [] [(3,.ptr 3 0),(5,.ptr 49 0),(117,.sl 1 (v.1.Files.map zal)),(118,.i (v.1.Files.length:Int)),(119,.i 0)] [(3,(zag v.2.1)),(49,[.sl 1 (v.2.2.1.map za8),.i v.2.2.2.1,.sl 1 (v.2.2.2.2.1.map zal),.i v.2.2.2.2.2.1,.i v.2.2.2.2.2.2.1,.row 54 0,.i v.2.2.2.2.2.2.2,.nils,.nils])] [(54,.z 106 2 0 (x4.1.map zar))] [] (hc (zfb zal v.1.Files) .nil) ?_;refine NmS (fun v1=>zfy x4 v v1=some (Sum.inl r)) (fun Z v1=>Z.up [3,5] [3,49] [54,143] [] [] [(3,(zag v1.1)),(49,[.sl 1 (v.2.2.1.map za8),.i v.2.2.2.1,.sl 1 (v.2.2.2.2.1.map zal),.i v.2.2.2.2.2.1,.i v.2.2.2.2.2.2.1,.row 54 0,.i v.2.2.2.2.2.2.2,.nils,.row 143 0])] [(143,.z 68 1 0 (v1.2.map za1))] []) ?_ ?_
      ·refine zdb ?_;unfold zjb at hF;refine zb0 49 8 60000 68 1 rfl rfl rfl rfl rfl ?_;refine zd9 (fs:=[3,5,117,118,119]) (bs:=[3,49]) (rs:=[54,60000]) (ms:=[]) (aa:=[]) (nv:=[]) rfl ?_;refine za9 ⟨[],[(60000,143)],[],[]⟩ rfl ?_;refine Nitr hF [] (fun v2=>⟨[(3,.ptr 3 0),(5,.ptr 49 0),(117,.sl 1 (v2.2.2.1.map zal)),(118,.i v2.2.2.2.1),(119,.i v2.2.2.2.2)],[(3,(zag v2.1)),(49,[.sl 1 (v.2.2.1.map za8),.i v.2.2.2.1,.sl 1 (v.2.2.2.2.1.map zal),.i v.2.2.2.2.2.1,.i v.2.2.2.2.2.2.1,.row 54 0,.i v.2.2.2.2.2.2.2,.nils,.row 143 0])],[(54,.z 106 2 0 (x4.1.map zar)),(143,.z 68 1 0 (v2.2.1.map za1))],[],[]⟩) ?_;intro n1 v2 y1 hF ih1 dn1;unfold zfz at hF;refine LR0 ?_;refine Nif hF ?_ ?_ <;> intro hb hF
       ·refine zdb ?_;have⟨h15,hF⟩:=aE hF;refine RJ (.i zal h15 .z) ?_;have⟨x7,h16,hF⟩:=oE hF;have p17:=(Pe.ren (file_Open_ok h16) ⟨[],[(24,126)],[],[]⟩);refine RJ (.e [] [] p17 .z) ?_;refine LR0 ?_;refine Nif hF ?_ ?_ <;> intro hb hF
        ·have⟨x8,h18,hF⟩:=lS hF;refine RJ (.b (zbu h18) .z) ?_;have hF:=zde hF dn1;cases hF;exact Wz [] hfin
        ·have⟨h19,hF⟩:=aE hF;refine RJ (.a (.sealed) (.p za1 h19 .z)) ?_;refine LR0 ?_;exact zg1 [(143,⟨0,true,true,false⟩)] hF ih1
       ·refine zcp rfl ?_;have hF:=zak hF dn1;exact zfr (v2.1,v2.2.1) [] hF
      ·intro v1 hF;unfold zfy at hF;have⟨x6,h13,hF⟩:=oE hF;have p14:=(Pe.ren (zl0 0 0 true 0 0 true h13) ⟨[(100000,49)],[(100000,54),(100001,143),(22,149)],[],[]⟩);refine RJ (.e [49] [54,143] p14 .z) ?_;cases hF
theorem tablet_load_okr {t0 r}(hF:zhn t0=some (Sum.inr r)):Pe Tryz.prog 29 (.w []) [.agg (zdo t0)] (.tup [.ptr 49 0,.agg (zag r.2.2.2.2.2.2.2.2.2)]) ⟨[],[(49,[.sl 1 (r.1.map za8),.i r.2.1,.sl 1 (r.2.2.1.map zal),.i r.2.2.2.1,.i r.2.2.2.2.1,.row 54 0,.i r.2.2.2.2.2.2.1,.row 149 0,.row 143 0])],[(54,⟨106,2,0,(r.2.2.2.2.2.1.map zar).length,0,true,0,[],(r.2.2.2.2.2.1.map zar)⟩),(143,.z 68 1 0 (r.2.2.2.2.2.2.2.2.1.map za1)),(149,⟨75,5,0,(r.2.2.2.2.2.2.2.1.map zab).length,0,false,0,[],(r.2.2.2.2.2.2.2.1.map zab)⟩)],[],[]⟩:=by
 refine PT 150 [.tmp 2,.cell 3 32] [96,32] Tryz.func29 ?_;intro Q g hfin;unfold zhn at hF;refine LR0 ?_;refine LR0 ?_;refine Nif hF ?_ ?_ <;> intro hb hF
 ·have⟨x,h0,hF⟩:=lS hF;refine RJ (.b (zbu h0) .z) ?_;cases hF
 ·refine RJ (.l zal t0.Files .z) ?_;refine Nif hF ?_ ?_ <;> intro hb hF
  ·have⟨x1,h1,hF⟩:=lS hF;refine RJ (.b (zbu h1) .z) ?_;cases hF
  ·have⟨x2,h2,hF⟩:=lS hF;refine RJ (.b (disk_Check_ok h2) .z) ?_;refine LR0 ?_;refine Nif hF ?_ ?_ <;> intro hb hF
   ·have⟨x3,h3,hF⟩:=lS hF;refine RJ (.b (zbu h3) .z) ?_;cases hF
   ·refine LR0 ?_;refine LR0 ?_;have⟨x4,h4,hF⟩:=oE hF;have p5:=(Pe.ren (wal_Notes_ok h4) ⟨[],[(53,54)],[],[]⟩);refine RJ (.e [] [] p5 .z) ?_;refine RJ (.l zar x4.1 .z) ?_;have⟨h6,h7,h8,h9,hF⟩:=zj1 hF;refine DJ (.l za8 t0.Log.Bytes (.g (fun (ga0:(decide (0<(x4.1.length:Int)))=true) (ga1:(!(!decide (x4.2=(t0.Log.Bytes.length:Int))))=true)=>(zj2 zar (h6 ga0 ga1))) (.a (.av (zar (zad x4.1 0))) (.g (fun (ga0:(decide (0<(x4.1.length:Int)))=true) (ga1:(!(!decide (x4.2=(t0.Log.Bytes.length:Int))))=true)=>(ziv zar (h7 ga0 ga1))) (.g (fun (ga0:(!(decide ((w64 (t0.Done+1))<((zad x4.1 0).Seq))))=true) (ga1:(decide (0<(x4.1.length:Int)))=true) (ga2:(!(!decide (x4.2=(t0.Log.Bytes.length:Int))))=true)=>(zj2 zar (h8 ga0 ga1 ga2))) (.a (.av (zar (zad x4.1 (w64 ((x4.1.length:Int) - 1))))) (.g (fun (ga0:(!(decide ((w64 (t0.Done+1))<((zad x4.1 0).Seq))))=true) (ga1:(decide (0<(x4.1.length:Int)))=true) (ga2:(!(!decide (x4.2=(t0.Log.Bytes.length:Int))))=true)=>(ziv zar (h9 ga0 ga1 ga2))) .z))))))) ?_;refine Nif hF ?_ ?_ <;> intro hb hF
    ·have⟨x5,h10,hF⟩:=lS hF;refine RJ (.b (zbu h10) .z) ?_;cases hF
    ·refine LR0 ?_;have⟨v,hv,hF⟩:=oE hF;refine NmT (fun Z=>Z.up [1,3,5] [1,3,49] [54] [] [] [(1,(zdo v.1)),(3,(zag v.2.1)),(49,[.sl 1 (v.2.2.1.map za8),.i v.2.2.2.1,.sl 1 (v.2.2.2.2.1.map zal),.i v.2.2.2.2.2.1,.i v.2.2.2.2.2.2.1,.row 54 0,.i v.2.2.2.2.2.2.2,.nils,.nils])] [] []) ?_ ?_
     ·have hF:=hv;refine Nif hF ?_ ?_ <;> intro hb hF
      ·have⟨h11,hF⟩:=aE hF;have⟨h12,hF⟩:=aE hF;refine RJ (.x zar h11 (.r zar h12 .z)) ?_;cases hF;exact zmf []
      ·cases hF;exact zmf []
     ·refine VR [.nat (v.1.Files.length:Int)] [3,5,117,118,119] [3,49] [54] [] [(3,.ptr 3 0),(5,.ptr 49 0),(117,.sl 1 (v.1.Files.map zal)),(118,.i (v.1.Files.length:Int)),(119,.i 0)] [(3,(zag v.2.1)),(49,[.sl 1 (v.2.2.1.map za8),.i v.2.2.2.1,.sl 1 (v.2.2.2.2.1.map zal),.i v.2.2.2.2.2.1,.i v.2.2.2.2.2.2.1,.row 54 0,.i v.2.2.2.2.2.2.2,.nils,.nils])] [(54,.z 106 2 0 (x4.1.map zar))] [] (hc (zfb zal v.1.Files) .nil) ?_;refine NmS (fun v1=>zfy x4 v v1=some (Sum.inr r)) (fun Z v1=>Z.up [3,5] [3,49] [54,143] [] [] [(3,(zag v1.1)),(49,[.sl 1 (v.2.2.1.map za8),.i v.2.2.2.1,.sl 1 (v.2.2.2.2.1.map zal),.i v.2.2.2.2.2.1,.i v.2.2.2.2.2.2.1,.row 54 0,.i v.2.2.2.2.2.2.2,.nils,.row 143 0])] [(143,.z 68 1 0 (v1.2.map za1))] []) ?_ ?_
      ·refine zdb ?_;unfold zjb at hF;refine zb0 49 8 60000 68 1 rfl rfl rfl rfl rfl ?_;refine zd9 (fs:=[3,5,117,118,119]) (bs:=[3,49]) (rs:=[54,60000]) (ms:=[]) (aa:=[]) (nv:=[]) rfl ?_;refine za9 ⟨[],[(60000,143)],[],[]⟩ rfl ?_;refine Nitr hF [] (fun v2=>⟨[(3,.ptr 3 0),(5,.ptr 49 0),(117,.sl 1 (v2.2.2.1.map zal)),(118,.i v2.2.2.2.1),(119,.i v2.2.2.2.2)],[(3,(zag v2.1)),(49,[.sl 1 (v.2.2.1.map za8),.i v.2.2.2.1,.sl 1 (v.2.2.2.2.1.map zal),.i v.2.2.2.2.2.1,.i v.2.2.2.2.2.2.1,.row 54 0,.i v.2.2.2.2.2.2.2,.nils,.row 143 0])],[(54,.z 106 2 0 (x4.1.map zar)),(143,.z 68 1 0 (v2.2.1.map za1))],[],[]⟩) ?_;intro n1 v2 y1 hF ih1 dn1;unfold zfz at hF;refine LR0 ?_;refine Nif hF ?_ ?_ <;> intro hb hF
       ·refine zdb ?_;have⟨h15,hF⟩:=aE hF;refine RJ (.i zal h15 .z) ?_;have⟨x7,h16,hF⟩:=oE hF;have p17:=(Pe.ren (file_Open_ok h16) ⟨[],[(24,126)],[],[]⟩);refine RJ (.e [] [] p17 .z) ?_;refine LR0 ?_;refine Nif hF ?_ ?_ <;> intro hb hF
        ·have⟨x8,h18,hF⟩:=lS hF;refine RJ (.b (zbu h18) .z) ?_;have hF:=zde hF dn1;cases hF
        ·have⟨h19,hF⟩:=aE hF;refine RJ (.a (.sealed) (.p za1 h19 .z)) ?_;refine LR0 ?_;exact zg1 [(143,⟨0,true,true,false⟩)] hF ih1
       ·refine zcp rfl ?_;have hF:=zak hF dn1;exact zfr (v2.1,v2.2.1) [] hF
      ·intro v1 hF;unfold zfy at hF;have⟨x6,h13,hF⟩:=oE hF;have p14:=(Pe.ren (zl0 0 0 true 0 0 true h13) ⟨[(100000,49)],[(100000,54),(100001,143),(22,149)],[],[]⟩);refine RJ (.e [49] [54,143] p14 .z) ?_;cases hF;exact Wz [] hfin

/- (*tablet.tab).early -/
def zhd (time:Int)(box:B8)(box1:Int)(box2:B9)(box3 box4 box5:Int)(row:List Note)(row1:Cs)(row2:List Cs):Fault:=
 if (decide (time<box4))=true then
  lt (zc8 12 (-1)) fun x=>
  x
 else
  (⟨0,0⟩:Fault)
theorem tablet_tab_early_ok (rk rc:Nat)(rn:Bool)(rk1 rc1:Nat)(rn1:Bool)(rk2 rc2:Nat)(rn2:Bool){time box box1 box2 box3 box4 box5 row row1 row2 r}(hF:zhd time box box1 box2 box3 box4 box5 row row1 row2=r):Pe Tryz.prog 31 ⟨[],[(100000,[.sl 1 (box.map za8),.i box1,.sl 1 (box2.map zal),.i box3,.i box4,.row 100000 0,.i box5,.row 100001 0,.row 100002 0])],[(100000,.q 106 2 0 rk rc rn (row.map zar)),(100001,.q 75 5 0 rk1 rc1 rn1 (row1.map zab)),(100002,.q 68 1 0 rk2 rc2 rn2 (row2.map za1))],[],[]⟩ [.ptr 100000 0,.i time] (.agg (zag r)) ⟨[],[(100000,[.sl 1 (box.map za8),.i box1,.sl 1 (box2.map zal),.i box3,.i box4,.row 100000 0,.i box5,.row 100001 0,.row 100002 0])],[(100000,.q 106 2 0 rk rc rn (row.map zar)),(100001,.q 75 5 0 rk1 rc1 rn1 (row1.map zab)),(100002,.q 68 1 0 rk2 rc2 rn2 (row2.map za1))],[],[]⟩:=by
 refine PT 14 [.cell 4 32] [32] Tryz.func31 ?_;intro Q g hfin;unfold zhd at hF;refine LR0 ?_;refine LR0 ?_;refine Nif hF ?_ ?_ <;> intro hb hF
 ·have⟨x,h0,hF⟩:=lS hF;refine RJ (.b (zbu h0) .z) ?_;cases hF;exact Wz [] hfin
 ·refine LR0 ?_;cases hF;exact Wz [] hfin

/- slices.BinarySearchFunc[[]api.Cell,api.Cell,api.Cell] -/
def zap (x:Cs)(v:Cell×Int):Option (Int×Bool):=
 zao ((decide (v.2<(x.length:Int)))=true->0<=v.2/\v.2<(x.length:Int)) <|
 ob (if (decide (v.2<(x.length:Int)))=true then (zej (⟨(zad x v.2).Row,(zad x v.2).Col,(zad x v.2).Time,(zad x v.2).Gone,(zad x v.2).Value⟩:Cell) v.1) else some default) fun x1=>
 some (v.2,(decide (v.2<(x.length:Int)))&&(decide (x1=0)))
def zaq (x:Cs)(v1:Cell×Int×Int):Option ((Cell×Int×Int)⊕(Int×Bool)):=
 if (decide (v1.2.1<v1.2.2))=true then
  lt (w64 (Int.fdiv (IntKind.u64.wrap (w64 (v1.2.1+v1.2.2))) (2 ^ (min (1:Int).toNat 64)))) fun v2=>
  zao (0<=v2/\v2<(x.length:Int)) <|
  ob (zej (⟨(zad x v2).Row,(zad x v2).Col,(zad x v2).Time,(zad x v2).Gone,(zad x v2).Value⟩:Cell) v1.1) fun x2=>
  if (decide (x2<0))=true then
   some (Sum.inl (v1.1,w64 (v2+1),v1.2.2))
  else
   some (Sum.inl (v1.1,v1.2.1,v2))
 else
  zey (zap x (v1.1,v1.2.1))
def zbm (x:Cs)(v0:Cell×Int×Int):Option (Int×Bool):=
 zb7 (fun y=>zaq x y) v0
def za0 (x:Cs)(target:Cell):Option (Int×Bool):=
 zbm x (target,0,(x.length:Int))
theorem zd7 {x target r}(hF:za0 x target=some r):Pe Tryz.prog 53 S.none [.sl 5 (x.map zab),.agg (zfa target),.fn 54 []] (.tup [.i r.1,.bool r.2]) S.none:=by
 refine PT 49 [.tmp 6,.tmp 7] [3,4] Tryz.func53 ?_;intro Q g hfin;unfold za0 at hF;refine LR0 ?_;refine RJ (.l zab x .z) ?_;refine LR0 ?_;refine NmS (fun v=>zap x v=some r) (fun Z v=>Z.up [0,2,4,8,9] [4] [] [] [(9,.i v.2)] [(4,(zfa v.1))] [] []) ?_ ?_
 ·refine zdb ?_;unfold zbm at hF;refine znj hF [] (fun Z v1=>Z.up [0,2,4,8,9,10] [4] [] [] [(9,.i v1.2.1),(10,.i v1.2.2)] [(4,(zfa v1.1))] [] []) ?_;intro n1 v1 y1 hF ih1 dn1;unfold zaq at hF;refine LR0 ?_;refine Nif hF ?_ ?_ <;> intro hb hF
  ·refine zdb ?_;refine NRL (w64 (Int.fdiv (IntKind.u64.wrap (w64 (v1.2.1+v1.2.2))) (2 ^ (min (1:Int).toNat 64)))) (fun v2:Int=>([(11,.i v2)],[],[],[])) [] [0,2,4,8,9,10,11] [4] [] [] (hc (by decide:(0:Int)<=1) .nil) (fun v2 hv=>?_);have hF:=zei hF hv;have⟨h2,hF⟩:=aE hF;have⟨x2,h3,hF⟩:=oE hF;refine DJ (.i zab h2 (.b (zeo h3) .z)) ?_;refine Nif hF ?_ ?_ <;> intro hb hF
   ·refine LR0 ?_;exact zg1 [] hF ih1
   ·refine LR0 ?_;exact zg1 [] hF ih1
  ·refine zcp rfl ?_;have hF:=zak hF dn1;exact zfr (v1.1,v1.2.1) [] hF
 ·intro v hF;unfold zap at hF;have⟨h0,hF⟩:=aE hF;have⟨x1,h1,hF⟩:=oE hF;refine DJ (.a (.av (zab (zad x v.2))) (.g (fun (ga0:(decide (v.2<(x.length:Int)))=true)=>(ze5 zab (h0 ga0))) (.a (.callB (.i x1)) (.g (fun (ga0:(decide (v.2<(x.length:Int)))=true)=>(zeo (ite_t h1 ga0))) .z)))) ?_;cases hF;exact Wz [] hfin

/- cell.Newest -/
def zlg (l:Cs)(row col:B8)(time:Int):Option (Cell×Bool):=
 ob (za0 l (⟨row,col,time,false,([]:B8)⟩:Cell)) fun x=>
 zao ((decide (x.1<(l.length:Int)))=true->0<=x.1/\x.1<(l.length:Int)) <|
 zao (((decide (x.1<(l.length:Int)))&&(decide (((zad l x.1).Row)=row)))=true->0<=x.1/\x.1<(l.length:Int)) <|
 if (((decide (x.1<(l.length:Int)))&&(decide (((zad l x.1).Row)=row)))&&(decide (((zad l x.1).Col)=col)))=true then
  zao (0<=x.1/\x.1<(l.length:Int)) <|
  some ((⟨(zad l x.1).Row,(zad l x.1).Col,(zad l x.1).Time,(zad l x.1).Gone,(zad l x.1).Value⟩:Cell),true)
 else
  some ((⟨([]:B8),([]:B8),0,false,([]:B8)⟩:Cell),false)
theorem cell_Newest_ok {l row col time r}(hF:zlg l row col time=some r):Pe Tryz.prog 32 S.none [.sl 5 (l.map zab),.str row,.str col,.i time] (.tup [.agg (zfa r.1),.bool r.2]) S.none:=by
 refine PT 48 [.cell 8 75,.tmp 9] [75,4] Tryz.func32 ?_;intro Q g hfin;unfold zlg at hF;refine LR0 ?_;have⟨x,h0,hF⟩:=oE hF;refine RJ (.b (zd7 h0) .z) ?_;have⟨h1,h2,hF⟩:=zhi hF;refine RJ (.l zab l (.a (.av (zab (zad l x.1))) (.g (fun (ga0:(decide (x.1<(l.length:Int)))=true)=>(ze5 zab (h1 ga0))) (.a (.av (zab (zad l x.1))) (.g (fun (ga0:((decide (x.1<(l.length:Int)))&&(decide (((zad l x.1).Row)=row)))=true)=>(ze5 zab (h2 ga0))) .z))))) ?_;refine Nif hF ?_ ?_ <;> intro hb hF
 ·have⟨h3,hF⟩:=aE hF;refine RJ (.i zab h3 .z) ?_;cases hF;exact Wz [] hfin
 ·refine LR0 ?_;cases hF;exact Wz [] hfin

/- tablet.Get -/
def zm1 (t0:Tablet)(row col:B8)(time:Int):Option (B8×Bool×Fault):=
 ob (zhn t0) fun x=>
 sm x (fun (x:Fault)=>
  ob (
   if ((decide (x.Code=0))&&((decide (time<0))||(decide (1000000000<time))))=true then
    lt (zc8 3 (-1)) fun x1=>
    some ((⟨0,0⟩:Fault),x1)
   else
    some ((⟨0,0⟩:Fault),x)) fun (v:Fault×Fault)=>
  ob (
   if (decide (v.2.Code=0))=true then
    none
   else
    some (v.1,v.2)) fun v1=>
  if (!decide (v1.2.Code=0))=true then
   some (([]:B8),false,v1.2)
  else
   none) (fun (x:B8×Int×B9×Int×Int×List Note×Int×Cs×List Cs×Fault)=>
  ob (
   if ((decide (x.2.2.2.2.2.2.2.2.2.Code=0))&&((decide (time<0))||(decide (1000000000<time))))=true then
    lt (zc8 3 (-1)) fun x1=>
    some ((⟨0,0⟩:Fault),x1)
   else
    some ((⟨0,0⟩:Fault),x.2.2.2.2.2.2.2.2.2)) fun (v:Fault×Fault)=>
  ob (
   if (decide (v.2.Code=0))=true then
    lt (zhd time x.1 x.2.1 x.2.2.1 x.2.2.2.1 x.2.2.2.2.1 x.2.2.2.2.2.2.1 x.2.2.2.2.2.1 x.2.2.2.2.2.2.2.1 x.2.2.2.2.2.2.2.2.1) fun x2=>
    some (v.1,x2)
   else
    some (v.1,v.2)) fun v1=>
  if (!decide (v1.2.Code=0))=true then
   some (([]:B8),false,v1.2)
  else
   ob (zf0 x.1 x.2.1 x.2.2.1 x.2.2.2.1 x.2.2.2.2.1 x.2.2.2.2.2.2.1 x.2.2.2.2.2.1 x.2.2.2.2.2.2.2.1 x.2.2.2.2.2.2.2.2.1) fun x3=>
   ob (zlg x3.1 row col time) fun x4=>
   some (x4.1.Value,x4.2&&(!x4.1.Gone),v1.2))
theorem tablet_Get_ok {t0 row col time r}(hF:zm1 t0 row col time=some r):Pe Tryz.prog 14 S.none [.agg (zdo t0),.str row,.str col,.i time] (.tup [.str r.1,.bool r.2.1,.agg (zag r.2.2)]) S.none:=by
 refine PT 60 [.tmp 8,.tmp 9,.cell 10 32] [9,4,32] Tryz.func14 ?_;intro Q g hfin;unfold zm1 at hF;refine LR0 ?_;have⟨x,h0,hF⟩:=oE hF
 rcases x with x | x
 ·have hF:=sm_l hF;refine RJ (.b (tablet_load_okl h0) .z) ?_;refine LR0 ?_;have⟨v,hv,hF⟩:=oE hF;refine NmT (fun Z=>Z.up [1,2,3,10,11,12] [10,12] [] [] [] [(10,(zag v.1)),(12,(zag v.2))] [] []) ?_ ?_
  ·have hF:=hv;refine Nif hF ?_ ?_ <;> intro hb hF
   ·have⟨x1,h1,hF⟩:=lS hF;refine RJ (.b (zbu h1) .z) ?_;cases hF;exact zmf []
   ·cases hF;exact zmf []
  ·refine LR0 ?_;have⟨v1,hv,hF⟩:=oE hF;refine NmT (fun Z=>Z.up [1,2,3,10,11,12] [10,12] [] [] [] [(10,(zag v1.1)),(12,(zag v1.2))] [] []) ?_ ?_
   ·have hF:=hv;refine Nif hF ?_ ?_ <;> intro hb hF
    ·cases hF
    ·cases hF;exact zmf []
   ·refine LR0 ?_;refine Nif hF ?_ ?_ <;> intro hb hF
    ·refine LD0 ?_;cases hF;exact Wz [] hfin
    ·cases hF
 ·have hF:=sm_r hF;have p1:=(Pe.ren (tablet_load_okr h0) ⟨[(49,17)],[(54,17),(143,20017),(149,40017)],[],[]⟩);refine RJ (.e [] [] p1 .z) ?_;refine LR0 ?_;have⟨v,hv,hF⟩:=oE hF;refine NmT (fun Z=>Z.up [1,2,3,10,11,12] [10,12,17] [17,20017,40017] [] [] [(10,(zag v.1)),(12,(zag v.2))] [] []) ?_ ?_
  ·have hF:=hv;refine Nif hF ?_ ?_ <;> intro hb hF
   ·have⟨x1,h2,hF⟩:=lS hF;refine RJ (.b (zbu h2) .z) ?_;cases hF;exact zmf []
   ·cases hF;exact zmf []
  ·refine LR0 ?_;have⟨v1,hv,hF⟩:=oE hF;refine NmT (fun Z=>Z.up [1,2,3,10,11,12] [10,12,17] [17,20017,40017] [] [] [(10,(zag v1.1)),(12,(zag v1.2))] [] []) ?_ ?_
   ·have hF:=hv;refine Nif hF ?_ ?_ <;> intro hb hF
    ·have⟨x2,h3,hF⟩:=lS hF;refine RJ (.q [17] [17,40017,20017] (Pe.ren (tablet_tab_early_ok ((x.2.2.2.2.2.1.map zar).length) 0 true ((x.2.2.2.2.2.2.2.1.map zab).length) 0 false 0 0 true h3) ⟨[(100000,17)],[(100000,17),(100001,40017),(100002,20017)],[],[]⟩) .z) ?_;cases hF;exact zmf []
    ·cases hF;exact zmf []
   ·refine LR0 ?_;refine Nif hF ?_ ?_ <;> intro hb hF
    ·refine LD0 ?_;cases hF;exact Wz [] hfin
    ·have⟨x3,h4,hF⟩:=oE hF;have p5:=(Pe.ren (zna ((x.2.2.2.2.2.1.map zar).length) 0 true ((x.2.2.2.2.2.2.2.1.map zab).length) 0 false 0 0 true h4) ⟨[(100000,17)],[(100000,17),(100001,40017),(100002,20017),(5,44)],[],[]⟩);have⟨x4,h6,hF⟩:=oE hF;refine RJ (.e [17] [17,40017,20017] p5 (.b (cell_Newest_ok h6) .z)) ?_;refine LD0 ?_;cases hF;exact Wz [] hfin

/- strconv.Atoi -/
def zln (s:B8):Option (Int×Bool):=
 zao (s.length<=281474976710656) <|
 some (zkb s)
theorem strconv_Atoi_ok (s:B8)(r:Int×Bool)(hF:zln s=some r):Pe Tryz.prog 15 S.none [.str s] (.tup [.i r.1,.ifc r.2]) S.none:=by
 unfold zln at hF;have⟨h,hF⟩:=aE hF;have hF:=zjl hF;rw [<- hF];exact atoi_pe s h

/- strconv.Itoa -/
def strconv_Itoa (i:Int):Option B8:=
 zao (-9223372036854775808<=i/\i<=9223372036854775807) <|
 some (Lib.itoa i)
theorem strconv_Itoa_ok (i:Int)(r:B8)(hF:strconv_Itoa i=some r):Pe Tryz.prog 16 S.none [.i i] (.str r) S.none:=by
 unfold strconv_Itoa at hF;have⟨h,hF⟩:=aE hF;have hF:=zjl hF;rw [<- hF];exact itoa_pe i h

/- store.fault -/
def store_fault (code at0:Int):Fault:=
 (⟨code,at0⟩:Fault)
theorem store_fault_ok {code at0 r}(hF:store_fault code at0=r):Pe Tryz.prog 17 S.none [.i code,.i at0] (.agg (zag r)) S.none:=by
 refine PT 8 [.cell 4 32] [32] Tryz.func17 ?_;intro Q g hfin;unfold store_fault at hF;refine LR0 ?_;refine LR0 ?_;cases hF;exact Wz [] hfin

/- store.Number -/
def zjm (t0:Tablet)(row:B8):Option (Int×Fault):=
 ob (zm1 t0 row ([]:B8) 1000000000) fun x=>
 if ((!decide (x.2.2.Code=0))||(!x.2.1))=true then
  some (0,x.2.2)
 else
  ob (zln x.1) fun x1=>
  ob (if (!(((!x1.2)||(decide (x1.1<1)))||(decide (1000000000<x1.1))))=true then (strconv_Itoa x1.1) else some default) fun x2=>
  if ((((!x1.2)||(decide (x1.1<1)))||(decide (1000000000<x1.1)))||(!decide (x2=x.1)))=true then
   lt (store_fault 5 0) fun x3=>
   some (0,x3)
  else
   some (x1.1,x.2.2)
theorem store_Number_ok {t0 row r}(hF:zjm t0 row=some r):Pe Tryz.prog 7 S.none [.agg (zdo t0),.str row] (.tup [.i r.1,.agg (zag r.2)]) S.none:=by
 refine PT 50 [.tmp 4,.cell 5 32] [3,32] Tryz.func7 ?_;intro Q g hfin;unfold zjm at hF;refine LR0 ?_;have⟨x,h0,hF⟩:=oE hF;refine RJ (.b (tablet_Get_ok h0) .z) ?_;refine LR0 ?_;refine Nif hF ?_ ?_ <;> intro hb hF
 ·refine LD0 ?_;cases hF;exact Wz [] hfin
 ·have⟨x1,h1,hF⟩:=oE hF;refine RJ (.c (strconv_Atoi_ok x.1 x1 h1) .z) ?_;have⟨x2,h2,hF⟩:=oE hF;refine RJ (.a (.callB (.str x2)) (.g (fun (ga0:(!(((!x1.2)||(decide (x1.1<1)))||(decide (1000000000<x1.1))))=true)=>(strconv_Itoa_ok x1.1 x2 (ite_t h2 ga0))) .z)) ?_;refine Nif hF ?_ ?_ <;> intro hb hF
  ·have⟨x3,h3,hF⟩:=lS hF;refine RJ (.b (store_fault_ok h3) .z) ?_;cases hF;exact Wz [] hfin
  ·refine LD0 ?_;cases hF;exact Wz [] hfin

/- tabularyref.F -/
def R_F (code at0:Int):Fault:=
 (⟨code,at0⟩:Fault)
theorem zen {code at0 r}(hF:R_F code at0=r):Pe Tryz.prog 20 S.none [.i code,.i at0] (.agg (zag r)) S.none:=by
 refine PT 8 [.cell 4 32] [32] Tryz.func20 ?_;intro Q g hfin;unfold R_F at hF;refine LR0 ?_;refine LR0 ?_;cases hF;exact Wz [] hfin

/- tabularyref.DiskFault -/
def zli (d:Disk):Fault:=
 if (decide (60000<(d.Bytes.length:Int)))=true then
  lt (R_F 8 0) fun x=>
  x
 else
  if ((decide (d.Kept<0))||(decide ((d.Bytes.length:Int)<d.Kept)))=true then
   lt (R_F 3 0) fun x1=>
   x1
  else
   (⟨0,0⟩:Fault)
theorem R_DiskFault_ok {d r}(hF:zli d=r):Pe Tryz.prog 37 S.none [.agg (c_Disk d)] (.agg (zag r)) S.none:=by
 refine PT 21 [.cell 2 32] [32] Tryz.func37 ?_;intro Q g hfin;unfold zli at hF;refine LR0 ?_;refine RJ (.l za8 d.Bytes .z) ?_;refine Nif hF ?_ ?_ <;> intro hb hF
 ·have⟨x,h0,hF⟩:=lS hF;refine RJ (.b (zen h0) .z) ?_;cases hF;exact Wz [] hfin
 ·refine RJ (.a (.nat (d.Bytes.length:Int)) (.g (fun (_:(!(decide (d.Kept<0)))=true)=>(zfb za8 d.Bytes)) .z)) ?_;refine Nif hF ?_ ?_ <;> intro hb hF
  ·have⟨x1,h1,hF⟩:=lS hF;refine RJ (.b (zen h1) .z) ?_;cases hF;exact Wz [] hfin
  ·refine LR0 ?_;cases hF;exact Wz [] hfin

/- tabularyref.Rest -/
def R_Rest_J1 (v:Int):Option Int:=
 some (IntKind.u32.wrap (4294967295 - v))
def R_Rest_J2 (v1:Int×Int)(v2:Int):Option ((Int×Int)⊕Int):=
 some (Sum.inl (v2,w64 (v1.2+1)))
def R_Rest_B2 (b:B8)(v1 v3:Int×Int):Option ((Int×Int)⊕((Int×Int)⊕Int)):=
 if (decide (v3.2<8))=true then
  zao (0<=v1.2/\v1.2<(b.length:Int)) <|
  zao (0<=v3.2) <|
  lt (Int.tmod (IntKind.u32.wrap ((zfq (Int.fdiv ((zad b v1.2).toNat:Int) (2 ^ (min v3.2.toNat 8)))).toNat:Int)) 2) fun v4=>
  ob (
   if (decide ((Int.tmod (IntKind.u32.wrap (v3.1+v4)) 2)=1))=true then
    some (zeh .xor .u32 (IntKind.u32.wrap (Int.tdiv v3.1 2)) 3988292384)
   else
    some (IntKind.u32.wrap (Int.tdiv v3.1 2))) fun v5=>
  some (Sum.inl (v5,w64 (v3.2+1)))
 else
  zey (R_Rest_J2 v1 v3.1)
def R_Rest_L2 (b:B8)(v1 v0:Int×Int):Option ((Int×Int)⊕Int):=
 zb7 (fun y=>R_Rest_B2 b v1 y) v0
def R_Rest_B1 (b:B8)(v1:Int×Int):Option ((Int×Int)⊕Int):=
 if (decide (v1.2<(b.length:Int)))=true then
  R_Rest_L2 b v1 (v1.1,0)
 else
  zey (R_Rest_J1 v1.1)
def R_Rest_L1 (b:B8)(v0:Int×Int):Option Int:=
 zb7 (fun y=>R_Rest_B1 b y) v0
def R_Rest (b:B8):Option Int:=
 R_Rest_L1 b (4294967295,0)
theorem R_Rest_ok {b r}(hF:R_Rest b=some r):Pe Tryz.prog 151 S.none [.sl 1 (b.map za8)] (.int .u32 r) S.none:=by
 refine PT 38 [.tmp 2] [209] Tryz.func151 ?_;intro Q g hfin;unfold R_Rest at hF;refine LR0 ?_;refine LR0 ?_;refine LR0 ?_;refine NmQ (fun v=>R_Rest_J1 v=some r) (fun v=>⟨[(3,.int .u32 v)],[],[],[],[]⟩) ?_ ?_
 ·refine zdb ?_;unfold R_Rest_L1 at hF;refine znj hF [] (fun Z v1=>Z.up [0,3,4] [] [] [] [(3,.int .u32 v1.1),(4,.i v1.2)] [] [] []) ?_;intro n1 v1 y1 hF ih1 dn1;unfold R_Rest_B1 at hF;refine RJ (.l za8 b .z) ?_;refine Nif hF ?_ ?_ <;> intro hb hF
  ·refine zdb ?_;refine LR0 ?_;refine NmS (fun v2=>R_Rest_J2 v1 v2=some y1) (fun Z v2=>Z.up [0,3,4] [] [] [] [(3,.int .u32 v2)] [] [] []) ?_ ?_
   ·refine zdb ?_;unfold R_Rest_L2 at hF;refine znj hF [] (fun Z v3=>Z.up [0,3,4,5] [] [] [] [(3,.int .u32 v3.1),(5,.i v3.2)] [] [] []) ?_;intro n2 v3 y2 hF ih2 dn2;unfold R_Rest_B2 at hF;refine LR0 ?_;refine Nif hF ?_ ?_ <;> intro hb hF
    ·refine zdb ?_;have⟨h0,h1,hF⟩:=zhi hF;refine NRL (Int.tmod (IntKind.u32.wrap ((zfq (Int.fdiv ((zad b v1.2).toNat:Int) (2 ^ (min v3.2.toNat 8)))).toNat:Int)) 2) (fun v4:Int=>([(6,.int .u32 v4)],[],[],[])) [.av (za8 (zad b v1.2))] [0,3,4,5,6] [] [] [] (hc (ze5 za8 h0) (hc h1 (hc (shr8_ok (zad b v1.2) (min v3.2.toNat 8)) (hc (by decide:(2:Int)≠0) .nil)))) (fun v4 hv=>?_);have hF:=zei hF hv;refine RJ (.g (by decide:(2:Int)≠0) .z) ?_;refine RJ (.g (by decide:(2:Int)≠0) .z) ?_;refine LR0 ?_;have⟨v5,hv,hF⟩:=oE hF;refine NmT (fun Z=>Z.up [0,3,4,5] [] [] [] [(3,.int .u32 v5)] [] [] []) ?_ ?_
     ·have hF:=hv;refine Nif hF ?_ ?_ <;> intro hb hF
      ·refine LR0 ?_;cases hF;exact zmf []
      ·cases hF;exact zmf []
     ·refine LR0 ?_;exact zg1 [] hF ih2
    ·refine zcp rfl ?_;have hF:=zak hF dn2;exact zfr v3.1 [] hF
   ·intro v2 hF;unfold R_Rest_J2 at hF;refine LR0 ?_;exact zg1 [] hF ih1
  ·refine zcp rfl ?_;have hF:=zak hF dn1;exact zfr v1.1 [] hF
 ·intro v hF;unfold R_Rest_J1 at hF;refine LR0 ?_;cases hF;exact Wz [] hfin

/- tabularyref.Framed -/
def R_Framed (body:B8):Option B8:=
 zao (((([zfq (w64 (Int.tdiv (body.length:Int) 256)),zfq (Int.tmod (body.length:Int) 256)]:B8)++body).length:Int)*1<=140737488351232) <|
 lt ((([zfq (w64 (Int.tdiv (body.length:Int) 256)),zfq (Int.tmod (body.length:Int) 256)]:B8)++body)) fun v=>
 ob (R_Rest v) fun x=>
 zao (((v++([zfq (IntKind.u32.wrap (Int.tdiv x 16777216)),zfq (Int.tmod (IntKind.u32.wrap (Int.tdiv x 65536)) 256),zfq (Int.tmod (IntKind.u32.wrap (Int.tdiv x 256)) 256),zfq (Int.tmod x 256)]:B8)).length:Int)*1<=140737488351232) <|
 lt ((v++([zfq (IntKind.u32.wrap (Int.tdiv x 16777216)),zfq (Int.tmod (IntKind.u32.wrap (Int.tdiv x 65536)) 256),zfq (Int.tmod (IntKind.u32.wrap (Int.tdiv x 256)) 256),zfq (Int.tmod x 256)]:B8))) fun v1=>
 some v1
theorem R_Framed_ok {body r}(hF:R_Framed body=some r):Pe Tryz.prog 101 (.w []) [.sl 1 (body.map za8)] (.row 13 2) ⟨[],[],[(13,.z 5 1 2 (r.map za8))],[],[]⟩:=by
 refine PT 35 [.tmp 2] [22] Tryz.func101 ?_;intro Q g hfin;unfold R_Framed at hF;refine LR0 ?_;have⟨h0,hF⟩:=aE hF;have⟨v,hv,hF⟩:=lS hF;refine RJ (.l za8 body (.g (by decide:(256:Int)≠0) (.l za8 body (.g (by decide:(256:Int)≠0) (.pN za8 hv h0 .z))))) ?_;have⟨x,h1,hF⟩:=oE hF;refine RJ (.b (R_Rest_ok h1) .z) ?_;have⟨h2,hF⟩:=aE hF;have⟨v1,hv,hF⟩:=lS hF;refine RJ (.g (by decide:(16777216:Int)≠0) (.g (by decide:(65536:Int)≠0) (.g (by decide:(256:Int)≠0) (.g (by decide:(256:Int)≠0) (.g (by decide:(256:Int)≠0) (.g (by decide:(256:Int)≠0) (.a (.sealed) (.pN za8 hv h2 .z)))))))) ?_;cases hF;exact Wz [] hfin

/- tabularyref.Same -/
def zju (a0 b:B8):Bool:=
 decide (a0=b)
theorem R_Same_ok {a0 b r}(hF:zju a0 b=r):Pe Tryz.prog 45 S.none [.sl 1 (a0.map za8),.sl 1 (b.map za8)] (.bool r) S.none:=by
 refine PT 10 [.tmp 4] [4] Tryz.func45 ?_;intro Q g hfin;unfold zju at hF;refine LR0 ?_;refine RJ (.a (.str a0) (.g (u8s_ok a0) (.a (.str b) (.g (u8s_ok b) .z)))) ?_;cases hF;exact Wz [] hfin

/- tabularyref.Unframed -/
def zii (v:B9×Int):Option (B9×Int):=
 some (v.1,v.2)
def zgm (b:B8)(v1:B9×Int):Option ((B9×Int)⊕(B9×Int)):=
 if (decide ((w64 (v1.2+6))<=(b.length:Int)))=true then
  zao (0<=v1.2/\v1.2<(b.length:Int)) <|
  zao (0<=w64 (v1.2+1)/\w64 (v1.2+1)<(b.length:Int)) <|
  lt (w64 ((w64 ((w64 ((zad b v1.2).toNat:Int))*256))+(w64 ((zad b (w64 (v1.2+1))).toNat:Int)))) fun v2=>
  if (decide ((b.length:Int)<(w64 ((w64 (v1.2+6))+v2))))=true then
   zey (zii (v1.1,v1.2))
  else
   zao (0<=w64 (v1.2+2)/\w64 (v1.2+2)<=w64 ((w64 (v1.2+2))+v2)/\w64 ((w64 (v1.2+2))+v2)<=(b.length:Int)) <|
   ob (R_Framed (zdt (zdq b (w64 ((w64 (v1.2+2))+v2))) (w64 (v1.2+2)))) fun x=>
   zao (0<=v1.2/\v1.2<=w64 ((w64 (v1.2+6))+v2)/\w64 ((w64 (v1.2+6))+v2)<=(b.length:Int)) <|
   lt (zju x (zdt (zdq b (w64 ((w64 (v1.2+6))+v2))) v1.2)) fun x1=>
   if (!x1)=true then
    zey (zii (v1.1,v1.2))
   else
    zao (((zdt (zdq b (w64 ((w64 (v1.2+2))+v2))) (w64 (v1.2+2))).length:Int)*1<=140737488351232) <|
    zao (((v1.1++([(zdt (zdq b (w64 ((w64 (v1.2+2))+v2))) (w64 (v1.2+2)))]:B9)).length:Int)*24<=140737488351232) <|
    lt ((v1.1++([(zdt (zdq b (w64 ((w64 (v1.2+2))+v2))) (w64 (v1.2+2)))]:B9))) fun v3=>
    some (Sum.inl (v3,w64 ((w64 (v1.2+6))+v2)))
 else
  zey (zii (v1.1,v1.2))
def zoe (b:B8)(v0:B9×Int):Option (B9×Int):=
 zb7 (fun y=>zgm b y) v0
def zkz (b:B8):Option (B9×Int):=
 zoe b (([]:B9),0)
theorem R_Unframed_ok {b r}(hF:zkz b=some r):Pe Tryz.prog 63 (.w []) [.sl 1 (b.map za8)] (.tup [.row 56 0,.i r.2]) ⟨[],[],[(56,.z 22 1 0 (r.1.map zal))],[],[]⟩:=by
 refine PT 63 [.tmp 2,.tmp 3] [25,3] Tryz.func63 ?_;intro Q g hfin;unfold zkz at hF;refine LR0 ?_;refine LR0 ?_;refine NR [] [0,4,5] [] [] [(0,.sl 1 (b.map za8)),(4,.nils),(5,.i 0)] .nil ?_;refine NmQ (fun v=>zii v=some r) (fun v=>⟨[(4,.row 56 0),(5,.i v.2)],[],[(56,.z 22 1 0 (v.1.map zal))],[],[]⟩) ?_ ?_
 ·refine zdb ?_;unfold zoe at hF;refine zas 4 60000 22 1 rfl rfl rfl ?_;refine zd9 (fs:=[0,4,5]) (bs:=[]) (rs:=[60000]) (ms:=[]) (aa:=[]) (nv:=[]) rfl ?_;refine za9 ⟨[],[(60000,56)],[],[]⟩ rfl ?_;refine Nitr hF [] (fun v1=>⟨[(0,.sl 1 (b.map za8)),(4,.row 56 0),(5,.i v1.2)],[],[(56,.z 22 1 0 (v1.1.map zal))],[],[]⟩) ?_;intro n1 v1 y1 hF ih1 dn1;unfold zgm at hF;refine RJ (.l za8 b .z) ?_;refine Nif hF ?_ ?_ <;> intro hb hF
  ·refine zdb ?_;have⟨h0,h1,hF⟩:=zhi hF;refine NDL (w64 ((w64 ((w64 ((zad b v1.2).toNat:Int))*256))+(w64 ((zad b (w64 (v1.2+1))).toNat:Int)))) (fun v2:Int=>([(6,.i v2)],[],[],[])) [.av (za8 (zad b v1.2)),.av (za8 (zad b (w64 (v1.2+1))))] [0,4,5,6] [] [56] [] (hc (ze5 za8 h0) (hc (ze5 za8 h1) .nil)) (fun v2 hv=>?_);have hF:=zei hF hv;refine RJ (.l za8 b .z) ?_;refine Nif hF ?_ ?_ <;> intro hb hF
   ·refine zcp rfl ?_;have hF:=zak hF dn1;exact zfr (v1.1,v1.2) [] hF
   ·have⟨h2,hF⟩:=aE hF;refine RJ (.s11 za8 h2 .z) ?_;have⟨x,h3,hF⟩:=oE hF;have p4:=(Pe.ren (R_Framed_ok h3) ⟨[],[(13,42)],[],[]⟩);have⟨h5,hF⟩:=aE hF;have⟨x1,h6,hF⟩:=lS hF;refine DJ (.e [] [] p4 (.s11 za8 h5 (.b (R_Same_ok h6) .z))) ?_;refine Nif hF ?_ ?_ <;> intro hb hF
    ·refine zcp rfl ?_;have hF:=zak hF dn1;exact zfr (v1.1,v1.2) [] hF
    ·have⟨h7,hF⟩:=aE hF;have⟨h8,hF⟩:=aE hF;have⟨v3,hv,hF⟩:=lS hF;refine RJ (.p0 za8 h7 (.a (.sealed) (.pN zal hv h8 .z))) ?_;refine LR0 ?_;exact zg1 [(56,⟨0,true,true,false⟩)] hF ih1
  ·refine zcp rfl ?_;have hF:=zak hF dn1;exact zfr (v1.1,v1.2) [] hF
 ·intro v hF;unfold zii at hF;refine LR0 ?_;cases hF;exact Wz [] hfin

/- tabularyref.Number -/
def zgu (rec:Int->Option B8)(num:Int):Option B8:=
 if (decide (num<128))=true then
  some ([zfq num]:B8)
 else
  ob (rec (w64 (Int.tdiv num 128))) fun x=>
  zao (((([zfq (w64 ((Int.tmod num 128)+128))]:B8)++x).length:Int)*1<=140737488351232) <|
  some (([zfq (w64 ((Int.tmod num 128)+128))]:B8)++x)
def R_Number (num:Int):Option B8:=recO (fun rec (x:Int)=>zgu rec x) num
theorem R_Number_ok {num r}(hF:R_Number num=some r):Pe Tryz.prog 103 (.w []) [.i num] (.row 7 0) ⟨[],[],[(7,.z 5 1 0 (r.map za8))],[],[]⟩:=by
 have key:∀ (k:Nat) (x:Int) (r:B8),fuelO (fun rec (x:Int)=>zgu rec x) k x=some r->Pe Tryz.prog 103 (.w []) [.i x] (.row 7 0) ⟨[],[],[(7,.z 5 1 0 (r.map za8))],[],[]⟩:=by
  intro k
  induction k with
  | zero=>intro x r hF; cases hF
  | succ k ih=>
   intro x r hF;have hF:zgu (fuelO (fun rec (x:Int)=>zgu rec x) k) x=some r:=hF;generalize fuelO (fun rec (x:Int)=>zgu rec x) k=rec at ih hF;revert hF;generalize x=num;intro hF;refine PT 17 [.tmp 2] [22] Tryz.func103 ?_;intro Q g hfin;unfold zgu at hF;refine LR0 ?_;refine LR0 ?_;refine Nif hF ?_ ?_ <;> intro hb hF
   ·refine LR0 ?_;cases hF;exact Wz [] hfin
   ·have⟨x,h0,hF⟩:=oE hF;have p1:=(Pe.ren (ih (w64 (Int.tdiv num 128)) x h0) ⟨[],[(7,15)],[],[]⟩);have⟨h2,hF⟩:=aE hF;refine VR [cE [] [] [] [] p1,.xs ((([zfq (w64 ((Int.tmod num 128)+128))]:B8)++x).map za8)] [2] [] [12] [] [(2,.row 12 1)] [] [(12,.z 5 1 1 ((([zfq (w64 ((Int.tmod num 128)+128))]:B8)++x).map za8))] [] (hc (by decide:(128:Int)≠0) (hc (by decide:(128:Int)≠0) (hc p1 (hc (app_ok za8 ([zfq (w64 ((Int.tmod num 128)+128))]:B8) x) (hc (appl_ok za8 h2) .nil))))) ?_;cases hF;refine za9 ⟨[],[(12,7)],[],[]⟩ rfl ?_;exact Wz [(7,⟨0,true,true,false⟩)] hfin
 have⟨k,hF⟩:=recO_elim hF;exact key k _ r hF

/- tabularyref.Number -/
def zk5 (num:Int):Option B8:=
 if (decide (num<128))=true then
  some ([zfq num]:B8)
 else
  ob (R_Number (w64 (Int.tdiv num 128))) fun x=>
  zao (((([zfq (w64 ((Int.tmod num 128)+128))]:B8)++x).length:Int)*1<=140737488351232) <|
  some (([zfq (w64 ((Int.tmod num 128)+128))]:B8)++x)
theorem R_Number_v1_ok {num r}(hF:zk5 num=some r):Pe Tryz.prog 103 S.none [.i num] (.sl 1 (r.map za8)) S.none:=by
 refine PT 17 [.tmp 2] [22] Tryz.func103 ?_;intro Q g hfin;unfold zk5 at hF;refine LR0 ?_;refine LR0 ?_;refine Nif hF ?_ ?_ <;> intro hb hF
 ·refine LR0 ?_;cases hF;exact Wz [] hfin
 ·have⟨x,h0,hF⟩:=oE hF;have p1:=(Pe.ren (R_Number_ok h0) ⟨[],[(7,15)],[],[]⟩);have⟨h2,hF⟩:=aE hF;refine RJ (.g (by decide:(128:Int)≠0) (.g (by decide:(128:Int)≠0) (.e [] [] p1 (.p za8 h2 .z)))) ?_;cases hF;exact Wz [] hfin

/- tabularyref.NumberAt -/
def zoi (v:Unit):Option (Int×Int):=
 some (0,0)
def zfm (b:B8)(v1 v2:Int):Option (Int⊕(Int×Int)):=
 ob (if (decide (v2<=1000000000))=true then (zk5 v2) else some default) fun x=>
 zao ((decide (v2<=1000000000))=true->0<=v1/\v1<=(b.length:Int)) <|
 lt (zju x (zdq b v1)) fun x1=>
 if ((decide (v2<=1000000000))&&x1)=true then
  some (Sum.inr (v2,v1))
 else
  some (Sum.inl (w64 (v1+1)))
def zkj (b:B8)(v1:Int)(v3:Int×Int):Option ((Int×Int)⊕(Int⊕(Int×Int))):=
 if (decide (0<=v3.2))=true then
  zao (0<=v3.2/\v3.2<(b.length:Int)) <|
  lt (w64 ((w64 (v3.1*128))+(Int.tmod (w64 ((zad b v3.2).toNat:Int)) 128))) fun v4=>
  some (Sum.inl (v4,w64 (v3.2 - 1)))
 else
  zey (zfm b v1 v3.1)
def zon (b:B8)(v1:Int)(v0:Int×Int):Option (Int⊕(Int×Int)):=
 zb7 (fun y=>zkj b v1 y) v0
def zh6 (b:B8)(v1:Int):Option (Int⊕(Int×Int)):=
 if ((decide (v1<=5))&&(decide (v1<=(b.length:Int))))=true then
  zon b v1 (0,w64 (v1 - 1))
 else
  zey (zoi ())
def zof (b:B8)(v0:Int):Option (Int×Int):=
 zb7 (fun y=>zh6 b y) v0
def zhz (b:B8):Option (Int×Int):=
 zof b 1
theorem zkh {b r}(hF:zhz b=some r):Pe Tryz.prog 65 S.none [.sl 1 (b.map za8)] (.tup [.i r.1,.i r.2]) S.none:=by
 refine PT 44 [.tmp 2,.tmp 3] [3,3] Tryz.func65 ?_;intro Q g hfin;unfold zhz at hF;refine LR0 ?_;refine LR0 ?_;refine NmQ (fun v=>zoi v=some r) (fun v=>(.w [])) ?_ ?_
 ·refine zdb ?_;unfold zof at hF;refine znj hF [] (fun Z v1=>Z.up [0,4] [] [] [] [(4,.i v1)] [] [] []) ?_;intro n1 v1 y1 hF ih1 dn1;unfold zh6 at hF;refine RJ (.a (.nat (b.length:Int)) (.g (fun (_:(decide (v1<=5))=true)=>(zfb za8 b)) .z)) ?_;refine Nif hF ?_ ?_ <;> intro hb hF
  ·refine zdb ?_;refine LR0 ?_;refine LR0 ?_;refine NmS (fun v2=>zfm b v1 v2=some y1) (fun Z v2=>Z.up [0,4,5] [] [] [] [(5,.i v2)] [] [] []) ?_ ?_
   ·refine zdb ?_;unfold zon at hF;refine znj hF [] (fun Z v3=>Z.up [0,4,5,6] [] [] [] [(5,.i v3.1),(6,.i v3.2)] [] [] []) ?_;intro n2 v3 y2 hF ih2 dn2;unfold zkj at hF;refine LR0 ?_;refine Nif hF ?_ ?_ <;> intro hb hF
    ·refine zdb ?_;have⟨h3,hF⟩:=aE hF;refine NRL (w64 ((w64 (v3.1*128))+(Int.tmod (w64 ((zad b v3.2).toNat:Int)) 128))) (fun v4:Int=>([(5,.i v4)],[],[],[])) [.av (za8 (zad b v3.2))] [0,4,5,6] [] [] [] (hc (ze5 za8 h3) (hc (by decide:(128:Int)≠0) .nil)) (fun v4 hv=>?_);have hF:=zei hF hv;refine LR0 ?_;exact zg1 [] hF ih2
    ·refine zcp rfl ?_;have hF:=zak hF dn2;exact zfr v3.1 [] hF
   ·intro v2 hF;unfold zfm at hF;have⟨x,h0,hF⟩:=oE hF;have⟨h1,hF⟩:=aE hF;have⟨x1,h2,hF⟩:=lS hF;refine DJ (.a (.call (.sl 1 (x.map za8))) (.g (fun (ga0:(decide (v2<=1000000000))=true)=>(R_Number_v1_ok (ite_t h0 ga0))) (.a (.xs ((zdq b v1).map za8)) (.g (fun (ga0:(decide (v2<=1000000000))=true)=>(sl01_ok za8 (h1 ga0))) (.a (.callB (.bool x1)) (.g (fun (ga0:(decide (v2<=1000000000))=true)=>(R_Same_ok h2)) .z)))))) ?_;refine Nif hF ?_ ?_ <;> intro hb hF
    ·refine LR0 ?_;have hF:=zde hF dn1;cases hF;exact Wz [] hfin
    ·refine LR0 ?_;exact zg1 [] hF ih1
  ·refine zcp rfl ?_;have hF:=zak hF dn1;exact zfr () [] hF
 ·intro v hF;unfold zoi at hF;refine LR0 ?_;cases hF;exact Wz [] hfin

/- tabularyref.CellCode -/
def zbx (c:Cell):Int:=
 if ((((decide (c.Row=([]:B8)))||(decide (40<(c.Row.length:Int))))||(decide (40<(c.Col.length:Int))))||(decide (200<(c.Value.length:Int))))=true then
  8
 else
  if ((decide (c.Time<0))||(decide (1000000000<c.Time)))=true then
   3
  else
   if (c.Gone&&(!decide (c.Value=([]:B8))))=true then
    5
   else
    0
theorem R_CellCode_ok {c r}(hF:zbx c=r):Pe Tryz.prog 105 S.none [.agg (zfa c)] (.i r) S.none:=by
 refine PT 39 [.tmp 2] [3] Tryz.func105 ?_;intro Q g hfin;unfold zbx at hF;refine LR0 ?_;refine LR0 ?_;refine Nif hF ?_ ?_ <;> intro hb hF
 ·refine LR0 ?_;cases hF;exact Wz [] hfin
 ·refine LR0 ?_;refine Nif hF ?_ ?_ <;> intro hb hF
  ·refine LR0 ?_;cases hF;exact Wz [] hfin
  ·refine LR0 ?_;refine Nif hF ?_ ?_ <;> intro hb hF
   ·refine LR0 ?_;cases hF;exact Wz [] hfin
   ·refine LR0 ?_;cases hF;exact Wz [] hfin

end
end G
end Go.Proofs.YtgcndnddgajekaaGreatDoor
