/- The program's functions as plain functions, and that they are these. Written by a program (dec2.py). -/
import Derived.Test.YticbfakiihfgmaaGreatGf0
namespace Go.Proofs.YticbfakiihfgmaaGreat
open Go Go.Dm
set_option linter.unusedVariables false
set_option linter.unusedSimpArgs false
set_option maxRecDepth 100000
namespace G
noncomputable section
/- slices.symMergeCmpFunc[api.Cell] -/
def zdy (v1:Cs):Option Cs:=
 some v1
def zco (v:Int)(v2:Cs×Int):Option ((Cs×Int)⊕Cs):=
 if (decide (v2.2<(w64 (v - 1))))=true then
  zao (0<=w64 (v2.2+1)/\w64 (v2.2+1)<(v2.1.length:Int)) <|
  zao (0<=w64 (v2.2+1)/\w64 (v2.2+1)<(v2.1.length:Int)) <|
  zao (0<=v2.2/\v2.2<(v2.1.length:Int)) <|
  zao (0<=v2.2/\v2.2<(v2.1.length:Int)) <|
  zao (0<=v2.2/\v2.2<(v2.1.length:Int)) <|
  zao (0<=v2.2/\v2.2<(v2.1.length:Int)) <|
  zao (0<=w64 (v2.2+1)/\w64 (v2.2+1)<((zem v2.1 v2.2 (⟨(zad v2.1 (w64 (v2.2+1))).Row,(zad v2.1 (w64 (v2.2+1))).Col,(zad v2.1 (w64 (v2.2+1))).Time,(zad v2.1 (w64 (v2.2+1))).Gone,(zad v2.1 (w64 (v2.2+1))).Value⟩:Cell)).length:Int)) <|
  zao (0<=w64 (v2.2+1)/\w64 (v2.2+1)<((zem v2.1 v2.2 (⟨(zad v2.1 (w64 (v2.2+1))).Row,(zad v2.1 (w64 (v2.2+1))).Col,(zad v2.1 (w64 (v2.2+1))).Time,(zad v2.1 (w64 (v2.2+1))).Gone,(zad v2.1 (w64 (v2.2+1))).Value⟩:Cell)).length:Int)) <|
  lt ((zem (zem v2.1 v2.2 (⟨(zad v2.1 (w64 (v2.2+1))).Row,(zad v2.1 (w64 (v2.2+1))).Col,(zad v2.1 (w64 (v2.2+1))).Time,(zad v2.1 (w64 (v2.2+1))).Gone,(zad v2.1 (w64 (v2.2+1))).Value⟩:Cell)) (w64 (v2.2+1)) (⟨(zad v2.1 v2.2).Row,(zad v2.1 v2.2).Col,(zad v2.1 v2.2).Time,(zad v2.1 v2.2).Gone,(zad v2.1 v2.2).Value⟩:Cell))) fun v3=>
  some (Sum.inl (v3,w64 (v2.2+1)))
 else
  zev (zdy v2.1)
def zds (v:Int)(v0:Cs×Int):Option Cs:=
 zbg (fun y=>zco v y) v0
def zbo (a0:Int)(row:Cs)(v:Int):Option Cs:=
 zds v (row,a0)
def zbq (a0:Int)(row:Cs)(v4:Int×Int):Option ((Int×Int)⊕Cs):=
 if (decide (v4.1<v4.2))=true then
  lt (w64 (Int.fdiv (IntKind.u64.wrap (w64 (v4.1+v4.2))) (2 ^ (min (1:Int).toNat 64)))) fun v5=>
  zao (0<=v5/\v5<(row.length:Int)) <|
  zao (0<=v5/\v5<(row.length:Int)) <|
  zao (0<=a0/\a0<(row.length:Int)) <|
  zao (0<=a0/\a0<(row.length:Int)) <|
  ob (zge (⟨(zad row v5).Row,(zad row v5).Col,(zad row v5).Time,(zad row v5).Gone,(zad row v5).Value⟩:Cell) (⟨(zad row a0).Row,(zad row a0).Col,(zad row a0).Time,(zad row a0).Gone,(zad row a0).Value⟩:Cell)) fun x=>
  if (decide (x<0))=true then
   some (Sum.inl (w64 (v5+1),v4.2))
  else
   some (Sum.inl (v4.1,v5))
 else
  zev (zbo a0 row v4.1)
def zd0 (a0:Int)(row:Cs)(v0:Int×Int):Option Cs:=
 zbg (fun y=>zbq a0 row y) v0
def zdx (v7:Cs):Option Cs:=
 some v7
def zcl (v6:Int)(v8:Cs×Int):Option ((Cs×Int)⊕Cs):=
 if (decide (v6<v8.2))=true then
  zao (0<=w64 (v8.2 - 1)/\w64 (v8.2 - 1)<(v8.1.length:Int)) <|
  zao (0<=w64 (v8.2 - 1)/\w64 (v8.2 - 1)<(v8.1.length:Int)) <|
  zao (0<=v8.2/\v8.2<(v8.1.length:Int)) <|
  zao (0<=v8.2/\v8.2<(v8.1.length:Int)) <|
  zao (0<=v8.2/\v8.2<(v8.1.length:Int)) <|
  zao (0<=v8.2/\v8.2<(v8.1.length:Int)) <|
  zao (0<=w64 (v8.2 - 1)/\w64 (v8.2 - 1)<((zem v8.1 v8.2 (⟨(zad v8.1 (w64 (v8.2 - 1))).Row,(zad v8.1 (w64 (v8.2 - 1))).Col,(zad v8.1 (w64 (v8.2 - 1))).Time,(zad v8.1 (w64 (v8.2 - 1))).Gone,(zad v8.1 (w64 (v8.2 - 1))).Value⟩:Cell)).length:Int)) <|
  zao (0<=w64 (v8.2 - 1)/\w64 (v8.2 - 1)<((zem v8.1 v8.2 (⟨(zad v8.1 (w64 (v8.2 - 1))).Row,(zad v8.1 (w64 (v8.2 - 1))).Col,(zad v8.1 (w64 (v8.2 - 1))).Time,(zad v8.1 (w64 (v8.2 - 1))).Gone,(zad v8.1 (w64 (v8.2 - 1))).Value⟩:Cell)).length:Int)) <|
  lt ((zem (zem v8.1 v8.2 (⟨(zad v8.1 (w64 (v8.2 - 1))).Row,(zad v8.1 (w64 (v8.2 - 1))).Col,(zad v8.1 (w64 (v8.2 - 1))).Time,(zad v8.1 (w64 (v8.2 - 1))).Gone,(zad v8.1 (w64 (v8.2 - 1))).Value⟩:Cell)) (w64 (v8.2 - 1)) (⟨(zad v8.1 v8.2).Row,(zad v8.1 v8.2).Col,(zad v8.1 v8.2).Time,(zad v8.1 v8.2).Gone,(zad v8.1 v8.2).Value⟩:Cell))) fun v9=>
  some (Sum.inl (v9,w64 (v8.2 - 1)))
 else
  zev (zdx v8.1)
def zdu (v6:Int)(v0:Cs×Int):Option Cs:=
 zbg (fun y=>zcl v6 y) v0
def zbn (m:Int)(row:Cs)(v6:Int):Option Cs:=
 zdu v6 (row,m)
def zbr (m:Int)(row:Cs)(v10:Int×Int):Option ((Int×Int)⊕Cs):=
 if (decide (v10.1<v10.2))=true then
  lt (w64 (Int.fdiv (IntKind.u64.wrap (w64 (v10.1+v10.2))) (2 ^ (min (1:Int).toNat 64)))) fun v11=>
  zao (0<=m/\m<(row.length:Int)) <|
  zao (0<=m/\m<(row.length:Int)) <|
  zao (0<=v11/\v11<(row.length:Int)) <|
  zao (0<=v11/\v11<(row.length:Int)) <|
  ob (zge (⟨(zad row m).Row,(zad row m).Col,(zad row m).Time,(zad row m).Gone,(zad row m).Value⟩:Cell) (⟨(zad row v11).Row,(zad row v11).Col,(zad row v11).Time,(zad row v11).Gone,(zad row v11).Value⟩:Cell)) fun x1=>
  if (!(decide (x1<0)))=true then
   some (Sum.inl (w64 (v11+1),v10.2))
  else
   some (Sum.inl (v10.1,v11))
 else
  zev (zbn m row v10.1)
def zdz (m:Int)(row:Cs)(v0:Int×Int):Option Cs:=
 zbg (fun y=>zbr m row y) v0
def za8 (a0 m b:Int)(row:Cs)(rec:(Int×Int×Int×Cs)->Option Cs)(v12 v14:Int):Option Cs:=
 ob (
  if ((decide (v14<m))&&(decide (m<(w64 ((w64 (v12+m)) - v14)))))=true then
   ob (zbv v14 m (w64 ((w64 (v12+m)) - v14)) row) fun x2=>
   some x2
  else
   some row) fun v15=>
 ob (
  if ((decide (a0<v14))&&(decide (v14<v12)))=true then
   ob (rec (a0,v14,v12,v15)) fun x3=>
   some x3
  else
   some v15) fun v16=>
 if ((decide (v12<(w64 ((w64 (v12+m)) - v14))))&&(decide ((w64 ((w64 (v12+m)) - v14))<b)))=true then
  ob (rec (v12,w64 ((w64 (v12+m)) - v14),b,v16)) fun x4=>
  some x4
 else
  some v16
def zbs (a0 m b:Int)(row:Cs)(rec:(Int×Int×Int×Cs)->Option Cs)(v12:Int)(v17:Int×Int):Option ((Int×Int)⊕Cs):=
 if (decide (v17.1<v17.2))=true then
  lt (w64 (Int.fdiv (IntKind.u64.wrap (w64 (v17.1+v17.2))) (2 ^ (min (1:Int).toNat 64)))) fun v18=>
  zao (0<=w64 ((w64 ((w64 (v12+m)) - 1)) - v18)/\w64 ((w64 ((w64 (v12+m)) - 1)) - v18)<(row.length:Int)) <|
  zao (0<=w64 ((w64 ((w64 (v12+m)) - 1)) - v18)/\w64 ((w64 ((w64 (v12+m)) - 1)) - v18)<(row.length:Int)) <|
  zao (0<=v18/\v18<(row.length:Int)) <|
  zao (0<=v18/\v18<(row.length:Int)) <|
  ob (zge (⟨(zad row (w64 ((w64 ((w64 (v12+m)) - 1)) - v18))).Row,(zad row (w64 ((w64 ((w64 (v12+m)) - 1)) - v18))).Col,(zad row (w64 ((w64 ((w64 (v12+m)) - 1)) - v18))).Time,(zad row (w64 ((w64 ((w64 (v12+m)) - 1)) - v18))).Gone,(zad row (w64 ((w64 ((w64 (v12+m)) - 1)) - v18))).Value⟩:Cell) (⟨(zad row v18).Row,(zad row v18).Col,(zad row v18).Time,(zad row v18).Gone,(zad row v18).Value⟩:Cell)) fun x5=>
  if (!(decide (x5<0)))=true then
   some (Sum.inl (w64 (v18+1),v17.2))
  else
   some (Sum.inl (v17.1,v18))
 else
  zev (za8 a0 m b row rec v12 v17.1)
def zbu (a0 m b:Int)(row:Cs)(rec:(Int×Int×Int×Cs)->Option Cs)(v12:Int)(v0:Int×Int):Option Cs:=
 zbg (fun y=>zbs a0 m b row rec v12 y) v0
def zam (rec:(Int×Int×Int×Cs)->Option Cs)(a0 m b:Int)(row:Cs):Option Cs:=
 if (decide ((w64 (m - a0))=1))=true then
  zd0 a0 row (m,b)
 else
  if (decide ((w64 (b - m))=1))=true then
   zdz m row (a0,m)
  else
   lt (w64 (Int.fdiv (IntKind.u64.wrap (w64 (a0+b))) (2 ^ (min (1:Int).toNat 64)))) fun v12=>
   ob (
    if (decide (v12<m))=true then
     some (w64 ((w64 (v12+m)) - b),v12)
    else
     some (a0,m)) fun v13=>
   zbu a0 m b row rec v12 (v13.1,v13.2)
def zb9 (a0 m b:Int)(row:Cs):Option Cs:=recO (fun rec (x:Int×Int×Int×Cs)=>zam rec x.1 x.2.1 x.2.2.1 x.2.2.2) (a0,m,b,row)
theorem zfg (rk rc:Nat)(rn:Bool){a0 m b row r}(hF:zb9 a0 m b row=some r):Pe Tryz.prog 178 (.w [(100000,.q 53 5 0 0 rc rn (row.map zab))]) [.row 100000 0,.i a0,.i m,.i b,.fn 136 []] (.tup []) (.w [(100000,.q 53 5 0 0 rc rn (r.map zab))]):=by
 have key:∀ (k:Nat) (x:Int×Int×Int×Cs) (rk:Nat) (rc:Nat) (rn:Bool) (r:Cs),fuelO (fun rec (x:Int×Int×Int×Cs)=>zam rec x.1 x.2.1 x.2.2.1 x.2.2.2) k x=some r->Pe Tryz.prog 178 (.w [(100000,.q 53 5 0 0 rc rn (x.2.2.2.map zab))]) [.row 100000 0,.i x.1,.i x.2.1,.i x.2.2.1,.fn 136 []] (.tup []) (.w [(100000,.q 53 5 0 0 rc rn (r.map zab))]):=by
  intro k
  induction k with
  | zero=>intro x rk rc rn r hF; cases hF
  | succ k ih=>
   intro x rk rc rn r hF
   have hF:zam (fuelO (fun rec (x:Int×Int×Int×Cs)=>zam rec x.1 x.2.1 x.2.2.1 x.2.2.2) k) x.1 x.2.1 x.2.2.1 x.2.2.2=some r:=hF
   generalize fuelO (fun rec (x:Int×Int×Int×Cs)=>zam rec x.1 x.2.1 x.2.2.1 x.2.2.2) k=rec at ih hF
   obtain ⟨a0,m,b,row⟩:=x
   simp only at hF ⊢
   refine PT 220 [] [] Tryz.func178 ?_
   intro Q g hfin
   unfold zam at hF
   refine LR0 ?_
   refine Nif hF ?_ ?_ <;> intro hb hF
   ·refine LR0 ?_
    refine LR0 ?_
    refine NmS (fun v=>zbo a0 row v=some r) (fun Z v=>Z.up [0,1,10] [] [100000] [] [(10,.i v)] [] [] []) ?_ ?_
    ·refine zb5 ?_
     unfold zd0 at hF
     refine zoy hF [] (fun Z v4=>Z.up [0,1,4,10,11] [] [100000] [] [(10,.i v4.1),(11,.i v4.2)] [] [] []) ?_
     intro n1 v4 y1 hF ih1 dn1
     unfold zbq at hF
     refine LR0 ?_
     refine Nif hF ?_ ?_ <;> intro hb hF
     ·refine zb5 ?_
      refine NRL (w64 (Int.fdiv (IntKind.u64.wrap (w64 (v4.1+v4.2))) (2 ^ (min (1:Int).toNat 64)))) (fun v5:Int=>([(12,.i v5)],[],[],[])) [] [0,1,4,10,11,12] [] [100000] [] (hc (by decide:(0:Int)<=1) .nil) (fun v5 hv=>?_)
      have hF:=zeg hF hv
      have⟨h8,h9,h10,h11,hF⟩:=zla hF
      have⟨x,h12,hF⟩:=oE hF
      refine DJ (.x zab h8 (.r zab h9 (.x zab h10 (.r zab h11 (.b (zgn h12) .z))))) ?_
      refine Nif hF ?_ ?_ <;> intro hb hF
      ·refine LR0 ?_
       exact zgb [] hF ih1
      ·refine LR0 ?_
       exact zgb [] hF ih1
     ·refine zbm rfl ?_
      have hF:=zaj hF dn1
      exact ze4 v4.1 [] hF
    ·intro v hF
     unfold zbo at hF
     refine LR0 ?_
     refine NmQ (fun v1=>zdy v1=some r) (fun v1=>(.w [(100000,.q 53 5 0 0 rc rn (v1.map zab))])) ?_ ?_
     ·refine zb5 ?_
      unfold zds at hF
      refine zoy hF [] (fun Z v2=>Z.up [0,10,13] [] [100000] [] [(13,.i v2.2)] [] [(100000,.q 53 5 0 0 rc rn (v2.1.map zab))] []) ?_
      intro n1 v2 y1 hF ih1 dn1
      unfold zco at hF
      refine LR0 ?_
      refine Nif hF ?_ ?_ <;> intro hb hF
      ·refine zb5 ?_
       have⟨h0,h1,h2,h3,hF⟩:=zla hF
       have⟨h4,h5,h6,h7,hF⟩:=zla hF
       have⟨v3,hv,hF⟩:=lS hF
       refine DJ (.x zab h0 (.r zab h1 (.x zab h2 (.r zab h3 (.x zab h4 (.w zab h5 (⟨(zad v2.1 (w64 (v2.2+1))).Row,(zad v2.1 (w64 (v2.2+1))).Col,(zad v2.1 (w64 (v2.2+1))).Time,(zad v2.1 (w64 (v2.2+1))).Gone,(zad v2.1 (w64 (v2.2+1))).Value⟩:Cell) (.x zab h6 (.wN zab h7 hv .z)))))))) ?_
       refine LR0 ?_
       exact zgb [] hF ih1
      ·refine zbm rfl ?_
       have hF:=zaj hF dn1
       exact ze4 v2.1 [] hF
     ·intro v1 hF
      unfold zdy at hF
      cases hF
      exact Wz [] hfin
   ·refine LR0 ?_
    refine Nif hF ?_ ?_ <;> intro hb hF
    ·refine LR0 ?_
     refine LR0 ?_
     refine NmS (fun v6=>zbn m row v6=some r) (fun Z v6=>Z.up [0,2,14] [] [100000] [] [(14,.i v6)] [] [] []) ?_ ?_
     ·refine zb5 ?_
      unfold zdz at hF
      refine zoy hF [] (fun Z v10=>Z.up [0,2,4,14,15] [] [100000] [] [(14,.i v10.1),(15,.i v10.2)] [] [] []) ?_
      intro n1 v10 y1 hF ih1 dn1
      unfold zbr at hF
      refine LR0 ?_
      refine Nif hF ?_ ?_ <;> intro hb hF
      ·refine zb5 ?_
       refine NRL (w64 (Int.fdiv (IntKind.u64.wrap (w64 (v10.1+v10.2))) (2 ^ (min (1:Int).toNat 64)))) (fun v11:Int=>([(16,.i v11)],[],[],[])) [] [0,2,4,14,15,16] [] [100000] [] (hc (by decide:(0:Int)<=1) .nil) (fun v11 hv=>?_)
       have hF:=zeg hF hv
       have⟨h21,h22,h23,h24,hF⟩:=zla hF
       have⟨x1,h25,hF⟩:=oE hF
       refine DJ (.x zab h21 (.r zab h22 (.x zab h23 (.r zab h24 (.b (zgn h25) .z))))) ?_
       refine Nif hF ?_ ?_ <;> intro hb hF
       ·refine LR0 ?_
        exact zgb [] hF ih1
       ·refine LR0 ?_
        exact zgb [] hF ih1
      ·refine zbm rfl ?_
       have hF:=zaj hF dn1
       exact ze4 v10.1 [] hF
     ·intro v6 hF
      unfold zbn at hF
      refine LR0 ?_
      refine NmQ (fun v7=>zdx v7=some r) (fun v7=>(.w [(100000,.q 53 5 0 0 rc rn (v7.map zab))])) ?_ ?_
      ·refine zb5 ?_
       unfold zdu at hF
       refine zoy hF [] (fun Z v8=>Z.up [0,14,17] [] [100000] [] [(17,.i v8.2)] [] [(100000,.q 53 5 0 0 rc rn (v8.1.map zab))] []) ?_
       intro n1 v8 y1 hF ih1 dn1
       unfold zcl at hF
       refine LR0 ?_
       refine Nif hF ?_ ?_ <;> intro hb hF
       ·refine zb5 ?_
        have⟨h13,h14,h15,h16,hF⟩:=zla hF
        have⟨h17,h18,h19,h20,hF⟩:=zla hF
        have⟨v9,hv,hF⟩:=lS hF
        refine DJ (.x zab h13 (.r zab h14 (.x zab h15 (.r zab h16 (.x zab h17 (.w zab h18 (⟨(zad v8.1 (w64 (v8.2 - 1))).Row,(zad v8.1 (w64 (v8.2 - 1))).Col,(zad v8.1 (w64 (v8.2 - 1))).Time,(zad v8.1 (w64 (v8.2 - 1))).Gone,(zad v8.1 (w64 (v8.2 - 1))).Value⟩:Cell) (.x zab h19 (.wN zab h20 hv .z)))))))) ?_
        refine LR0 ?_
        exact zgb [] hF ih1
       ·refine zbm rfl ?_
        have hF:=zaj hF dn1
        exact ze4 v8.1 [] hF
      ·intro v7 hF
       unfold zdx at hF
       cases hF
       exact Wz [] hfin
    ·refine NRL (w64 (Int.fdiv (IntKind.u64.wrap (w64 (a0+b))) (2 ^ (min (1:Int).toNat 64)))) (fun v12:Int=>([(18,.i v12)],[],[],[])) [] [0,1,2,3,4,18] [] [100000] [] (hc (by decide:(0:Int)<=1) .nil) (fun v12 hv=>?_)
     have hF:=zeg hF hv
     refine LR0 ?_
     refine LR0 ?_
     refine LR0 ?_
     have⟨v13,hv,hF⟩:=oE hF
     refine NmT (fun Z=>Z.up [0,1,2,3,4,18,19,20,21] [] [100000] [] [(20,.i v13.1),(21,.i v13.2)] [] [] []) ?_ ?_
     ·have hF:=hv
      refine Nif hF ?_ ?_ <;> intro hb hF
      ·refine LR0 ?_
       refine LR0 ?_
       cases hF
       exact zgt []
      ·refine LR0 ?_
       refine LR0 ?_
       cases hF
       exact zgt []
     ·refine LR0 ?_
      refine NmS (fun v14=>za8 a0 m b row rec v12 v14=some r) (fun Z v14=>Z.up [0,1,2,3,4,18,19,20] [] [100000] [] [(20,.i v14)] [] [] []) ?_ ?_
      ·refine zb5 ?_
       unfold zbu at hF
       refine zoy hF [] (fun Z v17=>Z.up [0,1,2,3,4,18,19,20,21,22] [] [100000] [] [(20,.i v17.1),(21,.i v17.2)] [] [] []) ?_
       intro n1 v17 y1 hF ih1 dn1
       unfold zbs at hF
       refine LR0 ?_
       refine Nif hF ?_ ?_ <;> intro hb hF
       ·refine zb5 ?_
        refine NRL (w64 (Int.fdiv (IntKind.u64.wrap (w64 (v17.1+v17.2))) (2 ^ (min (1:Int).toNat 64)))) (fun v18:Int=>([(23,.i v18)],[],[],[])) [] [0,1,2,3,4,18,19,20,21,22,23] [] [100000] [] (hc (by decide:(0:Int)<=1) .nil) (fun v18 hv=>?_)
        have hF:=zeg hF hv
        have⟨h32,h33,h34,h35,hF⟩:=zla hF
        have⟨x5,h36,hF⟩:=oE hF
        refine DJ (.x zab h32 (.r zab h33 (.x zab h34 (.r zab h35 (.b (zgn h36) .z))))) ?_
        refine Nif hF ?_ ?_ <;> intro hb hF
        ·refine LR0 ?_
         exact zgb [] hF ih1
        ·refine LR0 ?_
         exact zgb [] hF ih1
       ·refine zbm rfl ?_
        have hF:=zaj hF dn1
        exact ze4 v17.1 [] hF
      ·intro v14 hF
       unfold za8 at hF
       refine LR0 ?_
       refine LR0 ?_
       have⟨v15,hv,hF⟩:=oE hF
       refine NmT (fun Z=>Z.up [0,1,3,4,18,20,24] [] [100000] [] [] [] [(100000,.q 53 5 0 0 rc rn (v15.map zab))] []) ?_ ?_
       ·have hF:=hv
        refine Nif hF ?_ ?_ <;> intro hb hF
        ·have⟨x2,h26,hF⟩:=oE hF
         have p27:=(Pe.ren (zkj 0 rc rn h26) ⟨[],[],[],[]⟩)
         refine RJ (.e [] [100000] p27 .z) ?_
         cases hF
         exact zgt []
        ·cases hF
         exact zgt []
       ·refine LR0 ?_
        have⟨v16,hv,hF⟩:=oE hF
        refine NmT (fun Z=>Z.up [0,3,4,18,24] [] [100000] [] [] [] [(100000,.q 53 5 0 0 rc rn (v16.map zab))] []) ?_ ?_
        ·have hF:=hv
         refine Nif hF ?_ ?_ <;> intro hb hF
         ·have⟨x3,h28,hF⟩:=oE hF
          have p29:=(Pe.ren (ih (a0,v14,v12,v15) 0 rc rn x3 h28) ⟨[],[],[],[]⟩)
          refine RJ (.e [] [100000] p29 .z) ?_
          cases hF
          exact zgt []
         ·cases hF
          exact zgt []
        ·refine LR0 ?_
         refine Nif hF ?_ ?_ <;> intro hb hF
         ·have⟨x4,h30,hF⟩:=oE hF
          have p31:=(Pe.ren (ih (v12,w64 ((w64 (v12+m)) - v14),b,v16) 0 rc rn x4 h30) ⟨[],[],[],[]⟩)
          refine RJ (.e [] [100000] p31 .z) ?_
          cases hF
          exact Wk_end (hfin _ ⟨[100000],[],[100000],[],[],[],by kernel_rfl⟩)
         ·cases hF
          exact Wk_end (hfin _ ⟨[100000],[],[100000],[],[],[],by kernel_rfl⟩)
 have⟨k,hF⟩:=recO_elim hF
 exact key k _ rk rc rn r hF

/- slices.stableCmpFunc[api.Cell] -/
def zeb (v1:Cs):Option Cs:=
 some v1
def zcx (num:Int)(v2 v3:Cs×Int):Option ((Cs×Int)⊕Cs):=
 ob (
  if (decide ((w64 (v3.2+v2.2))<num))=true then
   ob (zb9 v3.2 (w64 (v3.2+v2.2)) num v3.1) fun x1=>
   some x1
  else
   some v3.1) fun v4=>
 some (Sum.inl (v4,w64 (v2.2*2)))
def zcy (num:Int)(v2:Cs×Int)(v5:Cs×Int×Int):Option ((Cs×Int×Int)⊕((Cs×Int)⊕Cs)):=
 if (decide (v5.2.2<=num))=true then
  ob (zb9 v5.2.1 (w64 (v5.2.1+v2.2)) v5.2.2 v5.1) fun x2=>
  some (Sum.inl (x2,v5.2.2,w64 (v5.2.2+(w64 (2*v2.2)))))
 else
  zev (zcx num v2 (v5.1,v5.2.1))
def zea (num:Int)(v2:Cs×Int)(v0:Cs×Int×Int):Option ((Cs×Int)⊕Cs):=
 zbg (fun y=>zcy num v2 y) v0
def zcz (num:Int)(v2:Cs×Int):Option ((Cs×Int)⊕Cs):=
 if (decide (v2.2<num))=true then
  zea num v2 (v2.1,0,w64 (2*v2.2))
 else
  zev (zeb v2.1)
def za5 (num:Int)(v0:Cs×Int):Option Cs:=
 zbg (fun y=>zcz num y) v0
def zcw (num:Int)(v:Cs×Int):Option Cs:=
 ob (za7 v.2 num v.1) fun x=>
 za5 num (x,20)
def zb3 (num:Int)(v6:Cs×Int×Int):Option ((Cs×Int×Int)⊕Cs):=
 if (decide (v6.2.2<=num))=true then
  ob (za7 v6.2.1 v6.2.2 v6.1) fun x3=>
  some (Sum.inl (x3,v6.2.2,w64 (v6.2.2+20)))
 else
  zev (zcw num (v6.1,v6.2.1))
def zb2 (num:Int)(v0:Cs×Int×Int):Option Cs:=
 zbg (fun y=>zb3 num y) v0
def zdk (num:Int)(row:Cs):Option Cs:=
 zb2 num (row,0,20)
theorem zkf (rk rc:Nat)(rn:Bool){num row r}(hF:zdk num row=some r):Pe Tryz.prog 171 (.w [(100000,.q 53 5 0 0 rc rn (row.map zab))]) [.row 100000 0,.i num,.fn 136 []] (.tup []) (.w [(100000,.q 53 5 0 0 rc rn (r.map zab))]):=by
 refine PT 63 [] [] Tryz.func171 ?_
 intro Q g hfin
 unfold zdk at hF
 refine LR0 ?_
 refine LR0 ?_
 refine NmS (fun v=>zcw num v=some r) (fun Z v=>Z.up [0,1,2,6,7] [] [100000] [] [(7,.i v.2)] [] [(100000,.q 53 5 0 0 rc rn (v.1.map zab))] []) ?_ ?_
 ·refine zb5 ?_
  unfold zb2 at hF
  refine zoy hF [] (fun Z v6=>Z.up [0,1,2,6,7,8] [] [100000] [] [(7,.i v6.2.1),(8,.i v6.2.2)] [] [(100000,.q 53 5 0 0 rc rn (v6.1.map zab))] []) ?_
  intro n1 v6 y1 hF ih1 dn1
  unfold zb3 at hF
  refine LR0 ?_
  refine Nif hF ?_ ?_ <;> intro hb hF
  ·refine zb5 ?_
   have⟨x3,h6,hF⟩:=oE hF
   have p7:=(Pe.ren (zen 0 rc rn h6) ⟨[],[],[],[]⟩)
   refine RJ (.e [] [100000] p7 .z) ?_
   refine LR0 ?_
   refine LR0 ?_
   exact zgb [] hF ih1
  ·refine zbm rfl ?_
   have hF:=zaj hF dn1
   exact ze4 (v6.1,v6.2.1) [] hF
 ·intro v hF
  unfold zcw at hF
  have⟨x,h0,hF⟩:=oE hF
  have p1:=(Pe.ren (zen 0 rc rn h0) ⟨[],[],[],[]⟩)
  refine RJ (.e [] [100000] p1 .z) ?_
  refine NmQ (fun v1=>zeb v1=some r) (fun v1=>(.w [(100000,.q 53 5 0 0 rc rn (v1.map zab))])) ?_ ?_
  ·refine zb5 ?_
   unfold za5 at hF
   refine zoy hF [] (fun Z v2=>Z.up [0,1,2,6] [] [100000] [] [(6,.i v2.2)] [] [(100000,.q 53 5 0 0 rc rn (v2.1.map zab))] []) ?_
   intro n1 v2 y1 hF ih1 dn1
   unfold zcz at hF
   refine LR0 ?_
   refine Nif hF ?_ ?_ <;> intro hb hF
   ·refine zb5 ?_
    refine LR0 ?_
    refine NmS (fun v3=>zcx num v2 v3=some y1) (fun Z v3=>Z.up [0,1,2,6,7] [] [100000] [] [(7,.i v3.2)] [] [(100000,.q 53 5 0 0 rc rn (v3.1.map zab))] []) ?_ ?_
    ·refine zb5 ?_
     unfold zea at hF
     refine zoy hF [] (fun Z v5=>Z.up [0,1,2,6,7,8] [] [100000] [] [(7,.i v5.2.1),(8,.i v5.2.2)] [] [(100000,.q 53 5 0 0 rc rn (v5.1.map zab))] []) ?_
     intro n2 v5 y2 hF ih2 dn2
     unfold zcy at hF
     refine LR0 ?_
     refine Nif hF ?_ ?_ <;> intro hb hF
     ·refine zb5 ?_
      have⟨x2,h4,hF⟩:=oE hF
      have p5:=(Pe.ren (zfg 0 rc rn h4) ⟨[],[],[],[]⟩)
      refine RJ (.e [] [100000] p5 .z) ?_
      refine LR0 ?_
      refine LR0 ?_
      exact zgb [] hF ih2
     ·refine zbm rfl ?_
      have hF:=zaj hF dn2
      exact ze4 (v5.1,v5.2.1) [] hF
    ·intro v3 hF
     unfold zcx at hF
     refine LR0 ?_
     refine LR0 ?_
     have⟨v4,hv,hF⟩:=oE hF
     refine NmT (fun Z=>Z.up [0,1,2,6] [] [100000] [] [] [] [(100000,.q 53 5 0 0 rc rn (v4.map zab))] []) ?_ ?_
     ·have hF:=hv
      refine Nif hF ?_ ?_ <;> intro hb hF
      ·have⟨x1,h2,hF⟩:=oE hF
       have p3:=(Pe.ren (zfg 0 rc rn h2) ⟨[],[],[],[]⟩)
       refine RJ (.e [] [100000] p3 .z) ?_
       cases hF
       exact zgt []
      ·cases hF
       exact zgt []
     ·refine LR0 ?_
      exact zgb [] hF ih1
   ·refine zbm rfl ?_
    have hF:=zaj hF dn1
    exact ze4 v2.1 [] hF
  ·intro v1 hF
   unfold zeb at hF
   cases hF
   exact Wk_end (hfin _ ⟨[100000],[],[100000],[],[],[],by kernel_rfl⟩)

/- slices.SortStableFunc[[]api.Cell,api.Cell] -/
def zbc (row:Cs):Option Cs:=
 ob (zdk (row.length:Int) row) fun x=>
 some x
theorem zg7 (rk rc:Nat)(rn:Bool){row r}(hF:zbc row=some r):Pe Tryz.prog 158 (.w [(100000,.q 53 5 0 0 rc rn (row.map zab))]) [.row 100000 0,.fn 136 []] (.tup []) (.w [(100000,.q 53 5 0 0 rc rn (r.map zab))]):=by
 refine PT 9 [] [] Tryz.func158 ?_
 intro Q g hfin
 unfold zbc at hF
 have⟨x,h0,hF⟩:=oE hF
 have p1:=(Pe.ren (zkf 0 rc rn h0) ⟨[],[],[],[]⟩)
 refine RJ (.l zab row (.e [] [100000] p1 .z)) ?_
 cases hF
 exact Wk_end (hfin _ ⟨[100000],[],[100000],[],[],[],by kernel_rfl⟩)

/- cell.Merge$1 -/
def zkx (a0 b:Cell):Option Bool:=
 ob (zge a0 b) fun x=>
 some (decide (x=0))
theorem cell_Merge_1_ok {a0 b r}(hF:zkx a0 b=some r):Pe Tryz.prog 160 S.none [.agg (zg9 a0),.agg (zg9 b)] (.bool r) S.none:=by
 refine PT 9 [.tmp 4] [4] Tryz.func160 ?_
 intro Q g hfin
 unfold zkx at hF
 refine LR0 ?_
 have⟨x,h0,hF⟩:=oE hF
 refine RJ (.b (zgn h0) .z) ?_
 cases hF
 exact Wz [] hfin

/- slices.CompactFunc[[]api.Cell,api.Cell] -/
def zb0 (row:Cs)(v:Unit):Option Cs:=
 some row
def zbz (v2:Cs×Int):Option (Int⊕Cs):=
 zao (0<=v2.2/\v2.2<=(v2.1.length:Int)) <|
 lt ((zo3 v2.1 v2.2.toNat (v2.1.length - v2.2.toNat) ((⟨([]:B8),([]:B8),0,false,([]:B8)⟩:Cell):Cell))) fun (v3:Cs)=>
 zao (0<=v2.2/\v2.2<=(v3.length:Int)) <|
 zao (v2.2.toNat<=v3.length) <|
 some (Sum.inr (v3.take v2.2.toNat))
def zbd (row:Cs)(v1:Int)(v4:Cs×Int×Int):Option ((Cs×Int×Int)⊕(Int⊕Cs)):=
 if (decide (v4.2.2<(((row.length - v1.toNat):Nat):Int)))=true then
  zao (0<=v4.2.2/\v4.2.2.toNat<(row.length - v1.toNat)) <|
  zao (0<=(((v1.toNat+v4.2.2.toNat):Nat):Int)/\(((v1.toNat+v4.2.2.toNat):Nat):Int)<(v4.1.length:Int)) <|
  zao (0<=w64 (v4.2.2 - 1)/\(w64 (v4.2.2 - 1)).toNat<(row.length - v1.toNat)) <|
  zao (0<=(((v1.toNat+(w64 (v4.2.2 - 1)).toNat):Nat):Int)/\(((v1.toNat+(w64 (v4.2.2 - 1)).toNat):Nat):Int)<(v4.1.length:Int)) <|
  ob (zkx (⟨(zad v4.1 (((v1.toNat+v4.2.2.toNat):Nat):Int)).Row,(zad v4.1 (((v1.toNat+v4.2.2.toNat):Nat):Int)).Col,(zad v4.1 (((v1.toNat+v4.2.2.toNat):Nat):Int)).Time,(zad v4.1 (((v1.toNat+v4.2.2.toNat):Nat):Int)).Gone,(zad v4.1 (((v1.toNat+v4.2.2.toNat):Nat):Int)).Value⟩:Cell) (⟨(zad v4.1 (((v1.toNat+(w64 (v4.2.2 - 1)).toNat):Nat):Int)).Row,(zad v4.1 (((v1.toNat+(w64 (v4.2.2 - 1)).toNat):Nat):Int)).Col,(zad v4.1 (((v1.toNat+(w64 (v4.2.2 - 1)).toNat):Nat):Int)).Time,(zad v4.1 (((v1.toNat+(w64 (v4.2.2 - 1)).toNat):Nat):Int)).Gone,(zad v4.1 (((v1.toNat+(w64 (v4.2.2 - 1)).toNat):Nat):Int)).Value⟩:Cell)) fun x1=>
  ob (
   if (!x1)=true then
    zao (0<=v4.2.2/\v4.2.2.toNat<(row.length - v1.toNat)) <|
    zao (0<=(((v1.toNat+v4.2.2.toNat):Nat):Int)/\(((v1.toNat+v4.2.2.toNat):Nat):Int)<(v4.1.length:Int)) <|
    zao (0<=v4.2.1/\v4.2.1<(v4.1.length:Int)) <|
    zao (0<=v4.2.1/\v4.2.1<(v4.1.length:Int)) <|
    lt ((zem v4.1 v4.2.1 (⟨(zad v4.1 (((v1.toNat+v4.2.2.toNat):Nat):Int)).Row,(zad v4.1 (((v1.toNat+v4.2.2.toNat):Nat):Int)).Col,(zad v4.1 (((v1.toNat+v4.2.2.toNat):Nat):Int)).Time,(zad v4.1 (((v1.toNat+v4.2.2.toNat):Nat):Int)).Gone,(zad v4.1 (((v1.toNat+v4.2.2.toNat):Nat):Int)).Value⟩:Cell))) fun v6=>
    some (v6,w64 (v4.2.1+1))
   else
    some (v4.1,v4.2.1)) fun v5=>
  some (Sum.inl (v5.1,v5.2,w64 (v4.2.2+1)))
 else
  zev (zbz (v4.1,v4.2.1))
def zbw (row:Cs)(v1:Int)(v0:Cs×Int×Int):Option (Int⊕Cs):=
 zbg (fun y=>zbd row v1 y) v0
def za9 (row:Cs)(v1:Int):Option (Int⊕Cs):=
 if (decide (v1<(row.length:Int)))=true then
  zao (0<=v1/\v1<(row.length:Int)) <|
  zao (0<=v1/\v1<(row.length:Int)) <|
  zao (0<=w64 (v1 - 1)/\w64 (v1 - 1)<(row.length:Int)) <|
  zao (0<=w64 (v1 - 1)/\w64 (v1 - 1)<(row.length:Int)) <|
  ob (zkx (⟨(zad row v1).Row,(zad row v1).Col,(zad row v1).Time,(zad row v1).Gone,(zad row v1).Value⟩:Cell) (⟨(zad row (w64 (v1 - 1))).Row,(zad row (w64 (v1 - 1))).Col,(zad row (w64 (v1 - 1))).Time,(zad row (w64 (v1 - 1))).Gone,(zad row (w64 (v1 - 1))).Value⟩:Cell)) fun x=>
  if x=true then
   zao (0<=v1/\v1<=(row.length:Int)) <|
   zbw row v1 (row,v1,1)
  else
   some (Sum.inl (w64 (v1+1)))
 else
  zev (zb0 row ())
def zc4 (row:Cs)(v0:Int):Option Cs:=
 zbg (fun y=>za9 row y) v0
def zbh (row:Cs):Option Cs:=
 if (decide ((row.length:Int)<2))=true then
  some row
 else
  zc4 row 1
theorem zh3 (rk rc:Nat)(rn:Bool){row r}(hF:zbh row=some r):Pe Tryz.prog 159 (.w [(100000,.q 53 5 0 0 rc rn (row.map zab))]) [.row 100000 0,.fn 160 []] (.row 100000 1) ⟨[],[],[(100000,.o 53 5 1 (r.map zab))],[],[]⟩:=by
 refine PT 66 [.tmp 4] [28] Tryz.func159 ?_
 intro Q g hfin
 unfold zbh at hF
 refine LR0 ?_
 refine RJ (.l zab row .z) ?_
 refine Nif hF ?_ ?_ <;> intro hb hF
 ·refine LR0 ?_
  cases hF
  exact Wz [(100000,⟨1,false,false,false⟩)] hfin
 ·refine LR0 ?_
  refine NmS (fun v=>zb0 row v=some r) (fun Z v=>Z.up [0] [] [100000] [] [] [] [] []) ?_ ?_
  ·refine zb5 ?_
   unfold zc4 at hF
   refine zoy hF [] (fun Z v1=>Z.up [0,1,5] [] [100000] [] [(5,.i v1)] [] [] []) ?_
   intro n1 v1 y1 hF ih1 dn1
   unfold za9 at hF
   refine RJ (.l zab row .z) ?_
   refine Nif hF ?_ ?_ <;> intro hb hF
   ·refine zb5 ?_
    have⟨h0,h1,h2,h3,hF⟩:=zla hF
    have⟨x,h4,hF⟩:=oE hF
    refine DJ (.x zab h0 (.r zab h1 (.x zab h2 (.r zab h3 (.b (cell_Merge_1_ok h4) .z))))) ?_
    refine Nif hF ?_ ?_ <;> intro hb hF
    ·have⟨h5,hF⟩:=aE hF
     refine RJ (.a (.vw (row.length - v1.toNat)) (.g (vw10_ok zab h5) .z)) ?_
     refine LR0 ?_
     refine NmQ (fun v2=>zbz v2=some y1) (fun v2=>⟨[(0,.row 100000 0),(5,.i v2.2)],[],[(100000,.q 53 5 0 0 rc rn (v2.1.map zab))],[],[]⟩) ?_ ?_
     ·refine zb5 ?_
      unfold zbw at hF
      refine zoy hF [] (fun Z v4=>Z.up [0,1,5,6,7] [] [100000] [] [(5,.i v4.2.1),(7,.i v4.2.2)] [] [(100000,.q 53 5 0 0 rc rn (v4.1.map zab))] []) ?_
      intro n2 v4 y2 hF ih2 dn2
      unfold zbd at hF
      refine LR0 ?_
      refine Nif hF ?_ ?_ <;> intro hb hF
      ·refine zb5 ?_
       have⟨h9,h10,h11,h12,hF⟩:=zla hF
       have⟨x1,h13,hF⟩:=oE hF
       refine DJ (.g h9 (.r zab h10 (.g h11 (.r zab h12 (.b (cell_Merge_1_ok h13) .z))))) ?_
       have⟨v5,hv,hF⟩:=oE hF
       refine NmT (fun Z=>Z.up [0,1,5,6,7] [] [100000] [] [(5,.i v5.2)] [] [(100000,.q 53 5 0 0 rc rn (v5.1.map zab))] []) ?_ ?_
       ·have hF:=hv
        refine Nif hF ?_ ?_ <;> intro hb hF
        ·have⟨h14,hF⟩:=aE hF
         have⟨h15,h16,hF⟩:=zf7 hF
         have⟨h17,hF⟩:=aE hF
         have⟨v6,hv,hF⟩:=lS hF
         refine RJ (.g h14 (.r zab h15 (.x zab h16 (.wN zab h17 hv .z)))) ?_
         refine LR0 ?_
         cases hF
         exact zgt []
        ·cases hF
         exact zgt []
       ·refine LR0 ?_
        exact zgb [] hF ih2
      ·refine zbm rfl ?_
       have hF:=zaj hF dn2
       exact ze4 (v4.1,v4.2.1) [] hF
     ·intro v2 hF
      unfold zbz at hF
      have⟨h6,hF⟩:=aE hF
      refine NRL ((zo3 v2.1 v2.2.toNat (v2.1.length - v2.2.toNat) ((⟨([]:B8),([]:B8),0,false,([]:B8)⟩:Cell):Cell))) (fun v3:Cs=>([],[],[(100000,.q 53 5 0 0 rc rn (v3.map zab))],[])) [.vw (v2.1.length - v2.2.toNat),.xs ((zo3 v2.1 v2.2.toNat (v2.1.length - v2.2.toNat) ((⟨([]:B8),([]:B8),0,false,([]:B8)⟩:Cell):Cell)).map zab)] [0,5] [] [100000] [] (hc (vw10_ok zab h6) (hc (clr_ok zab v2.1 v2.2.toNat (v2.1.length - v2.2.toNat) ((⟨([]:B8),([]:B8),0,false,([]:B8)⟩:Cell):Cell)) (hc (xa2 v2.2.toNat) .nil))) (fun v3 hv=>?_)
      have hF:=zeg hF hv
      have⟨h7,hF⟩:=aE hF
      refine VR [.vw v2.2.toNat] [4] [] [100000] [] [(4,.rowv 100000 0 0 v2.2.toNat)] [] [(100000,.q 53 5 0 0 rc rn (v3.map zab))] [] (hc (vw01_ok (cm:=rc) zab h7) .nil) ?_
      have⟨h8,hF⟩:=aE hF
      refine Wk_truncL 4 100000 0 v2.2.toNat ((v3.take v2.2.toNat).map zab) rfl rfl rfl rfl (tk_ok zab h8).1 (xa2 _) (xcz).symm ?_
      have hF:=zcr hF dn1
      cases hF
      exact Wz [(100000,⟨1,false,true,false⟩)] hfin
    ·refine LR0 ?_
     exact zgb [] hF ih1
   ·refine zbm rfl ?_
    have hF:=zaj hF dn1
    exact ze4 () [] hF
  ·intro v hF
   unfold zb0 at hF
   refine LR0 ?_
   cases hF
   exact Wz [(100000,⟨1,false,false,false⟩)] hfin

/- cell.Merge -/
def zmh (lists:List Cs):Option Cs:=
 ob (zdn lists) fun x=>
 ob (zbc x) fun x1=>
 ob (zbh x1) fun x2=>
 some x2
theorem zta {lists r}(hF:zmh lists=some r):Pe Tryz.prog 131 (.w []) [.sl 1 (lists.map zal)] (.row 5 1) ⟨[],[],[(5,.o 53 5 1 (r.map zab))],[],[]⟩:=by
 refine PT 10 [.tmp 2] [28] Tryz.func131 ?_
 intro Q g hfin
 unfold zmh at hF
 refine LR0 ?_
 have⟨x,h0,hF⟩:=oE hF
 have p1:=(Pe.ren (zkz h0) ⟨[],[(24,5)],[],[]⟩)
 refine RJ (.e [] [] p1 .z) ?_
 have⟨x1,h2,hF⟩:=oE hF
 have p3:=(Pe.ren (zg7 0 0 false h2) ⟨[],[(100000,5)],[],[]⟩)
 refine RJ (.e [] [5] p3 .z) ?_
 have⟨x2,h4,hF⟩:=oE hF
 have p5:=(Pe.ren (zh3 0 0 false h4) ⟨[],[(100000,5)],[],[]⟩)
 refine RJ (.e [] [5] p5 .z) ?_
 cases hF
 exact Wz [] hfin

/- wal.Put -/
section
open Go.RowKit Go.Shelf Go.Proofs
attribute [local go_sem] Oper.semAt_some
set_option maxRecDepth 100000 in
set_option maxHeartbeats 4000000 in
theorem wal_Put_back1_in (F:Fence)(n:Nat)(h8:F.fn 166)(hro:F.round=none)(hn:1<=n)(l Bs n₀ b off len cap:Nat)(zs:Nat->Int×Option Addr×Nat×Nat)(hlen:len<=140737488351232)(hb:b<n₀)(J Jx:List (Nat×Int×Option Addr×Nat×Nat)->World->Prop)
    (hY:∀ pre x W,J pre W->pre.length<len->YieldAt F (n - 1) Tryz.prog l #[.int .i64 (x.1:Int),.agg #[.int .i64 x.2.1,.slice x.2.2.1 x.2.2.2.1 x.2.2.2.2]] W fun e W'=>
      (e = .returned (.bool true)/\J (pre++[x]) W'/\KpB n₀ Bs W W')\/(e = .returned (.bool false)/\Jx (pre++[x]) W'))
    (W:World)(hBs:W.cell? ⟨Bs,0,none⟩=some (.slice (some ⟨b,off,none⟩) len cap))
    (hc0:∀ j,j<len->W.cell? ⟨b,off+j*2,none⟩=some (.int .i64 (zs j).1))(hc1:∀ j,j<len->W.cell? ⟨b,off+j*2+1,none⟩=some (.slice (zs j).2.1 (zs j).2.2.1 (zs j).2.2.2))(h0:J [] W) :
    CallsIn F n Tryz.prog 166 #[.func (.yield l) #[] #[],.pointer (some ⟨Bs,0,none⟩)] W fun e W'=>(∃ v,e = .returned v)/\
      ((∃ ys,ys=zl5 zs len len/\J ys W')\/(∃ pre,(∃ k,k<=len/\pre=zl5 zs len k)/\Jx pre W')):=by
  refine callsIn_of_wp Tryz.func166 rfl h8 ?_ hro
  simp only [Tryz.ntmps166,xbn,xah,xax,Nat.reduceAdd,Nat.reduceSub,xdz,xdy,xeb,xd3,xbk,xbq]
  have hw0:IntKind.i64.wrap ((len:Int) - 1)=(len:Int) - 1:=by rw [xdv]; omega
  gi_wp2
  gi_loopw [3] (fun i wr=>∃ m:Nat,m<=len/\i = .int .i64 ((m:Int) - 1)/\J (zl5 zs len (len - m)) wr/\KpB n₀ Bs W wr)
    (fun i _=>(intOf i+1).toNat)
  case atStart=>exact ⟨len,xae _,rfl,by rw [Nat.sub_self]; exact h0,KpB.refl _ _ _⟩
  case round=>
    obtain ⟨m,hm,rfl,hJs,hnx⟩:=hrel
    cases m with
    | zero=>
      gi_wp2
      go_end0
      exact ⟨⟨_,rfl⟩,.inl ⟨_,rfl,hJs⟩⟩
    | succ j=>
      have hj1:((j+1:Nat):Int) - 1=(j:Int):=by omega
      have hj0:(0:Int)<=(j:Int):=by omega
      have hjl:j<len:=by omega
      have hjz:¬ ((j:Int)<0):=by omega
      have hw1:IntKind.i64.wrap ((j:Int) - 1)=(j:Int) - 1:=by rw [xdv]; omega
      have hk:len - 1 - (len - (j+1))=j:=by omega
      have hcx0:wr.cell? ⟨b,off+j*2,none⟩=some (.int .i64 (zs j).1):=(hnx.1.cell (p:=⟨b,off+j*2,none⟩) hb).trans (hc0 j hjl)
      have hcx1:wr.cell? ⟨b,off+j*2+1,none⟩=some (.slice (zs j).2.1 (zs j).2.2.1 (zs j).2.2.2):=(hnx.1.cell (p:=⟨b,off+j*2+1,none⟩) hb).trans (hc1 j hjl)
      have hBx:wr.cell? ⟨Bs,0,none⟩=some (.slice (some ⟨b,off,none⟩) len cap):=hnx.cell hBs
      obtain ⟨fn,tmps,assign,body,hy,hR⟩:=hY _ (j,zs j) wr hJs (by rw [backTo_length]; omega)
      dsimp only at hy
      rw [hj1]
      gi_wp2
      refine hR.mono ?_
      rintro e W3 (⟨rfl,hJ3,hk3⟩ | ⟨rfl,hJx3⟩)
      · gi_wp2
        go_roundw
        case rel=>
          refine ⟨j,by omega,rfl,?_,hnx.trans hk3⟩
          have:len - j=(len - (j+1))+1:=by omega
          rw [this,backTo_succ,hk]; exact hJ3
        case measure=>simp [intOf]
      · gi_wp2
        refine bodyPost_ret (results_none rfl _ _ _) rfl ?_
        refine ⟨⟨_,rfl⟩,.inr ⟨_,⟨len - (j+1)+1,by omega,rfl⟩,?_⟩⟩
        rw [backTo_succ,hk]; exact hJx3
set_option maxRecDepth 100000 in
set_option maxHeartbeats 1000000 in
/-- .. at the empty slice: no round -/
theorem wal_Put_back1_nil_in (F:Fence)(n:Nat)(h8:F.fn 166)(hro:F.round=none)(l Bs:Nat)(a:Option Addr)(cap:Nat)(J:List (Nat×Int×Option Addr×Nat×Nat)->World->Prop)(W:World)(hBs:W.cell? ⟨Bs,0,none⟩=some (.slice a 0 cap))(h0:J [] W) :
    CallsIn F n Tryz.prog 166 #[.func (.yield l) #[] #[],.pointer (some ⟨Bs,0,none⟩)] W fun e W'=>(∃ v,e = .returned v)/\J [] W':=by
  refine callsIn_of_wp Tryz.func166 rfl h8 ?_ hro
  simp only [Tryz.ntmps166,xbn,xah,xax,Nat.reduceAdd,Nat.reduceSub,xdz,xdy,xeb,xd3,xbk,xbq]
  gi_wp2
  gi_loopw [3] (fun i wr=>i = .int .i64 (-1)/\J [] wr) (fun _ _=>0)
  case atStart=>exact ⟨rfl,h0⟩
  case round=>
    obtain ⟨rfl,hJs⟩:=hrel
    gi_wp2
    go_end0
    exact ⟨⟨_,rfl⟩,hJs⟩
set_option maxHeartbeats 1000000 in
theorem wal_Put_back_in (F:Fence)(n:Nat)(h5:F.fn 145)(hro:F.round=none)(a:Option Addr)(len cap:Nat)(w:World) :
    CallsIn F n Tryz.prog 145 #[.slice a len cap] w fun e w'=>e = .returned (.func (.func 166) #[] #[.pointer (some ⟨w.heap.size,0,none⟩)])/\w'=w.alloc (.cells #[.slice a len cap] 41):=by
  refine callsIn_of_wp Tryz.func145 rfl h5 ?_ hro
  simp only [Tryz.ntmps145,xbn,xah,xax,Nat.reduceAdd,Nat.reduceSub,xdz,xdy,xeb,xd3,xbk,xbq]
  gi_wp2
  go_ret
  exact ⟨rfl,rfl⟩
theorem wal_Put_back_stops (F:Fence)(n:Nat)(h8:F.fn 166)(hro:F.round=none)(hn:1<=n)(Bs n₀:Nat)(sv:Value)(len:Nat)(zs:Nat->Int×Option Addr×Nat×Nat)(hlen:len<=140737488351232)(w:World)(hBs:Bs<w.heap.size)(hn₀:n₀<=w.heap.size)
    (hc:w.cell? ⟨Bs,0,none⟩=some sv)(hI:Notes2 n₀ w sv len zs) :
    SeqStopsK F n Tryz.prog 166 #[.pointer (some ⟨Bs,0,none⟩)] (fun x:Nat×Int×Option Addr×Nat×Nat=>#[Value.int .i64 (x.1:Int),.agg #[.int .i64 x.2.1,.slice x.2.2.1 x.2.2.2.1 x.2.2.2.2]]) (KpB n₀ Bs) (fun ys=>ys=zl5 zs len len)
      (fun pre=>∃ k,k<=len/\pre=zl5 zs len k) len w:=fun l J Jx W hW _ _ hY h0=>by
  have hc':=(hW.cell (p:=⟨Bs,0,none⟩) hBs).trans hc
  rcases hI.below (hW.mono hn₀) with ⟨a,cap,rfl,rfl⟩ | ⟨b,off,cap,rfl,hb,hcs,hds⟩
  · exact (wal_Put_back1_nil_in F n h8 hro l Bs a cap J W hc' h0).mono fun e W' ⟨he,hj⟩=>⟨he,.inl ⟨_,rfl,hj⟩⟩
  · exact wal_Put_back1_in F n h8 hro hn l Bs n₀ b off len cap zs hlen hb J Jx hY W hc' hcs hds h0
theorem wal_Put_infoTC:(Tryz.prog.info? 28).map (fun i=>(i.zero,i.size,i.bytes))=some (some (.slice none 0 0),1,24):=by kernel_rfl
set_option maxRecDepth 100000 in
set_option maxHeartbeats 4000000 in
theorem wal_Put_put_in (F:Fence)(n:Nat)(hp:F.fn 116)(hb:F.fn 145)(hcl:F.fn 166)(hme:F.fn 131)(hro:F.round=none)(hn:3<=n)(a0:Option Addr)(n0 c0:Nat)(a:Option Addr)(len cap:Nat)(zs:Nat->Int×Option Addr×Nat×Nat)(hlen:(len+1)*24<=140737488351232)(w:World)
    (hI:Notes2 w.heap.size w (.slice a len cap) len zs)(R:Ending->World->Prop)
    (hM:∀ (W:World) (v:Value) (D:Nat),w.heap.size<=D->W.heap[D]?=some (.deferred (some []))->Below w.heap.size w W->W.ownsRow w.heap.size 28 1 v (len+1) ((zl5 zs len len).map (fun x=>Value.slice x.2.2.1 x.2.2.2.1 x.2.2.2.2)++[.slice a0 n0 c0])->
      CallsIn F (n - 1) Tryz.prog 131 #[v] W fun e W'=>∃ r,e = .returned r/\W'.heap[D]?=some (.deferred (some []))/\R (.returned r) (W'.putObj D (.deferred none))) :
    CallsIn F n Tryz.prog 116 #[.slice a0 n0 c0,.slice a len cap] w R:=by
  have h1:1<=n:=by omega
  obtain ⟨i0,hi,hz0,hzs,hzb⟩:=info_parts wal_Put_infoTC
  have hw1:IntKind.i64.wrap ((len:Int)+1)=((len+1:Nat):Int):=by rw [xdv]; omega
  refine callsIn_of_wp_marks Tryz.func116 rfl hp ?_ hro
  simp only [Tryz.ntmps116,xbn,xah,xax,Nat.reduceAdd,Nat.reduceSub,xdz,xdy,xeb,xd3,xbk,xbq]
  gi_wp2_with (first
    | (gi_at_make; refine wpListIn_make_own _ rfl _ _ 42 rfl w.heap.size 28 i0 (.slice none 0 0) 1 Tryz.underlying42 hi hz0 hzs .i64 .i64 _ (len+1) rfl rfl (by simp) (by rw [hzb]; omega) (by show len+1<=9223372036854775807; omega) (xae _) ?_; intro w1 hown1 hgr1)
    | (gi_at_call 145; refine (wal_Put_back_in F (n - 1) hb hro _ _ _ _).mono ?_; rintro e w' ⟨rfl,rfl⟩))
  have hlt1:w.heap.size<w1.heap.size:=by
    rcases hown1.2 with ⟨h,_⟩ | ⟨g,cap',cur,e,_,hg,_⟩
    · cases h
    · simp only [Value.slice.injEq,Option.some.injEq,Addr.mk.injEq] at e
      obtain ⟨⟨rfl,_⟩,_⟩:=e
      exact (xda.1 hg).1
  have bO:=(Boxed.new w1 42 (.slice (some ⟨w.heap.size,0,none⟩) 0 (len+1))).alloc (.cells #[.slice a len cap] 41)
  have bN:=Boxed.new (w1.alloc (.cells #[.slice (some ⟨w.heap.size,0,none⟩) 0 (len+1)] 42)) 41 (.slice a len cap)
  rw [World.size_alloc] at bN
  have hB1:Below w.heap.size w w1:=(Below.refl _ w).grown hgr1 (xae _) (fun k e=>by cases e)
  have hB0:Below w.heap.size w ((w1.alloc (.cells #[.slice (some ⟨w.heap.size,0,none⟩) 0 (len+1)] 42)).alloc (.cells #[.slice a len cap] 41)):=(hB1.alloc (by omega) _).alloc (by simp; omega) _
  have hR0:=(hown1.alloc (.cells #[.slice (some ⟨w.heap.size,0,none⟩) 0 (len+1)] 42)).alloc (.cells #[.slice a len cap] 41)
  have hsz:((w1.alloc (.cells #[.slice (some ⟨w.heap.size,0,none⟩) 0 (len+1)] 42)).alloc (.cells #[.slice a len cap] 41)).heap.size=w1.heap.size+2:=by simp
  obtain ⟨W0,hW0⟩:∃ W0,((w1.alloc (.cells #[.slice (some ⟨w.heap.size,0,none⟩) 0 (len+1)] 42)).alloc (.cells #[.slice a len cap] 41))=W0:=⟨_,rfl⟩
  rw [hW0] at bO bN hB0 hR0 hsz ⊢
  obtain ⟨B5,hB5⟩:∃ B5,w1.heap.size=B5:=⟨_,rfl⟩
  rw [hB5] at bO bN hsz hlt1 ⊢
  clear hW0 hB5 hown1 hgr1 hB1
  refine wpIn_rangeFunc_ownH hro h1 (gf:=166) (lb:=#[.pointer (some ⟨B5+1,0,none⟩)]) rfl hcl (enters_of Tryz.func166 (by kernel_rfl) rfl)
    (wal_Put_back_stops F (n - 1) hcl hro (by omega) (B5+1) w.heap.size _ len zs (by omega) W0 (by omega) (by omega) bN.cell (hI.below hB0))
    (fun h k=>h.trans k) (fun W l o o' hl h h2 h3=>⟨belowK_b (w:=W0) (by omega) W l o o' hl h h2 h3,by
      simp only [World.putObj]
      rw [Array.getElem?_setIfInBounds,xab (by omega)]⟩) (Below.refl _ _) (fun _=>rfl)
    (fun pre W=>((∃ v,Boxed W B5 42 v/\W.ownsRow w.heap.size 28 1 v pre.length (pre.map fun x=>Value.slice x.2.2.1 x.2.2.2.1 x.2.2.2.2)/\True)/\Boxed W (B5+1) 41 (.slice a len cap))/\Below w.heap.size w W)
    (fun _ _ _=>False)
    (OwnFrom.and (OwnFrom.and (Own.from (holdsRow_own w.heap.size B5 42 28 1 (fun pre:List (Nat×Int×Option Addr×Nat×Nat)=>pre.length) (fun pre=>pre.map fun x=>Value.slice x.2.2.1 x.2.2.2.1 x.2.2.2.2) (fun pre v=>True)) _) (Own.from (boxed_own _ _ _) _)) (ownFrom_below (xae _) (by omega)))
    (fun _ _ _ _ _ hs _ _=>hs)
    ⟨⟨⟨_,bO,hR0,trivial⟩,bN⟩,hB0⟩
    (fun x a' W=>∃ Bx,B5+1<Bx/\W.heap[Bx]?=some (.cells #[.int .i64 x.2.1,.slice x.2.2.1 x.2.2.2.1 x.2.2.2.2] 50 (0,0))/\a'={ tmps:=#[Value.slice a0 n0 c0,Value.slice a len cap,undef,undef,Value.slice none 0 0,Value.pointer (some { block:=B5,off:=0 }),undef,.pointer (some ⟨Bx,0,none⟩),Value.slice a len cap,Value.int IntKind.i64 ↑len,Value.int IntKind.i64 (↑len+1),Value.slice (some { block:=w.heap.size,off:=0 }) 0 (len+1),Value.slice a len cap,Value.func (Fn.func 166) #[] #[Value.pointer (some { block:=B5+1,off:=0 })],.int .i64 (x.1:Int),.agg #[.int .i64 x.2.1,.slice x.2.2.1 x.2.2.2.1 x.2.2.2.2],undef,undef,undef,undef,undef,undef,undef,undef,undef,undef],defers:=[] })
    (fun x a' _ X Y row hs hg hr=>by
      obtain ⟨Bx,h1,h2,h3⟩:=hs
      refine ⟨Bx,h1,(hg.block Bx (xda.1 h2).1 fun e=>?_).trans h2,h3⟩
      obtain ⟨_,o,ho,hc⟩:=hr Bx e.symm
      rw [h2] at ho; cases ho; cases hc)
    ?assign ?body ?done ?stop
  case assign=>
    rintro l pre x W K ⟨⟨⟨v,bv,hv,_⟩,bn⟩,hB⟩ hK
    gi_wp2
    exact hK _ _ ((KeepsOthers.alloc _ _).from _) ⟨(Below.refl _ W).alloc hB.size _,(bn.alloc _).trans bn.symm⟩ ⟨⟨⟨v,bv.alloc _,hv.alloc _,trivial⟩,bn.alloc _⟩,hB.alloc hB.size _⟩ ⟨W.heap.size,bn.lt,World.alloc_heap_new W _,rfl⟩
  case body=>
    rintro l pre x a' W hl ⟨r,hr⟩ ⟨⟨⟨v,bv,hv,_⟩,bn⟩,hB⟩ ⟨Bx,hBx,bX,rfl⟩ hlt
    obtain ⟨cx0,cx1,_,_⟩:=boxed2 bX
    have hc:=bv.cell
    have hmx:maxLen=9223372036854775807:=rfl
    gi_wp2_with (gi_at_builtin; refine wpListIn_append_own _ rfl _ _ 42 rfl w.heap.size 28 i0 (.slice none 0 0) 1 24 Tryz.underlying42 hi hz0 hzs hzb rfl (by decide) _ _ _ rfl (hv.alloc _) ⟨W.heap.size,0,none⟩ 1 1 [.slice x.2.2.1 x.2.2.2.1 x.2.2.2.2] rfl rfl (cell_one_new _ _ _) (by simp [Value.oneCell']) (by omega) (by omega) (by have:=hB.size; simp; omega) ?_; intro v' w2 hown' hgrow _; have hne:=(bn.alloc (.cells #[.slice x.2.2.1 x.2.2.2.1 x.2.2.2.2] 28)).kept hgrow ((bn.alloc _).not_row (by decide) (hv.alloc (.cells #[.slice x.2.2.1 x.2.2.2.1 x.2.2.2.2] 28))); obtain ⟨g',cap',rfl⟩:=ownsRow_succ hown'; obtain ⟨hv1,hv2,hr2,hk2,hb2⟩:=bv.appended (by decide) hv hB.size (by omega) hown' hgrow; have hc1:=hv1.cell; have hf1:=hv1.frozen)
    have hn2:=hne.other (B':=B5) (by omega) (.slice (some ⟨g',0,none⟩) (pre.length+1) cap')
    exact ⟨hk2.from _,⟨hb2,hn2.trans bn.symm⟩,⟨⟨_,hv2,by simpa using hr2,trivial⟩,hn2⟩,hB.trans hb2⟩
  case done=>
    rintro D ys W hD rfl ⟨⟨⟨v,bv,hv,_⟩,bn⟩,hB⟩ hK
    rw [backTo_length] at hv
    have hc:=bv.cell
    have hmx:maxLen=9223372036854775807:=rfl
    gi_wp2_with ((gi_at_builtin; refine wpListIn_append_own _ rfl _ _ 42 rfl w.heap.size 28 i0 (.slice none 0 0) 1 24 Tryz.underlying42 hi hz0 hzs hzb rfl (by decide) _ _ _ rfl (hv.alloc _) ⟨W.heap.size,0,none⟩ 1 1 [.slice a0 n0 c0] rfl rfl (cell_one_new _ _ _) (by simp [Value.oneCell']) (by omega) (by omega) (by have:=hB.size; simp; omega) ?_; intro v' w2 hown' hgrow _))
    have hg2:=hB.size
    have hDl:D<W.heap.size:=(xda.1 hK).1
    have hrowD:some D≠v.ownBlock:=by
      rcases hv.2 with ⟨rfl,_⟩ | ⟨g,cap,cur,rfl,_,hgb,_⟩
      · simp [Value.ownBlock]
      · intro e'
        obtain rfl:D=g:=by simpa [Value.ownBlock] using e'
        rw [hgb] at hK; cases hK
    have hvb:∀ j,v.ownBlock=some j->w.heap.size<=j:=by
      intro j ej
      rcases hv.2 with ⟨rfl,_⟩ | ⟨g,cap,cur,rfl,hgl,hgb,_⟩
      · simp [Value.ownBlock] at ej
      · obtain rfl:g=j:=by simpa [Value.ownBlock] using ej
        exact hgl
    refine (hM w2 v' D (by omega) ?_ ?_ hown').mono ?_
    · refine (hgrow.block D (by simp; omega) hrowD).trans ?_
      exact (Below.heap_alloc W _ D hDl).trans hK
    · exact (hB.alloc hg2 _).grown hgrow (by simp; omega) hvb
    · rintro e W' ⟨r,rfl,hK',hR⟩
      gi_wp2
      refine ⟨by simp,.inl ⟨_,_,rfl,run_takeDeferred hK',?_⟩⟩
      have hres:∀ tm:Array Value,tm.getD 4 undef=r->R (.returned (tm.getD 4 undef)) (W'.putObj D (.deferred none)):=fun tm e=>by rw [e]; exact hR
      refine ⟨_,results_tmp rfl _ _ _,?_⟩
      exact hres _ rfl
  case stop=>
    rintro D c pre W _ _ h _
    exact h.elim
theorem wal_Put_w:PutW Tryz.prog 116 131 28:=fun a0 n0 c0 a len cap zs w R hlen hI hM=>callsIn_wide.1 (wal_Put_put_in Fence.wide 3 trivial trivial trivial trivial rfl (by omega) a0 n0 c0 a len cap zs hlen w hI R fun W v D h1 h2 h3 h4=>callsIn_wide.2 (hM W v D h1 h2 h3 h4))
end
def zqw (l:Cs)(notes:List Note):Option Cs:=
  zao (((notes.length:Int)+1)*24<=140737488351232) <|
  zmh (notes.reverse.map (fun x=>x.Cells)++[l])
theorem wal_Put_ok (l:Cs)(notes:List Note)(r:Cs)(hF:zqw l notes=some r):Pe Tryz.prog 116 ⟨[],[],[],[],[]⟩ [.sl 5 (l.map zab),.sl 2 (notes.map zar)] (.row 5 1) ⟨[],[],[(5,⟨53,5,1,0,0,false,0,[],(r.map zab)⟩)],[],[]⟩:=by
  unfold zqw at hF
  have⟨h0,hF⟩:=zpg hF
  have h:=zta hF
  have e:(notes.reverse.map (fun x=>x.Cells)++[l]).map zal=((notes.map (fun x:Note=>((x.Seq:Int),x.Cells.map zab)):List (Int×List AV)).reverse.map fun x=>AV.sl 5 x.2)++[.sl 5 (l.map zab)]:=by
    rw [xcx,List.map_map,<- List.map_reverse,List.map_map]; rfl
  rw [e] at h
  have:=Pe_put (nts:=(notes.map (fun x:Note=>((x.Seq:Int),x.Cells.map zab)):List (Int×List AV))) (xs:=l.map zab) (csz:=5) ⟨_,Tryz.func116,rfl,rfl⟩ wal_Put_w (by rw [xao]; omega) h
  rw [List.map_map] at this
  exact this

/- (*tablet.tab).lists -/
def zj8 (box:B8)(box1:Int)(box2:B9)(box3 box4 box5:Int)(row:List Note)(row1:Cs)(row2:List Cs):Option (List Cs×Cs):=
 zao (((([row1]:List Cs)++row2).length:Int)*24<=140737488351232) <|
 some ((([row1]:List Cs)++row2),row1)
theorem tablet_tab_lists_ok (rk rc:Nat)(rn:Bool)(rk1 rc1:Nat)(rn1:Bool)(rk2 rc2:Nat)(rn2:Bool){box box1 box2 box3 box4 box5 row row1 row2 r}(hF:zj8 box box1 box2 box3 box4 box5 row row1 row2=some r):Pe Tryz.prog 132 ⟨[],[(100000,[.sl 1 (box.map zas),.i box1,.sl 1 (box2.map zaf),.i box3,.i box4,.row 100000 0,.i box5,.row 100001 0,.row 100002 0])],[(100000,.q 50 2 0 rk rc rn (row.map zar)),(100001,.q 53 5 0 rk1 rc1 rn1 (row1.map zab)),(100002,.q 28 1 0 rk2 rc2 rn2 (row2.map zal))],[],[]⟩ [.ptr 100000 0] (.row 7 1) ⟨[],[(100000,[.sl 1 (box.map zas),.i box1,.sl 1 (box2.map zaf),.i box3,.i box4,.row 100000 0,.i box5,.row 100001 0,.row 100002 0])],[(100000,.q 50 2 0 rk rc rn (row.map zar)),(100001,⟨53,5,0,(r.2.map zab).length,rc1,rn1,0,[],(r.2.map zab)⟩),(100002,.q 28 1 0 rk2 rc2 rn2 (row2.map zal)),(7,.z 28 1 1 (r.1.map zal))],[],[]⟩:=by
 refine PT 13 [.tmp 2] [42] Tryz.func132 ?_
 intro Q g hfin
 unfold zj8 at hF
 refine LR0 ?_
 have⟨h0,hF⟩:=aE hF
 refine DJ (.p zal h0 .z) ?_
 cases hF
 exact Wz [] hfin

/- (*tablet.tab).all -/
def zh8 (box:B8)(box1:Int)(box2:B9)(box3 box4 box5:Int)(row:List Note)(row1:Cs)(row2:List Cs):Option (Cs×Cs):=
 ob (zj8 box box1 box2 box3 box4 box5 row row1 row2) fun x=>
 ob (zmh x.1) fun x1=>
 some (x1,x.2)
theorem zqy (rk rc:Nat)(rn:Bool)(rk1 rc1:Nat)(rn1:Bool)(rk2 rc2:Nat)(rn2:Bool){box box1 box2 box3 box4 box5 row row1 row2 r}(hF:zh8 box box1 box2 box3 box4 box5 row row1 row2=some r):Pe Tryz.prog 92 ⟨[],[(100000,[.sl 1 (box.map zas),.i box1,.sl 1 (box2.map zaf),.i box3,.i box4,.row 100000 0,.i box5,.row 100001 0,.row 100002 0])],[(100000,.q 50 2 0 rk rc rn (row.map zar)),(100001,.q 53 5 0 rk1 rc1 rn1 (row1.map zab)),(100002,.q 28 1 0 rk2 rc2 rn2 (row2.map zal))],[],[]⟩ [.ptr 100000 0] (.row 5 1) ⟨[],[(100000,[.sl 1 (box.map zas),.i box1,.sl 1 (box2.map zaf),.i box3,.i box4,.row 100000 0,.i box5,.row 100001 0,.row 100002 0])],[(100000,.q 50 2 0 rk rc rn (row.map zar)),(100001,⟨53,5,0,(r.2.map zab).length,rc1,rn1,0,[],(r.2.map zab)⟩),(100002,.q 28 1 0 rk2 rc2 rn2 (row2.map zal)),(5,.o 53 5 1 (r.1.map zab))],[],[]⟩:=by
 refine PT 6 [.tmp 2] [28] Tryz.func92 ?_
 intro Q g hfin
 unfold zh8 at hF
 refine LR0 ?_
 have⟨x,h0,hF⟩:=oE hF
 have p1:=(Pe.ren (tablet_tab_lists_ok rk rc rn rk1 rc1 rn1 rk2 rc2 rn2 h0) ⟨[],[(7,4)],[],[]⟩)
 have⟨x1,h2,hF⟩:=oE hF
 have p3:=(Pe.ren (zta h2) ⟨[],[],[],[]⟩)
 refine RJ (.e [100000] [100000,100001,100002] p1 (.e [] [] p3 .z)) ?_
 cases hF
 exact Wz [] hfin

/- (*tablet.tab).fill -/
def zit (box:B8)(box1:Int)(box2:B9)(box3 box4 box5:Int)(row:List Note)(row1:List Cs):Option (Fault×B8×Int×B9×Int×Int×List Note×Int×Cs):=
 ob (zda box box1 box2 box3 box4 box5 row row1) fun x=>
 ob (
  if (decide (0<=x))=true then
   zao (0<=x/\x<=(row.length:Int)) <|
   ob (zqw ([]:Cs) (zc1 row x)) fun x1=>
   some (x1,(⟨0,0⟩:Fault))
  else
   some (([]:Cs),(⟨0,0⟩:Fault))) fun (v:Cs×Fault)=>
 if (decide (500<(v.1.length:Int)))=true then
  lt (zce 9 (-2)) fun x2=>
  some (x2,box,box1,box2,box3,box4,row,box5,v.1)
 else
  ob (zh8 box box1 box2 box3 box4 box5 row v.1 row1) fun x3=>
  if (decide (1000<(x3.1.length:Int)))=true then
   lt (zce 9 (-1)) fun x4=>
   some (x4,box,box1,box2,box3,box4,row,box5,x3.2)
  else
   some ((⟨0,0⟩:Fault),box,box1,box2,box3,box4,row,box5,x3.2)
theorem zp7 (rk rc:Nat)(rn:Bool)(rk1 rc1:Nat)(rn1:Bool){box box1 box2 box3 box4 box5 row row1 r}(hF:zit box box1 box2 box3 box4 box5 row row1=some r):Pe Tryz.prog 68 ⟨[],[(100000,[.sl 1 (box.map zas),.i box1,.sl 1 (box2.map zaf),.i box3,.i box4,.row 100000 0,.i box5,.nils,.row 100001 0])],[(100000,.q 50 2 0 rk rc rn (row.map zar)),(100001,.q 28 1 0 rk1 rc1 rn1 (row1.map zal))],[],[]⟩ [.ptr 100000 0] (.agg (zae r.1)) ⟨[],[(100000,[.sl 1 (r.2.1.map zas),.i r.2.2.1,.sl 1 (r.2.2.2.1.map zaf),.i r.2.2.2.2.1,.i r.2.2.2.2.2.1,.row 100000 0,.i r.2.2.2.2.2.2.2.1,.row 22 0,.row 100001 0])],[(100000,⟨50,2,0,(r.2.2.2.2.2.2.1.map zar).length,rc,rn,0,[],(r.2.2.2.2.2.2.1.map zar)⟩),(100001,.q 28 1 0 rk1 rc1 rn1 (row1.map zal)),(22,⟨53,5,0,(r.2.2.2.2.2.2.2.2.map zab).length,0,false,0,[],(r.2.2.2.2.2.2.2.2.map zab)⟩)],[],[]⟩:=by
 refine PT 38 [.cell 2 35] [35] Tryz.func68 ?_
 intro Q g hfin
 unfold zit at hF
 refine LR0 ?_
 have⟨x,h0,hF⟩:=oE hF
 refine RJ (.q [1,100000] [100000,100001] (Pe.ren (zjs rk rc rn rk1 rc1 rn1 h0) ⟨[(100000,1),(100001,100000)],[],[],[]⟩) .z) ?_
 refine LR0 ?_
 refine VR [] [1,2,3,14] [1,2,100000] [100000,100001] [] [(1,.ptr 1 0),(2,.ptr 2 0),(3,.i x),(14,.bool (decide (0<=x)))] [(1,[.ptr 100000 0]),(2,[.i 0,.i 0]),(100000,[.sl 1 (box.map zas),.i box1,.sl 1 (box2.map zaf),.i box3,.i box4,.row 100000 0,.i box5,.nils,.row 100001 0])] [(100000,.q 50 2 0 rk rc rn (row.map zar)),(100001,.q 28 1 0 rk1 rc1 rn1 (row1.map zal))] [] .nil ?_
 have⟨v,hv,hF⟩:=oE hF
 refine NmT (fun Z=>Z.up [1,2] [1,2,100000] [22,100000,100001] [] [] [(2,(zae v.2)),(100000,[.sl 1 (box.map zas),.i box1,.sl 1 (box2.map zaf),.i box3,.i box4,.row 100000 0,.i box5,.row 22 0,.row 100001 0])] [(22,.o 53 5 0 (v.1.map zab)),(100000,⟨50,2,0,(row.map zar).length,rc,rn,0,[],(row.map zar)⟩)] []) ?_ ?_
 ·have hF:=hv
  refine Nif hF ?_ ?_ <;> intro hb hF
  ·have⟨h1,hF⟩:=aE hF
   have⟨x1,h2,hF⟩:=oE hF
   have p3:=(Pe.ren (wal_Put_ok ([]:Cs) (zc1 row x) x1 h2) ⟨[],[(5,22)],[],[]⟩)
   refine DJ (.s10 zar h1 (.e [] [] p3 .z)) ?_
   cases hF
   exact zgt [(22,⟨0,true,true,false⟩)]
  ·refine zav 100000 7 60000 53 5 rfl rfl rfl rfl rfl ?_
   refine zcj (fs:=[1,2]) (bs:=[1,2,100000]) (rs:=[60000,100000,100001]) (ms:=[]) (aa:=[]) (nv:=[]) rfl ?_
   refine zau ⟨[],[(60000,22)],[],[]⟩ rfl ?_
   cases hF
   exact zgt [(22,⟨0,true,false,false⟩),(100000,⟨0,true,true,true⟩)]
 ·refine RJ (.l zab v.1 .z) ?_
  refine Nif hF ?_ ?_ <;> intro hb hF
  ·have⟨x2,h4,hF⟩:=lS hF
   refine RJ (.b (za2 h4) .z) ?_
   cases hF
   exact Wz [(22,⟨0,true,true,true⟩)] hfin
  ·have⟨x3,h5,hF⟩:=oE hF
   have p6:=(Pe.ren (zqy ((row.map zar).length) rc rn 0 0 false rk1 rc1 rn1 h5) ⟨[],[(100001,22),(100002,100001),(5,33)],[],[]⟩)
   refine RJ (.e [100000] [100000,22,100001] p6 (.l zab x3.1 .z)) ?_
   refine Nif hF ?_ ?_ <;> intro hb hF
   ·have⟨x4,h7,hF⟩:=lS hF
    refine RJ (.b (za2 h7) .z) ?_
    cases hF
    exact Wz [(100000,⟨0,true,true,true⟩)] hfin
   ·refine LR0 ?_
    cases hF
    exact Wz [(100000,⟨0,true,true,true⟩)] hfin

/- tablet.load -/
def zh5 (x4:List Note×Int)(v:Tablet×Fault×B8×Int×B9×Int×Int×Int)(v1:Fault×List Cs):Option ((Fault)⊕(B8×Int×B9×Int×Int×List Note×Int×Cs×List Cs×Fault)):=
 ob (zit v.2.2.1 v.2.2.2.1 v.2.2.2.2.1 v.2.2.2.2.2.1 v.2.2.2.2.2.2.1 v.2.2.2.2.2.2.2 x4.1 v1.2) fun x6=>
 some (Sum.inr (x6.2.1,x6.2.2.1,x6.2.2.2.1,x6.2.2.2.2.1,x6.2.2.2.2.2.1,x6.2.2.2.2.2.2.1,x6.2.2.2.2.2.2.2.1,x6.2.2.2.2.2.2.2.2,v1.2,x6.1))
def zh7 (x4:List Note×Int)(v:Tablet×Fault×B8×Int×B9×Int×Int×Int)(v2:Fault×List Cs×B9×Int×Int):Option ((Fault×List Cs×B9×Int×Int)⊕((Fault)⊕(B8×Int×B9×Int×Int×List Note×Int×Cs×List Cs×Fault))):=
 if (decide (v2.2.2.2.2<v2.2.2.2.1))=true then
  zao (0<=v2.2.2.2.2/\v2.2.2.2.2<(v2.2.2.1.length:Int)) <|
  ob (zpp (zad v2.2.2.1 v2.2.2.2.2)) fun x7=>
  if (!decide (x7.2.Code=0))=true then
   lt (zce x7.2.Code v2.2.2.2.2) fun x8=>
   some (Sum.inr (Sum.inl x8))
  else
   zao (((v2.2.1++([x7.1]:List Cs)).length:Int)*24<=140737488351232) <|
   some (Sum.inl (v2.1,(v2.2.1++([x7.1]:List Cs)),v2.2.2.1,v2.2.2.2.1,w64 (v2.2.2.2.2+1)))
 else
  zev (zh5 x4 v (v2.1,v2.2.1))
def zmx (x4:List Note×Int)(v:Tablet×Fault×B8×Int×B9×Int×Int×Int)(v0:Fault×List Cs×B9×Int×Int):Option ((Fault)⊕(B8×Int×B9×Int×Int×List Note×Int×Cs×List Cs×Fault)):=
 zbg (fun y=>zh7 x4 v y) v0
def zf1 (t0:Tablet):Option ((Fault)⊕(B8×Int×B9×Int×Int×List Note×Int×Cs×List Cs×Fault)):=
 if ((((decide (t0.Done<0))||(decide (1000000000<t0.Done)))||(decide (t0.Since<0)))||(decide (1000000000<t0.Since)))=true then
  lt (zce 3 0) fun x=>
  some (Sum.inl x)
 else
  if (decide (10<(t0.Files.length:Int)))=true then
   lt (zce 2 (-1)) fun x1=>
   some (Sum.inl x1)
  else
   lt (zop t0.Log) fun x2=>
   if (!decide (x2.Code=0))=true then
    lt (zce x2.Code (-2)) fun x3=>
    some (Sum.inl x3)
   else
    ob (wal_Notes t0.Log) fun x4=>
    zao ((decide (0<(x4.1.length:Int)))=true->(!(!decide (x4.2=(t0.Log.Bytes.length:Int))))=true->0<=(0:Int)/\0<(x4.1.length:Int)) <|
    zao ((decide (0<(x4.1.length:Int)))=true->(!(!decide (x4.2=(t0.Log.Bytes.length:Int))))=true->0<=(0:Int)/\0<(x4.1.length:Int)) <|
    zao ((!(decide ((w64 (t0.Done+1))<((zad x4.1 0).Seq))))=true->(decide (0<(x4.1.length:Int)))=true->(!(!decide (x4.2=(t0.Log.Bytes.length:Int))))=true->0<=w64 ((x4.1.length:Int) - 1)/\w64 ((x4.1.length:Int) - 1)<(x4.1.length:Int)) <|
    zao ((!(decide ((w64 (t0.Done+1))<((zad x4.1 0).Seq))))=true->(decide (0<(x4.1.length:Int)))=true->(!(!decide (x4.2=(t0.Log.Bytes.length:Int))))=true->0<=w64 ((x4.1.length:Int) - 1)/\w64 ((x4.1.length:Int) - 1)<(x4.1.length:Int)) <|
    if ((!decide (x4.2=(t0.Log.Bytes.length:Int)))||((decide (0<(x4.1.length:Int)))&&((decide ((w64 (t0.Done+1))<((zad x4.1 0).Seq)))||(decide (((zad x4.1 (w64 ((x4.1.length:Int) - 1))).Seq)<t0.Done)))))=true then
     lt (zce 11 (-2)) fun x5=>
     some (Sum.inl x5)
    else
     ob (
      if (decide (0<(x4.1.length:Int)))=true then
       zao (0<=w64 ((x4.1.length:Int) - 1)/\w64 ((x4.1.length:Int) - 1)<(x4.1.length:Int)) <|
       zao (0<=w64 ((x4.1.length:Int) - 1)/\w64 ((x4.1.length:Int) - 1)<(x4.1.length:Int)) <|
       some (t0,(⟨0,0⟩:Fault),t0.Log.Bytes,t0.Log.Kept,t0.Files,t0.Done,t0.Since,(zad x4.1 (w64 ((x4.1.length:Int) - 1))).Seq)
      else
       some (t0,(⟨0,0⟩:Fault),t0.Log.Bytes,t0.Log.Kept,t0.Files,t0.Done,t0.Since,t0.Done)) fun (v:Tablet×Fault×B8×Int×B9×Int×Int×Int)=>
     zmx x4 v (v.2.1,([]:List Cs),v.1.Files,(v.1.Files.length:Int),0)
theorem zi2 {t0 r}(hF:zf1 t0=some (Sum.inl r)):Pe Tryz.prog 91 S.none [.agg (zag t0)] (.tup [.nilp,.agg (zae r)]) S.none:=by
 refine PT 150 [.tmp 2,.cell 3 35] [104,35] Tryz.func91 ?_
 intro Q g hfin
 unfold zf1 at hF
 refine LR0 ?_
 refine LR0 ?_
 refine Nif hF ?_ ?_ <;> intro hb hF
 ·have⟨x,h0,hF⟩:=lS hF
  refine RJ (.b (za2 h0) .z) ?_
  cases hF
  exact Wz [] hfin
 ·refine RJ (.l zaf t0.Files .z) ?_
  refine Nif hF ?_ ?_ <;> intro hb hF
  ·have⟨x1,h1,hF⟩:=lS hF
   refine RJ (.b (za2 h1) .z) ?_
   cases hF
   exact Wz [] hfin
  ·have⟨x2,h2,hF⟩:=lS hF
   refine RJ (.b (zs9 h2) .z) ?_
   refine LR0 ?_
   refine Nif hF ?_ ?_ <;> intro hb hF
   ·have⟨x3,h3,hF⟩:=lS hF
    refine RJ (.b (za2 h3) .z) ?_
    cases hF
    exact Wz [] hfin
   ·refine LR0 ?_
    refine LR0 ?_
    have⟨x4,h4,hF⟩:=oE hF
    have p5:=(Pe.ren (wal_Notes_ok h4) ⟨[],[(53,54)],[],[]⟩)
    refine RJ (.e [] [] p5 .z) ?_
    refine RJ (.l zar x4.1 .z) ?_
    have⟨h6,h7,h8,h9,hF⟩:=zla hF
    refine DJ (.l zas t0.Log.Bytes (.g (fun (ga0:(decide (0<(x4.1.length:Int)))=true) (ga1:(!(!decide (x4.2=(t0.Log.Bytes.length:Int))))=true)=>(zf4 zar (h6 ga0 ga1))) (.a (.av (zar (zad x4.1 0))) (.g (fun (ga0:(decide (0<(x4.1.length:Int)))=true) (ga1:(!(!decide (x4.2=(t0.Log.Bytes.length:Int))))=true)=>(zec zar (h7 ga0 ga1))) (.g (fun (ga0:(!(decide ((w64 (t0.Done+1))<((zad x4.1 0).Seq))))=true) (ga1:(decide (0<(x4.1.length:Int)))=true) (ga2:(!(!decide (x4.2=(t0.Log.Bytes.length:Int))))=true)=>(zf4 zar (h8 ga0 ga1 ga2))) (.a (.av (zar (zad x4.1 (w64 ((x4.1.length:Int) - 1))))) (.g (fun (ga0:(!(decide ((w64 (t0.Done+1))<((zad x4.1 0).Seq))))=true) (ga1:(decide (0<(x4.1.length:Int)))=true) (ga2:(!(!decide (x4.2=(t0.Log.Bytes.length:Int))))=true)=>(zec zar (h9 ga0 ga1 ga2))) .z))))))) ?_
    refine Nif hF ?_ ?_ <;> intro hb hF
    ·have⟨x5,h10,hF⟩:=lS hF
     refine RJ (.b (za2 h10) .z) ?_
     cases hF
     exact Wz [] hfin
    ·refine LR0 ?_
     have⟨v,hv,hF⟩:=oE hF
     refine NmT (fun Z=>Z.up [1,3,5] [1,3,49] [54] [] [] [(1,(zag v.1)),(3,(zae v.2.1)),(49,[.sl 1 (v.2.2.1.map zas),.i v.2.2.2.1,.sl 1 (v.2.2.2.2.1.map zaf),.i v.2.2.2.2.2.1,.i v.2.2.2.2.2.2.1,.row 54 0,.i v.2.2.2.2.2.2.2,.nils,.nils])] [] []) ?_ ?_
     ·have hF:=hv
      refine Nif hF ?_ ?_ <;> intro hb hF
      ·have⟨h11,hF⟩:=aE hF
       have⟨h12,hF⟩:=aE hF
       refine RJ (.x zar h11 (.r zar h12 .z)) ?_
       cases hF
       exact zgt []
      ·cases hF
       exact zgt []
     ·refine VR [.nat (v.1.Files.length:Int)] [3,5,117,118,119] [3,49] [54] [] [(3,.ptr 3 0),(5,.ptr 49 0),(117,.sl 1 (v.1.Files.map zaf)),(118,.i (v.1.Files.length:Int)),(119,.i 0)] [(3,(zae v.2.1)),(49,[.sl 1 (v.2.2.1.map zas),.i v.2.2.2.1,.sl 1 (v.2.2.2.2.1.map zaf),.i v.2.2.2.2.2.1,.i v.2.2.2.2.2.2.1,.row 54 0,.i v.2.2.2.2.2.2.2,.nils,.nils])] [(54,.z 50 2 0 (x4.1.map zar))] [] (hc (zc5 zaf v.1.Files) .nil) ?_
      refine NmS (fun v1=>zh5 x4 v v1=some (Sum.inl r)) (fun Z v1=>Z.up [3,5] [3,49] [54,143] [] [] [(3,(zae v1.1)),(49,[.sl 1 (v.2.2.1.map zas),.i v.2.2.2.1,.sl 1 (v.2.2.2.2.1.map zaf),.i v.2.2.2.2.2.1,.i v.2.2.2.2.2.2.1,.row 54 0,.i v.2.2.2.2.2.2.2,.nils,.row 143 0])] [(143,.z 28 1 0 (v1.2.map zal))] []) ?_ ?_
      ·refine zb5 ?_
       unfold zmx at hF
       refine zav 49 8 60000 28 1 rfl rfl rfl rfl rfl ?_
       refine zcj (fs:=[3,5,117,118,119]) (bs:=[3,49]) (rs:=[54,60000]) (ms:=[]) (aa:=[]) (nv:=[]) rfl ?_
       refine zau ⟨[],[(60000,143)],[],[]⟩ rfl ?_
       refine zrv hF [] (fun v2=>⟨[(3,.ptr 3 0),(5,.ptr 49 0),(117,.sl 1 (v2.2.2.1.map zaf)),(118,.i v2.2.2.2.1),(119,.i v2.2.2.2.2)],[(3,(zae v2.1)),(49,[.sl 1 (v.2.2.1.map zas),.i v.2.2.2.1,.sl 1 (v.2.2.2.2.1.map zaf),.i v.2.2.2.2.2.1,.i v.2.2.2.2.2.2.1,.row 54 0,.i v.2.2.2.2.2.2.2,.nils,.row 143 0])],[(54,.z 50 2 0 (x4.1.map zar)),(143,.z 28 1 0 (v2.2.1.map zal))],[],[]⟩) ?_
       intro n1 v2 y1 hF ih1 dn1
       unfold zh7 at hF
       refine LR0 ?_
       refine Nif hF ?_ ?_ <;> intro hb hF
       ·refine zb5 ?_
        have⟨h15,hF⟩:=aE hF
        refine RJ (.i zaf h15 .z) ?_
        have⟨x7,h16,hF⟩:=oE hF
        have p17:=(Pe.ren (file_Open_ok h16) ⟨[],[(24,126)],[],[]⟩)
        refine RJ (.e [] [] p17 .z) ?_
        refine LR0 ?_
        refine Nif hF ?_ ?_ <;> intro hb hF
        ·have⟨x8,h18,hF⟩:=lS hF
         refine RJ (.b (za2 h18) .z) ?_
         have hF:=zcr hF dn1
         cases hF
         exact Wz [] hfin
        ·have⟨h19,hF⟩:=aE hF
         refine RJ (.a (.sealed) (.p zal h19 .z)) ?_
         refine LR0 ?_
         exact zgb [(143,⟨0,true,true,false⟩)] hF ih1
       ·refine zbm rfl ?_
        have hF:=zaj hF dn1
        exact ze4 (v2.1,v2.2.1) [] hF
      ·intro v1 hF
       unfold zh5 at hF
       have⟨x6,h13,hF⟩:=oE hF
       have p14:=(Pe.ren (zp7 0 0 true 0 0 true h13) ⟨[(100000,49)],[(100000,54),(100001,143),(22,149)],[],[]⟩)
       refine RJ (.e [49] [54,143] p14 .z) ?_
       cases hF
theorem zi6 {t0 r}(hF:zf1 t0=some (Sum.inr r)):Pe Tryz.prog 91 (.w []) [.agg (zag t0)] (.tup [.ptr 49 0,.agg (zae r.2.2.2.2.2.2.2.2.2)]) ⟨[],[(49,[.sl 1 (r.1.map zas),.i r.2.1,.sl 1 (r.2.2.1.map zaf),.i r.2.2.2.1,.i r.2.2.2.2.1,.row 54 0,.i r.2.2.2.2.2.2.1,.row 149 0,.row 143 0])],[(54,⟨50,2,0,(r.2.2.2.2.2.1.map zar).length,0,true,0,[],(r.2.2.2.2.2.1.map zar)⟩),(143,.z 28 1 0 (r.2.2.2.2.2.2.2.2.1.map zal)),(149,⟨53,5,0,(r.2.2.2.2.2.2.2.1.map zab).length,0,false,0,[],(r.2.2.2.2.2.2.2.1.map zab)⟩)],[],[]⟩:=by
 refine PT 150 [.tmp 2,.cell 3 35] [104,35] Tryz.func91 ?_
 intro Q g hfin
 unfold zf1 at hF
 refine LR0 ?_
 refine LR0 ?_
 refine Nif hF ?_ ?_ <;> intro hb hF
 ·have⟨x,h0,hF⟩:=lS hF
  refine RJ (.b (za2 h0) .z) ?_
  cases hF
 ·refine RJ (.l zaf t0.Files .z) ?_
  refine Nif hF ?_ ?_ <;> intro hb hF
  ·have⟨x1,h1,hF⟩:=lS hF
   refine RJ (.b (za2 h1) .z) ?_
   cases hF
  ·have⟨x2,h2,hF⟩:=lS hF
   refine RJ (.b (zs9 h2) .z) ?_
   refine LR0 ?_
   refine Nif hF ?_ ?_ <;> intro hb hF
   ·have⟨x3,h3,hF⟩:=lS hF
    refine RJ (.b (za2 h3) .z) ?_
    cases hF
   ·refine LR0 ?_
    refine LR0 ?_
    have⟨x4,h4,hF⟩:=oE hF
    have p5:=(Pe.ren (wal_Notes_ok h4) ⟨[],[(53,54)],[],[]⟩)
    refine RJ (.e [] [] p5 .z) ?_
    refine RJ (.l zar x4.1 .z) ?_
    have⟨h6,h7,h8,h9,hF⟩:=zla hF
    refine DJ (.l zas t0.Log.Bytes (.g (fun (ga0:(decide (0<(x4.1.length:Int)))=true) (ga1:(!(!decide (x4.2=(t0.Log.Bytes.length:Int))))=true)=>(zf4 zar (h6 ga0 ga1))) (.a (.av (zar (zad x4.1 0))) (.g (fun (ga0:(decide (0<(x4.1.length:Int)))=true) (ga1:(!(!decide (x4.2=(t0.Log.Bytes.length:Int))))=true)=>(zec zar (h7 ga0 ga1))) (.g (fun (ga0:(!(decide ((w64 (t0.Done+1))<((zad x4.1 0).Seq))))=true) (ga1:(decide (0<(x4.1.length:Int)))=true) (ga2:(!(!decide (x4.2=(t0.Log.Bytes.length:Int))))=true)=>(zf4 zar (h8 ga0 ga1 ga2))) (.a (.av (zar (zad x4.1 (w64 ((x4.1.length:Int) - 1))))) (.g (fun (ga0:(!(decide ((w64 (t0.Done+1))<((zad x4.1 0).Seq))))=true) (ga1:(decide (0<(x4.1.length:Int)))=true) (ga2:(!(!decide (x4.2=(t0.Log.Bytes.length:Int))))=true)=>(zec zar (h9 ga0 ga1 ga2))) .z))))))) ?_
    refine Nif hF ?_ ?_ <;> intro hb hF
    ·have⟨x5,h10,hF⟩:=lS hF
     refine RJ (.b (za2 h10) .z) ?_
     cases hF
    ·refine LR0 ?_
     have⟨v,hv,hF⟩:=oE hF
     refine NmT (fun Z=>Z.up [1,3,5] [1,3,49] [54] [] [] [(1,(zag v.1)),(3,(zae v.2.1)),(49,[.sl 1 (v.2.2.1.map zas),.i v.2.2.2.1,.sl 1 (v.2.2.2.2.1.map zaf),.i v.2.2.2.2.2.1,.i v.2.2.2.2.2.2.1,.row 54 0,.i v.2.2.2.2.2.2.2,.nils,.nils])] [] []) ?_ ?_
     ·have hF:=hv
      refine Nif hF ?_ ?_ <;> intro hb hF
      ·have⟨h11,hF⟩:=aE hF
       have⟨h12,hF⟩:=aE hF
       refine RJ (.x zar h11 (.r zar h12 .z)) ?_
       cases hF
       exact zgt []
      ·cases hF
       exact zgt []
     ·refine VR [.nat (v.1.Files.length:Int)] [3,5,117,118,119] [3,49] [54] [] [(3,.ptr 3 0),(5,.ptr 49 0),(117,.sl 1 (v.1.Files.map zaf)),(118,.i (v.1.Files.length:Int)),(119,.i 0)] [(3,(zae v.2.1)),(49,[.sl 1 (v.2.2.1.map zas),.i v.2.2.2.1,.sl 1 (v.2.2.2.2.1.map zaf),.i v.2.2.2.2.2.1,.i v.2.2.2.2.2.2.1,.row 54 0,.i v.2.2.2.2.2.2.2,.nils,.nils])] [(54,.z 50 2 0 (x4.1.map zar))] [] (hc (zc5 zaf v.1.Files) .nil) ?_
      refine NmS (fun v1=>zh5 x4 v v1=some (Sum.inr r)) (fun Z v1=>Z.up [3,5] [3,49] [54,143] [] [] [(3,(zae v1.1)),(49,[.sl 1 (v.2.2.1.map zas),.i v.2.2.2.1,.sl 1 (v.2.2.2.2.1.map zaf),.i v.2.2.2.2.2.1,.i v.2.2.2.2.2.2.1,.row 54 0,.i v.2.2.2.2.2.2.2,.nils,.row 143 0])] [(143,.z 28 1 0 (v1.2.map zal))] []) ?_ ?_
      ·refine zb5 ?_
       unfold zmx at hF
       refine zav 49 8 60000 28 1 rfl rfl rfl rfl rfl ?_
       refine zcj (fs:=[3,5,117,118,119]) (bs:=[3,49]) (rs:=[54,60000]) (ms:=[]) (aa:=[]) (nv:=[]) rfl ?_
       refine zau ⟨[],[(60000,143)],[],[]⟩ rfl ?_
       refine zrv hF [] (fun v2=>⟨[(3,.ptr 3 0),(5,.ptr 49 0),(117,.sl 1 (v2.2.2.1.map zaf)),(118,.i v2.2.2.2.1),(119,.i v2.2.2.2.2)],[(3,(zae v2.1)),(49,[.sl 1 (v.2.2.1.map zas),.i v.2.2.2.1,.sl 1 (v.2.2.2.2.1.map zaf),.i v.2.2.2.2.2.1,.i v.2.2.2.2.2.2.1,.row 54 0,.i v.2.2.2.2.2.2.2,.nils,.row 143 0])],[(54,.z 50 2 0 (x4.1.map zar)),(143,.z 28 1 0 (v2.2.1.map zal))],[],[]⟩) ?_
       intro n1 v2 y1 hF ih1 dn1
       unfold zh7 at hF
       refine LR0 ?_
       refine Nif hF ?_ ?_ <;> intro hb hF
       ·refine zb5 ?_
        have⟨h15,hF⟩:=aE hF
        refine RJ (.i zaf h15 .z) ?_
        have⟨x7,h16,hF⟩:=oE hF
        have p17:=(Pe.ren (file_Open_ok h16) ⟨[],[(24,126)],[],[]⟩)
        refine RJ (.e [] [] p17 .z) ?_
        refine LR0 ?_
        refine Nif hF ?_ ?_ <;> intro hb hF
        ·have⟨x8,h18,hF⟩:=lS hF
         refine RJ (.b (za2 h18) .z) ?_
         have hF:=zcr hF dn1
         cases hF
        ·have⟨h19,hF⟩:=aE hF
         refine RJ (.a (.sealed) (.p zal h19 .z)) ?_
         refine LR0 ?_
         exact zgb [(143,⟨0,true,true,false⟩)] hF ih1
       ·refine zbm rfl ?_
        have hF:=zaj hF dn1
        exact ze4 (v2.1,v2.2.1) [] hF
      ·intro v1 hF
       unfold zh5 at hF
       have⟨x6,h13,hF⟩:=oE hF
       have p14:=(Pe.ren (zp7 0 0 true 0 0 true h13) ⟨[(100000,49)],[(100000,54),(100001,143),(22,149)],[],[]⟩)
       refine RJ (.e [49] [54,143] p14 .z) ?_
       cases hF
       exact Wz [] hfin

/- wire.AddNum -/
def zl7 (v:B8×Int):Option B8:=
 zao (((v.1++([zew v.2]:B8)).length:Int)*1<=140737488351232) <|
 some (v.1++([zew v.2]:B8))
def zqz (v1:B8×Int):Option ((B8×Int)⊕B8):=
 if (decide (127<v1.2))=true then
  zao (((v1.1++([zew (((BitVec.ofInt 8 ((zew v1.2).toNat:Int) ||| BitVec.ofInt 8 ((128:UInt8).toNat:Int)).toNat:Int))]:B8)).length:Int)*1<=140737488351232) <|
  lt ((v1.1++([zew (((BitVec.ofInt 8 ((zew v1.2).toNat:Int) ||| BitVec.ofInt 8 ((128:UInt8).toNat:Int)).toNat:Int))]:B8))) fun v2=>
  some (Sum.inl (v2,Int.fdiv v1.2 (2 ^ (min (7:Int).toNat 64))))
 else
  zev (zl7 (v1.1,v1.2))
def zrj (v0:B8×Int):Option B8:=
 zbg (fun y=>zqz y) v0
def zj4 (num:Int):Option B8:=
 zrj (([]:B8),num)
theorem wire_AddNum_v1_ok {num r}(hF:zj4 num=some r):Pe Tryz.prog 122 (.w []) [.nils,.i num] (.row 14 1) ⟨[],[],[(14,.z 5 1 1 (r.map zas))],[],[]⟩:=by
 refine PT 20 [.tmp 4] [22] Tryz.func122 ?_
 intro Q g hfin
 unfold zj4 at hF
 refine NR [] [0,1] [] [] [(0,.nils),(1,.i num)] .nil ?_
 refine NmQ (fun v=>zl7 v=some r) (fun v=>⟨[(0,.row 14 0),(1,.i v.2)],[],[(14,.z 5 1 0 (v.1.map zas))],[],[]⟩) ?_ ?_
 ·refine zb5 ?_
  unfold zrj at hF
  refine zap 0 60000 5 1 rfl rfl rfl ?_
  refine zcj (fs:=[0,1]) (bs:=[]) (rs:=[60000]) (ms:=[]) (aa:=[]) (nv:=[]) rfl ?_
  refine zau ⟨[],[(60000,14)],[],[]⟩ rfl ?_
  refine zrv hF [] (fun v1=>⟨[(0,.row 14 0),(1,.i v1.2)],[],[(14,.z 5 1 0 (v1.1.map zas))],[],[]⟩) ?_
  intro n1 v1 y1 hF ih1 dn1
  unfold zqz at hF
  refine LR0 ?_
  refine Nif hF ?_ ?_ <;> intro hb hF
  ·refine zb5 ?_
   have⟨h1,hF⟩:=aE hF
   have⟨v2,hv,hF⟩:=lS hF
   refine RJ (.a (.sealed) (.pN zas hv h1 .z)) ?_
   refine RJ (.g (by decide:(0:Int)<=7) .z) ?_
   exact zgb [(14,⟨0,true,true,false⟩)] hF ih1
  ·refine zbm rfl ?_
   have hF:=zaj hF dn1
   exact ze4 (v1.1,v1.2) [] hF
 ·intro v hF
  unfold zl7 at hF
  have⟨h0,hF⟩:=aE hF
  refine RJ (.a (.sealed) (.p zas h0 .z)) ?_
  cases hF
  exact Wz [] hfin

/- wire.AddNum -/
def zjn (v:B8×Int):Option B8:=
 zao (((v.1++([zew v.2]:B8)).length:Int)*1<=140737488351232) <|
 some (v.1++([zew v.2]:B8))
def zjg (v1:B8×Int):Option ((B8×Int)⊕B8):=
 if (decide (127<v1.2))=true then
  zao (((v1.1++([zew (((BitVec.ofInt 8 ((zew v1.2).toNat:Int) ||| BitVec.ofInt 8 ((128:UInt8).toNat:Int)).toNat:Int))]:B8)).length:Int)*1<=140737488351232) <|
  lt ((v1.1++([zew (((BitVec.ofInt 8 ((zew v1.2).toNat:Int) ||| BitVec.ofInt 8 ((128:UInt8).toNat:Int)).toNat:Int))]:B8))) fun v2=>
  some (Sum.inl (v2,Int.fdiv v1.2 (2 ^ (min (7:Int).toNat 64))))
 else
  zev (zjn (v1.1,v1.2))
def zl8 (v0:B8×Int):Option B8:=
 zbg (fun y=>zjg y) v0
def zfm (num:Int)(row:B8):Option B8:=
 zl8 (row,num)
theorem zjh (rk rc:Nat)(rn:Bool){num row r}(hF:zfm num row=some r):Pe Tryz.prog 122 (.w [(100000,.q 5 1 0 rk rc rn (row.map zas))]) [.row 100000 0,.i num] (.row 100000 2) (.w [(100000,.q 5 1 2 rk rc rn (r.map zas))]):=by
 refine PT 20 [.tmp 4] [22] Tryz.func122 ?_
 intro Q g hfin
 unfold zfm at hF
 refine LR0 ?_
 refine NmQ (fun v=>zjn v=some r) (fun v=>⟨[(0,.row 100000 1),(1,.i v.2)],[],[(100000,.q 5 1 1 rk rc rn (v.1.map zas))],[],[]⟩) ?_ ?_
 ·refine zb5 ?_
  unfold zl8 at hF
  refine zrv hF [(100000,⟨1,true,true,false⟩)] (fun v1=>⟨[(0,.row 100000 1),(1,.i v1.2)],[],[(100000,.q 5 1 1 rk rc rn (v1.1.map zas))],[],[]⟩) ?_
  intro n1 v1 y1 hF ih1 dn1
  unfold zjg at hF
  refine LR0 ?_
  refine Nif hF ?_ ?_ <;> intro hb hF
  ·refine zb5 ?_
   have⟨h1,hF⟩:=aE hF
   have⟨v2,hv,hF⟩:=lS hF
   refine RJ (.a (.sealed) (.pN zas hv h1 .z)) ?_
   refine RJ (.g (by decide:(0:Int)<=7) .z) ?_
   exact zgb [(100000,⟨1,true,true,false⟩)] hF ih1
  ·refine zbm rfl ?_
   have hF:=zaj hF dn1
   exact ze4 (v1.1,v1.2) [] hF
 ·intro v hF
  unfold zjn at hF
  have⟨h0,hF⟩:=aE hF
  refine RJ (.a (.sealed) (.p zas h0 .z)) ?_
  cases hF
  exact Wz [] hfin

/- wire.AddText -/
def ze6 (s0 row:B8):Option B8:=
 ob (zfm (s0.length:Int) row) fun x=>
 zao (((x++s0).length:Int)*1<=140737488351232) <|
 some (x++s0)
theorem zif (rk rc:Nat)(rn:Bool){s0 row r}(hF:ze6 s0 row=some r):Pe Tryz.prog 123 (.w [(100000,.q 5 1 0 rk rc rn (row.map zas))]) [.row 100000 0,.str s0] (.row 100000 3) (.w [(100000,.q 5 1 3 rk rc rn (r.map zas))]):=by
 refine PT 11 [.tmp 4] [22] Tryz.func123 ?_
 intro Q g hfin
 unfold ze6 at hF
 refine LR0 ?_
 have⟨x,h0,hF⟩:=oE hF
 have p1:=(Pe.ren (zjh rk rc rn h0) ⟨[],[],[],[]⟩)
 have⟨h2,hF⟩:=aE hF
 refine RJ (.e [] [100000] p1 (.p zas h2 .z)) ?_
 cases hF
 exact Wz [] hfin

/- cell.Add -/
def zmr (c:Cell)(row:B8):Option B8:=
 ob (ze6 c.Row row) fun x=>
 ob (ze6 c.Col x) fun x1=>
 ob (
  if c.Gone=true then
   some (c,1)
  else
   some (c,0)) fun (v:Cell×Int)=>
 ob (zfm v.1.Time x1) fun x2=>
 ob (zfm v.2 x2) fun x3=>
 ob (ze6 v.1.Value x3) fun x4=>
 some x4
theorem cell_Add_v1_ok (rk rc:Nat)(rn:Bool){c row r}(hF:zmr c row=some r):Pe Tryz.prog 144 (.w [(100000,.q 5 1 0 rk rc rn (row.map zas))]) [.row 100000 0,.agg (zg9 c)] (.row 100000 13) (.w [(100000,.q 5 1 13 rk rc rn (r.map zas))]):=by
 refine PT 24 [.tmp 4] [22] Tryz.func144 ?_
 intro Q g hfin
 unfold zmr at hF
 refine LR0 ?_
 have⟨x,h0,hF⟩:=oE hF
 have p1:=(Pe.ren (zif rk rc rn h0) ⟨[],[],[],[]⟩)
 have⟨x1,h2,hF⟩:=oE hF
 have p3:=(Pe.ren (zif rk rc rn h2) ⟨[],[],[],[(100000,3)]⟩)
 refine DJ (.e [] [100000] p1 (.e [] [100000] p3 .z)) ?_
 refine LR0 ?_
 refine LR0 ?_
 have⟨v,hv,hF⟩:=oE hF
 refine NmT (fun Z=>Z.up [0,3,5] [3] [100000] [] [(5,.i v.2)] [(3,(zg9 v.1))] [] []) ?_ ?_
 ·have hF:=hv
  refine Nif hF ?_ ?_ <;> intro hb hF
  ·refine LR0 ?_
   cases hF
   exact zgt []
  ·cases hF
   exact zgt []
 ·have⟨x2,h4,hF⟩:=oE hF
  have p5:=(Pe.ren (zjh rk rc rn h4) ⟨[],[],[],[(100000,6)]⟩)
  have⟨x3,h6,hF⟩:=oE hF
  have p7:=(Pe.ren (zjh rk rc rn h6) ⟨[],[],[],[(100000,8)]⟩)
  have⟨x4,h8,hF⟩:=oE hF
  have p9:=(Pe.ren (zif rk rc rn h8) ⟨[],[],[],[(100000,10)]⟩)
  refine DJ (.e [] [100000] p5 (.e [] [100000] p7 (.e [] [100000] p9 .z))) ?_
  cases hF
  exact Wz [] hfin

/- wal.bytes -/
def wal_bytes_J1 (v:B8):Option B8:=
 some v
def znj (v1:B8×Cs×Int×Int):Option ((B8×Cs×Int×Int)⊕B8):=
 if (decide (v1.2.2.2<v1.2.2.1))=true then
  zao (0<=v1.2.2.2/\v1.2.2.2<(v1.2.1.length:Int)) <|
  ob (zmr (⟨(zad v1.2.1 v1.2.2.2).Row,(zad v1.2.1 v1.2.2.2).Col,(zad v1.2.1 v1.2.2.2).Time,(zad v1.2.1 v1.2.2.2).Gone,(zad v1.2.1 v1.2.2.2).Value⟩:Cell) v1.1) fun x1=>
  some (Sum.inl (x1,v1.2.1,v1.2.2.1,w64 (v1.2.2.2+1)))
 else
  zev (wal_bytes_J1 v1.1)
def wal_bytes_L1 (v0:B8×Cs×Int×Int):Option B8:=
 zbg (fun y=>znj y) v0
def zra (num:Note):Option B8:=
 ob (zj4 num.Seq) fun x=>
 wal_bytes_L1 (x,num.Cells,(num.Cells.length:Int),0)
theorem wal_bytes_ok {num r}(hF:zra num=some r):Pe Tryz.prog 113 (.w []) [.agg (c_Note num)] (.row 8 0) ⟨[],[],[(8,.z 5 1 0 (r.map zas))],[],[]⟩:=by
 refine PT 21 [.tmp 2] [22] Tryz.func113 ?_
 intro Q g hfin
 unfold zra at hF
 refine LR0 ?_
 have⟨x,h0,hF⟩:=oE hF
 have p1:=(Pe.ren (wire_AddNum_v1_ok h0) ⟨[],[(14,8)],[],[]⟩)
 refine RJ (.a (.raw [0]) (.a (cE [] [] [] [] p1) (.g p1 .z))) ?_
 refine RJ (.l zab num.Cells .z) ?_
 refine NmQ (fun v=>wal_bytes_J1 v=some r) (fun v=>⟨[(3,.row 8 0)],[],[(8,.z 5 1 0 (v.map zas))],[],[]⟩) ?_ ?_
 ·refine zb5 ?_
  unfold wal_bytes_L1 at hF
  refine zrv hF [(8,⟨0,true,true,false⟩)] (fun v1=>⟨[(3,.row 8 0),(10,.sl 5 (v1.2.1.map zab)),(11,.i v1.2.2.1),(12,.i v1.2.2.2)],[],[(8,.z 5 1 0 (v1.1.map zas))],[],[]⟩) ?_
  intro n1 v1 y1 hF ih1 dn1
  unfold znj at hF
  refine LR0 ?_
  refine Nif hF ?_ ?_ <;> intro hb hF
  ·refine zb5 ?_
   have⟨h2,hF⟩:=aE hF
   refine RJ (.i zab h2 .z) ?_
   have⟨x1,h3,hF⟩:=oE hF
   have p4:=(Pe.ren (cell_Add_v1_ok 0 0 true h3) ⟨[],[(100000,8)],[],[]⟩)
   refine RJ (.e [] [8] p4 .z) ?_
   refine LR0 ?_
   exact zgb [(8,⟨0,true,true,false⟩)] hF ih1
  ·refine zbm rfl ?_
   have hF:=zaj hF dn1
   exact ze4 v1.1 [] hF
 ·intro v hF
  unfold wal_bytes_J1 at hF
  refine LR0 ?_
  cases hF
  exact Wz [] hfin

/- wire.AddFrame -/
def zhx (body:B8):Option B8:=
 zao ((([zew (Int.fdiv (body.length:Int) (2 ^ (min (8:Int).toNat 64))),zew (body.length:Int)]:B8).length:Int)*1<=140737488351232) <|
 lt (([zew (Int.fdiv (body.length:Int) (2 ^ (min (8:Int).toNat 64))),zew (body.length:Int)]:B8)) fun v=>
 zao (((v++body).length:Int)*1<=140737488351232) <|
 zao (0<=(0:Int)/\(0:Int)<=((v++body).length:Int)) <|
 ob (zqc (zc1 (v++body) 0)) fun x=>
 zao ((((v++body)++([zew (Int.fdiv x (2 ^ (min (24:Int).toNat 32))),zew (Int.fdiv x (2 ^ (min (16:Int).toNat 32))),zew (Int.fdiv x (2 ^ (min (8:Int).toNat 32))),zew x]:B8)).length:Int)*1<=140737488351232) <|
 lt (((v++body)++([zew (Int.fdiv x (2 ^ (min (24:Int).toNat 32))),zew (Int.fdiv x (2 ^ (min (16:Int).toNat 32))),zew (Int.fdiv x (2 ^ (min (8:Int).toNat 32))),zew x]:B8))) fun v1=>
 some v1
theorem wire_AddFrame_v1_ok {body r}(hF:zhx body=some r):Pe Tryz.prog 112 (.w []) [.nils,.sl 1 (body.map zas)] (.row 18 3) ⟨[],[],[(18,⟨5,1,3,(r.map zas).length,0,true,0,[],(r.map zas)⟩)],[],[]⟩:=by
 refine PT 40 [.tmp 4] [22] Tryz.func112 ?_
 intro Q g hfin
 unfold zhx at hF
 refine LR0 ?_
 refine LR0 ?_
 have⟨h0,hF⟩:=aE hF
 have⟨v,hv,hF⟩:=lS hF
 refine RJ (.l zas body (.g (by decide:(0:Int)<=8) (.l zas body (.a (.sealed) (.p0N zas hv h0 .z))))) ?_
 have⟨h1,hF⟩:=aE hF
 refine RJ (.p zas h1 .z) ?_
 have⟨h2,hF⟩:=aE hF
 have⟨x,h3,hF⟩:=oE hF
 refine RJ (.s10 zas h2 (.b (zow h3) .z)) ?_
 have⟨h4,hF⟩:=aE hF
 have⟨v1,hv,hF⟩:=lS hF
 refine RJ (.g (by decide:(0:Int)<=24) (.g (by decide:(0:Int)<=16) (.g (by decide:(0:Int)<=8) (.a (.sealed) (.pN zas hv h4 .z))))) ?_
 cases hF
 exact Wz [(18,⟨3,true,true,true⟩)] hfin

/- wal.Frame -/
def zm6 (num:Note):Option B8:=
 ob (zra num) fun x=>
 ob (zhx x) fun x1=>
 some x1
theorem wal_Frame_v1_ok {num r}(hF:zm6 num=some r):Pe Tryz.prog 67 (.w []) [.nils,.agg (c_Note num)] (.row 8 3) ⟨[],[],[(8,⟨5,1,3,(r.map zas).length,0,true,0,[],(r.map zas)⟩)],[],[]⟩:=by
 refine PT 9 [.tmp 4] [22] Tryz.func67 ?_
 intro Q g hfin
 unfold zm6 at hF
 refine LR0 ?_
 have⟨x,h0,hF⟩:=oE hF
 have p1:=(Pe.ren (wal_bytes_ok h0) ⟨[],[(8,7)],[],[]⟩)
 have⟨x1,h2,hF⟩:=oE hF
 have p3:=(Pe.ren (wire_AddFrame_v1_ok h2) ⟨[],[(18,8)],[],[]⟩)
 refine RJ (.e [] [] p1 (.a (.raw [0]) (.a (cE [] [] [] [] p3) (.g p3 .z)))) ?_
 cases hF
 exact Wz [] hfin

/- slices.Grow[[]byte,byte] -/
def zed (num:Int):Option B8:=
 ob (
  if (decide (num<0))=true then
   none
  else
   some ()) fun v=>
 ob (
  if (decide (0<(w64 (num - (w64 (0 - 0))))))=true then
   zao (0<=(w64 (num - (w64 (0 - 0))))/\(w64 (num - (w64 (0 - 0)))).toNat*1<=140737488351232) <|
   zao (0<=(0:Int)/\(0:Int)<=((List.replicate (w64 (num - (w64 (0 - 0)))).toNat ((0:UInt8):UInt8)).length:Int)) <|
   lt ((List.replicate (w64 (num - (w64 (0 - 0)))).toNat ((0:UInt8):UInt8))) fun v2=>
   zao (((0:Int).toNat)<=v2.length) <|
   some (v2.take ((0:Int).toNat))
  else
   some ([]:B8)) fun v1=>
 some v1
theorem zpc {num r}(hF:zed num=some r):Pe Tryz.prog 142 (.w []) [.nils,.i num] (.row 22 0) ⟨[],[],[(22,.o 5 1 0 (r.map zas))],[],[]⟩:=by
 refine PT 27 [.tmp 4] [22] Tryz.func142 ?_
 intro Q g hfin
 unfold zed at hF
 refine LR0 ?_
 refine LR0 ?_
 have⟨v,hv,hF⟩:=oE hF
 refine NmT (fun Z=>Z.up [0,1] [] [] [] [] [] [] []) ?_ ?_
 ·have hF:=hv
  refine Nif hF ?_ ?_ <;> intro hb hF
  ·cases hF
  ·cases hF
   exact zgt []
 ·refine LR0 ?_
  refine NR [] [0,1,16] [] [] [(0,.nils),(1,.i (w64 (num - (w64 (0 - 0))))),(16,.bool (decide (0<(w64 (num - (w64 (0 - 0)))))))] .nil ?_
  have⟨v1,hv,hF⟩:=oE hF
  refine Nmeet (⟨[(0,.row 22 0)],[],[(22,.o 5 1 0 (v1.map zas))],[],[]⟩:S) ?_ ?_
  ·have hF:=hv
   refine Nif hF ?_ ?_ <;> intro hb hF
   ·have⟨h0,hF⟩:=aE hF
    have⟨h1,hF⟩:=aE hF
    refine NRL ((List.replicate (w64 (num - (w64 (0 - 0)))).toNat ((0:UInt8):UInt8))) (fun v2:B8=>([(0,.rowv 22 0 0 ((0:Int).toNat))],[],[(22,.z 5 1 0 (v2.map zas))],[])) [.xs ((List.replicate (w64 (num - (w64 (0 - 0)))).toNat ((0:UInt8):UInt8)).map zas),.vw ((0:Int).toNat)] [0] [] [22] [] (hc (rfl:(0:Int)=0) (hc h0 (hc (rep_ok zas (w64 (num - (w64 (0 - 0)))) ((0:UInt8):UInt8)) (hc (vw01_ok (cm:=0) zas h1) .nil)))) (fun v2 hv=>?_)
    have hF:=zeg hF hv
    have⟨h2,hF⟩:=aE hF
    refine Wk_truncL 0 22 0 ((0:Int).toNat) ((v2.take ((0:Int).toNat)).map zas) rfl rfl rfl rfl (tk_ok zas h2).1 (xa2 _) (xcz).symm ?_
    cases hF
    exact zgt [(22,⟨0,false,true,false⟩)]
   ·refine zap 0 60000 5 1 rfl rfl rfl ?_
    refine zcj (fs:=[0]) (bs:=[]) (rs:=[60000]) (ms:=[]) (aa:=[]) (nv:=[]) rfl ?_
    refine zau ⟨[],[(60000,22)],[],[]⟩ rfl ?_
    cases hF
    exact zgt [(22,⟨0,true,false,false⟩)]
  ·refine LR0 ?_
   cases hF
   exact Wz [] hfin

/- slices.Concat[[]byte,byte] -/
def zet (v1:B8):Option B8:=
 some v1
def zep (slices:B9)(v2:B8×Int):Option ((B8×Int)⊕B8):=
 if (decide (v2.2<(slices.length:Int)))=true then
  zao (0<=v2.2/\v2.2<(slices.length:Int)) <|
  zao (((v2.1++(zad slices v2.2)).length:Int)*1<=140737488351232) <|
  some (Sum.inl ((v2.1++(zad slices v2.2)),w64 (v2.2+1)))
 else
  zev (zet v2.1)
def zf9 (slices:B9)(v0:B8×Int):Option B8:=
 zbg (fun y=>zep slices y) v0
def zer (slices:B9)(v:Int):Option B8:=
 ob (zed v) fun x=>
 zf9 slices (x,0)
def zes (slices:B9)(v3:Int×Int):Option ((Int×Int)⊕B8):=
 if (decide (v3.2<(slices.length:Int)))=true then
  zao (0<=v3.2/\v3.2<(slices.length:Int)) <|
  ob (
   if (decide ((w64 (v3.1+((zad slices v3.2).length:Int)))<0))=true then
    none
   else
    some ()) fun v4=>
  some (Sum.inl (w64 (v3.1+((zad slices v3.2).length:Int)),w64 (v3.2+1)))
 else
  zev (zer slices v3.1)
def zga (slices:B9)(v0:Int×Int):Option B8:=
 zbg (fun y=>zes slices y) v0
def zfi (slices:B9):Option B8:=
 zga slices (0,0)
theorem zps {slices r}(hF:zfi slices=some r):Pe Tryz.prog 111 (.w []) [.sl 1 (slices.map zaf)] (.row 24 0) ⟨[],[],[(24,.o 5 1 0 (r.map zas))],[],[]⟩:=by
 refine PT 36 [.tmp 2] [22] Tryz.func111 ?_
 intro Q g hfin
 unfold zfi at hF
 refine LR0 ?_
 refine LR0 ?_
 refine RJ (.l zaf slices .z) ?_
 refine NmS (fun v=>zer slices v=some r) (fun Z v=>Z.up [0,3] [] [] [] [(3,.i v)] [] [] []) ?_ ?_
 ·refine zb5 ?_
  unfold zga at hF
  refine zoy hF [] (fun Z v3=>Z.up [0,3,9,10,11] [] [] [] [(3,.i v3.1),(11,.i v3.2)] [] [] []) ?_
  intro n1 v3 y1 hF ih1 dn1
  unfold zes at hF
  refine LR0 ?_
  refine Nif hF ?_ ?_ <;> intro hb hF
  ·refine zb5 ?_
   have⟨h4,hF⟩:=aE hF
   refine RJ (.i zaf h4 .z) ?_
   refine RJ (.l zas (zad slices v3.2) .z) ?_
   refine LR0 ?_
   have⟨v4,hv,hF⟩:=oE hF
   refine NmT (fun Z=>Z.up [0,3,9,10,11] [] [] [] [] [] [] []) ?_ ?_
   ·have hF:=hv
    refine Nif hF ?_ ?_ <;> intro hb hF
    ·cases hF
    ·cases hF
     exact zgt []
   ·refine LR0 ?_
    exact zgb [] hF ih1
  ·refine zbm rfl ?_
   have hF:=zaj hF dn1
   exact ze4 v3.1 [] hF
 ·intro v hF
  unfold zer at hF
  have⟨x,h0,hF⟩:=oE hF
  have p1:=(Pe.ren (zpc h0) ⟨[],[(22,24)],[],[]⟩)
  refine RJ (.a (.raw [0]) (.a (cE [] [] [] [] p1) (.g p1 .z))) ?_
  refine RJ (.l zaf slices .z) ?_
  refine NmS (fun v1=>zet v1=some r) (fun Z v1=>Z.up [6] [] [24] [] [] [] [(24,.o 5 1 0 (v1.map zas))] []) ?_ ?_
  ·refine zb5 ?_
   unfold zf9 at hF
   refine zoy hF [] (fun Z v2=>Z.up [6,25,26,27] [] [24] [] [(27,.i v2.2)] [] [(24,.o 5 1 0 (v2.1.map zas))] []) ?_
   intro n1 v2 y1 hF ih1 dn1
   unfold zep at hF
   refine LR0 ?_
   refine Nif hF ?_ ?_ <;> intro hb hF
   ·refine zb5 ?_
    have⟨h2,hF⟩:=aE hF
    refine RJ (.i zaf h2 .z) ?_
    have⟨h3,hF⟩:=aE hF
    refine RJ (.p zas h3 .z) ?_
    refine LR0 ?_
    exact zgb [(24,⟨0,true,true,false⟩)] hF ih1
   ·refine zbm rfl ?_
    have hF:=zaj hF dn1
    exact ze4 v2.1 [] hF
  ·intro v1 hF
   unfold zet at hF
   refine LR0 ?_
   cases hF
   exact Wz [] hfin

/- disk.Append -/
def zpi (d:Disk)(b:B8):Option (B8×Int×Fault):=
 lt (zop d) fun x=>
 if (!decide (x.Code=0))=true then
  some (([]:B8),0,x)
 else
  if (decide (60000<(w64 ((d.Bytes.length:Int)+(b.length:Int)))))=true then
   lt (zq1 9 0) fun x1=>
   some (([]:B8),0,x1)
  else
   ob (zfi ([d.Bytes,b]:B9)) fun x2=>
   some (x2,d.Kept,(⟨0,0⟩:Fault))
theorem disk_Append_ok {d b r}(hF:zpi d b=some r):Pe Tryz.prog 66 (.w []) [.agg (c_Disk d),.sl 1 (b.map zas)] (.tup [.agg [.row 27 0,.i r.2.1],.agg (zae r.2.2)]) ⟨[],[],[(27,.o 5 1 0 (r.1.map zas))],[],[]⟩:=by
 refine PT 32 [.cell 4 24,.cell 5 35] [24,35] Tryz.func66 ?_
 intro Q g hfin
 unfold zpi at hF
 refine LR0 ?_
 have⟨x,h0,hF⟩:=lS hF
 refine RJ (.b (zs9 h0) .z) ?_
 refine LR0 ?_
 refine Nif hF ?_ ?_ <;> intro hb hF
 ·refine VD [] [4,5] [4,5] [] [] [(4,.ptr 4 0),(5,.ptr 5 0)] [(4,[.nils,.i 0]),(5,(zae x))] [] [] .nil ?_
  cases hF
  refine zav 4 0 60000 5 1 rfl rfl rfl rfl rfl ?_
  refine zau ⟨[],[(60000,27)],[],[]⟩ rfl ?_
  exact Wz [(27,⟨0,true,false,false⟩)] hfin
 ·refine RJ (.l zas d.Bytes (.l zas b .z)) ?_
  refine Nif hF ?_ ?_ <;> intro hb hF
  ·have⟨x1,h1,hF⟩:=lS hF
   refine VR [.callB (.agg (zae x1))] [4,5] [4,5] [] [] [(4,.ptr 4 0),(5,.ptr 5 0)] [(4,[.nils,.i 0]),(5,(zae x1))] [] [] (hc (zsa h1) .nil) ?_
   cases hF
   refine zav 4 0 60001 5 1 rfl rfl rfl rfl rfl ?_
   refine zau ⟨[],[(60001,27)],[],[]⟩ rfl ?_
   exact Wz [(27,⟨0,true,false,false⟩)] hfin
  ·have⟨x2,h2,hF⟩:=oE hF
   have p3:=(Pe.ren (zps h2) ⟨[],[(24,27)],[],[]⟩)
   refine DJ (.a (.sealed) (.e [] [] p3 .z)) ?_
   cases hF
   exact Wz [] hfin

/- (*tablet.tab).fill$1 -/
def zjr (num:Note)(box:Int)(box1:B9)(box2 box3 box4:Int)(row:B8)(row1:List Note)(row2:Cs)(row3:List Cs):Bool:=
 decide (box2<num.Seq)
theorem ztb (rk rc:Nat)(rn:Bool)(rk1 rc1:Nat)(rn1:Bool)(rk2 rc2:Nat)(rn2:Bool)(rk3 rc3:Nat)(rn3:Bool){num box box1 box2 box3 box4 row row1 row2 row3 r}(hF:zjr num box box1 box2 box3 box4 row row1 row2 row3=r):Pe Tryz.prog 115 ⟨[],[(100000,[.ptr 100001 0]),(100001,[.row 100000 0,.i box,.sl 1 (box1.map zaf),.i box2,.i box3,.row 100001 0,.i box4,.row 100002 0,.row 100003 0])],[(100000,.q 5 1 0 rk rc rn (row.map zas)),(100001,.q 50 2 0 rk1 rc1 rn1 (row1.map zar)),(100002,.q 53 5 0 rk2 rc2 rn2 (row2.map zab)),(100003,.q 28 1 0 rk3 rc3 rn3 (row3.map zal))],[],[]⟩ [.agg (c_Note num),.ptr 100000 0] (.bool r) ⟨[],[(100000,[.ptr 100001 0]),(100001,[.row 100000 0,.i box,.sl 1 (box1.map zaf),.i box2,.i box3,.row 100001 0,.i box4,.row 100002 0,.row 100003 0])],[(100000,.q 5 1 0 rk rc rn (row.map zas)),(100001,.q 50 2 0 rk1 rc1 rn1 (row1.map zar)),(100002,.q 53 5 0 rk2 rc2 rn2 (row2.map zab)),(100003,.q 28 1 0 rk3 rc3 rn3 (row3.map zal))],[],[]⟩:=by
 refine PT 12 [.tmp 3] [4] Tryz.func115 ?_
 intro Q g hfin
 unfold zjr at hF
 refine LR0 ?_
 refine LD0 ?_
 cases hF
 exact Wz [] hfin

/- slices.IndexFunc[[]api.Note,api.Note] -/
def zdf (v:Unit):Option Int:=
 some (-1)
def zex (box:Int)(box1:B9)(box2 box3 box4:Int)(row:List Note)(row1:B8)(row2:Cs)(row3:List Cs)(v1:Int):Option (Int⊕Int):=
 if (decide (v1<(row.length:Int)))=true then
  zao (0<=v1/\v1<(row.length:Int)) <|
  zao (0<=v1/\v1<(row.length:Int)) <|
  lt (zjr (⟨(zad row v1).Seq,(zad row v1).Cells⟩:Note) box box1 box2 box3 box4 row1 row row2 row3) fun x=>
  if x=true then
   some (Sum.inr v1)
  else
   some (Sum.inl (w64 (v1+1)))
 else
  zev (zdf ())
def zey (box:Int)(box1:B9)(box2 box3 box4:Int)(row:List Note)(row1:B8)(row2:Cs)(row3:List Cs)(v0:Int):Option Int:=
 zbg (fun y=>zex box box1 box2 box3 box4 row row1 row2 row3 y) v0
def zcn (box:Int)(box1:B9)(box2 box3 box4:Int)(row:List Note)(row1:B8)(row2:Cs)(row3:List Cs):Option Int:=
 zey box box1 box2 box3 box4 row row1 row2 row3 0
theorem zim (rk rc:Nat)(rn:Bool)(rk1 rc1:Nat)(rn1:Bool)(rk2 rc2:Nat)(rn2:Bool)(rk3 rc3:Nat)(rn3:Bool){box box1 box2 box3 box4 row row1 row2 row3 r}(hF:zcn box box1 box2 box3 box4 row row1 row2 row3=some r):Pe Tryz.prog 114 ⟨[],[(100000,[.ptr 100001 0]),(100001,[.row 100001 0,.i box,.sl 1 (box1.map zaf),.i box2,.i box3,.row 100000 0,.i box4,.row 100002 0,.row 100003 0])],[(100000,.q 50 2 0 rk rc rn (row.map zar)),(100001,.q 5 1 0 rk1 rc1 rn1 (row1.map zas)),(100002,.q 53 5 0 rk2 rc2 rn2 (row2.map zab)),(100003,.q 28 1 0 rk3 rc3 rn3 (row3.map zal))],[],[]⟩ [.row 100000 0,.fn 115 [.ptr 100000 0]] (.i r) ⟨[],[(100000,[.ptr 100001 0]),(100001,[.row 100001 0,.i box,.sl 1 (box1.map zaf),.i box2,.i box3,.row 100000 0,.i box4,.row 100002 0,.row 100003 0])],[(100000,.q 50 2 0 rk rc rn (row.map zar)),(100001,.q 5 1 0 rk1 rc1 rn1 (row1.map zas)),(100002,.q 53 5 0 rk2 rc2 rn2 (row2.map zab)),(100003,.q 28 1 0 rk3 rc3 rn3 (row3.map zal))],[],[]⟩:=by
 refine PT 19 [.tmp 4] [3] Tryz.func114 ?_
 intro Q g hfin
 unfold zcn at hF
 refine LR0 ?_
 refine RJ (.l zar row .z) ?_
 refine NmS (fun v=>zdf v=some r) (fun Z v=>Z.up [] [100000,100001] [100000,100001,100002,100003] [] [] [] [] []) ?_ ?_
 ·refine zb5 ?_
  unfold zey at hF
  refine zoy hF [] (fun Z v1=>Z.up [0,1,7,8] [100000,100001] [100000,100001,100002,100003] [] [(8,.i v1)] [] [] []) ?_
  intro n1 v1 y1 hF ih1 dn1
  unfold zex at hF
  refine LR0 ?_
  refine Nif hF ?_ ?_ <;> intro hb hF
  ·refine zb5 ?_
   refine LR0 ?_
   have⟨h0,h1,hF⟩:=zf7 hF
   have⟨x,h2,hF⟩:=lS hF
   refine RJ (.x zar h0 (.r zar h1 (.q [100000,100001] [100001,100000,100002,100003] (Pe.ren (ztb rk1 rc1 rn1 rk rc rn rk2 rc2 rn2 rk3 rc3 rn3 h2) ⟨[],[(100000,100001)],[],[]⟩) .z))) ?_
   refine Nif hF ?_ ?_ <;> intro hb hF
   ·refine LR0 ?_
    have hF:=zcr hF dn1
    cases hF
    exact Wz [] hfin
   ·refine LR0 ?_
    exact zgb [] hF ih1
  ·refine zbm rfl ?_
   have hF:=zaj hF dn1
   exact ze4 () [] hF
 ·intro v hF
  unfold zdf at hF
  refine LR0 ?_
  cases hF
  exact Wz [] hfin

/- (*tablet.tab).lists -/
def zko (box:Int)(box1:B9)(box2 box3 box4:Int)(row:B8)(row1:List Note)(row2:Cs)(row3:List Cs):Option (List Cs×Cs):=
 zao (((([row2]:List Cs)++row3).length:Int)*24<=140737488351232) <|
 some ((([row2]:List Cs)++row3),row2)
theorem tablet_tab_lists_v1_ok (rk rc:Nat)(rn:Bool)(rk1 rc1:Nat)(rn1:Bool)(rk2 rc2:Nat)(rn2:Bool)(rk3 rc3:Nat)(rn3:Bool){box box1 box2 box3 box4 row row1 row2 row3 r}(hF:zko box box1 box2 box3 box4 row row1 row2 row3=some r):Pe Tryz.prog 132 ⟨[],[(100000,[.row 100000 0,.i box,.sl 1 (box1.map zaf),.i box2,.i box3,.row 100001 0,.i box4,.row 100002 0,.row 100003 0])],[(100000,.q 5 1 0 rk rc rn (row.map zas)),(100001,.q 50 2 0 rk1 rc1 rn1 (row1.map zar)),(100002,.q 53 5 0 rk2 rc2 rn2 (row2.map zab)),(100003,.q 28 1 0 rk3 rc3 rn3 (row3.map zal))],[],[]⟩ [.ptr 100000 0] (.row 7 1) ⟨[],[(100000,[.row 100000 0,.i box,.sl 1 (box1.map zaf),.i box2,.i box3,.row 100001 0,.i box4,.row 100002 0,.row 100003 0])],[(100000,.q 5 1 0 rk rc rn (row.map zas)),(100001,.q 50 2 0 rk1 rc1 rn1 (row1.map zar)),(100002,⟨53,5,0,(r.2.map zab).length,rc2,rn2,0,[],(r.2.map zab)⟩),(100003,.q 28 1 0 rk3 rc3 rn3 (row3.map zal)),(7,.z 28 1 1 (r.1.map zal))],[],[]⟩:=by
 refine PT 13 [.tmp 2] [42] Tryz.func132 ?_
 intro Q g hfin
 unfold zko at hF
 refine LR0 ?_
 have⟨h0,hF⟩:=aE hF
 refine DJ (.p zal h0 .z) ?_
 cases hF
 exact Wz [] hfin

/- (*tablet.tab).all -/
def zji (box:Int)(box1:B9)(box2 box3 box4:Int)(row:B8)(row1:List Note)(row2:Cs)(row3:List Cs):Option (Cs×Cs):=
 ob (zko box box1 box2 box3 box4 row row1 row2 row3) fun x=>
 ob (zmh x.1) fun x1=>
 some (x1,x.2)
theorem tablet_tab_all_v1_ok (rk rc:Nat)(rn:Bool)(rk1 rc1:Nat)(rn1:Bool)(rk2 rc2:Nat)(rn2:Bool)(rk3 rc3:Nat)(rn3:Bool){box box1 box2 box3 box4 row row1 row2 row3 r}(hF:zji box box1 box2 box3 box4 row row1 row2 row3=some r):Pe Tryz.prog 92 ⟨[],[(100000,[.row 100000 0,.i box,.sl 1 (box1.map zaf),.i box2,.i box3,.row 100001 0,.i box4,.row 100002 0,.row 100003 0])],[(100000,.q 5 1 0 rk rc rn (row.map zas)),(100001,.q 50 2 0 rk1 rc1 rn1 (row1.map zar)),(100002,.q 53 5 0 rk2 rc2 rn2 (row2.map zab)),(100003,.q 28 1 0 rk3 rc3 rn3 (row3.map zal))],[],[]⟩ [.ptr 100000 0] (.row 5 1) ⟨[],[(100000,[.row 100000 0,.i box,.sl 1 (box1.map zaf),.i box2,.i box3,.row 100001 0,.i box4,.row 100002 0,.row 100003 0])],[(100000,.q 5 1 0 rk rc rn (row.map zas)),(100001,.q 50 2 0 rk1 rc1 rn1 (row1.map zar)),(100002,⟨53,5,0,(r.2.map zab).length,rc2,rn2,0,[],(r.2.map zab)⟩),(100003,.q 28 1 0 rk3 rc3 rn3 (row3.map zal)),(5,.o 53 5 1 (r.1.map zab))],[],[]⟩:=by
 refine PT 6 [.tmp 2] [28] Tryz.func92 ?_
 intro Q g hfin
 unfold zji at hF
 refine LR0 ?_
 have⟨x,h0,hF⟩:=oE hF
 have p1:=(Pe.ren (tablet_tab_lists_v1_ok rk rc rn rk1 rc1 rn1 rk2 rc2 rn2 rk3 rc3 rn3 h0) ⟨[],[(7,4)],[],[]⟩)
 have⟨x1,h2,hF⟩:=oE hF
 have p3:=(Pe.ren (zta h2) ⟨[],[],[],[]⟩)
 refine RJ (.e [100000] [100000,100001,100002,100003] p1 (.e [] [] p3 .z)) ?_
 cases hF
 exact Wz [] hfin

/- (*tablet.tab).fill -/
def zgm (box:Int)(box1:B9)(box2 box3 box4:Int)(row:B8)(row1:List Note)(row2:Cs)(row3:List Cs):Option (Fault×Int×B9×Int×Int×List Note×Int×Cs):=
 ob (zcn box box1 box2 box3 box4 row1 row row2 row3) fun x=>
 ob (
  if (decide (0<=x))=true then
   zao (0<=x/\x<=(row1.length:Int)) <|
   ob (zqw ([]:Cs) (zc1 row1 x)) fun x1=>
   some (x1,(⟨0,0⟩:Fault))
  else
   some (([]:Cs),(⟨0,0⟩:Fault))) fun (v:Cs×Fault)=>
 if (decide (500<(v.1.length:Int)))=true then
  lt (zce 9 (-2)) fun x2=>
  some (x2,box,box1,box2,box3,row1,box4,v.1)
 else
  ob (zji box box1 box2 box3 box4 row row1 v.1 row3) fun x3=>
  if (decide (1000<(x3.1.length:Int)))=true then
   lt (zce 9 (-1)) fun x4=>
   some (x4,box,box1,box2,box3,row1,box4,x3.2)
  else
   some ((⟨0,0⟩:Fault),box,box1,box2,box3,row1,box4,x3.2)
theorem tablet_tab_fill_v1_ok (rk rc:Nat)(rn:Bool)(rk1 rc1:Nat)(rn1:Bool)(rk2 rc2:Nat)(rn2:Bool)(rk3 rc3:Nat)(rn3:Bool){box box1 box2 box3 box4 row row1 row2 row3 r}(hF:zgm box box1 box2 box3 box4 row row1 row2 row3=some r):Pe Tryz.prog 68 ⟨[],[(100000,[.row 100000 0,.i box,.sl 1 (box1.map zaf),.i box2,.i box3,.row 100001 0,.i box4,.row 100002 0,.row 100003 0])],[(100000,.q 5 1 0 rk rc rn (row.map zas)),(100001,.q 50 2 0 rk1 rc1 rn1 (row1.map zar)),(100002,.q 53 5 0 rk2 rc2 rn2 (row2.map zab)),(100003,.q 28 1 0 rk3 rc3 rn3 (row3.map zal))],[],[]⟩ [.ptr 100000 0] (.agg (zae r.1)) ⟨[],[(100000,[.row 100000 0,.i r.2.1,.sl 1 (r.2.2.1.map zaf),.i r.2.2.2.1,.i r.2.2.2.2.1,.row 100001 0,.i r.2.2.2.2.2.2.1,.row 22 0,.row 100003 0])],[(100000,.q 5 1 0 rk rc rn (row.map zas)),(100001,⟨50,2,0,(r.2.2.2.2.2.1.map zar).length,rc1,rn1,0,[],(r.2.2.2.2.2.1.map zar)⟩),(100002,.q 53 5 0 rk2 rc2 rn2 (row2.map zab)),(100003,.q 28 1 0 rk3 rc3 rn3 (row3.map zal)),(22,⟨53,5,0,(r.2.2.2.2.2.2.2.map zab).length,0,false,0,[],(r.2.2.2.2.2.2.2.map zab)⟩)],[],[]⟩:=by
 refine PT 38 [.cell 2 35] [35] Tryz.func68 ?_
 intro Q g hfin
 unfold zgm at hF
 refine LR0 ?_
 have⟨x,h0,hF⟩:=oE hF
 refine RJ (.q [1,100000] [100001,100000,100002,100003] (Pe.ren (zim rk1 rc1 rn1 rk rc rn rk2 rc2 rn2 rk3 rc3 rn3 h0) ⟨[(100000,1),(100001,100000)],[(100000,100001)],[],[]⟩) .z) ?_
 refine LR0 ?_
 refine VR [] [1,2,3,14] [1,2,100000] [100000,100001,100002,100003] [] [(1,.ptr 1 0),(2,.ptr 2 0),(3,.i x),(14,.bool (decide (0<=x)))] [(1,[.ptr 100000 0]),(2,[.i 0,.i 0]),(100000,[.row 100000 0,.i box,.sl 1 (box1.map zaf),.i box2,.i box3,.row 100001 0,.i box4,.nils,.row 100003 0])] [(100000,.q 5 1 0 rk rc rn (row.map zas)),(100001,.q 50 2 0 rk1 rc1 rn1 (row1.map zar)),(100002,.q 53 5 0 rk2 rc2 rn2 (row2.map zab)),(100003,.q 28 1 0 rk3 rc3 rn3 (row3.map zal))] [] .nil ?_
 have⟨v,hv,hF⟩:=oE hF
 refine NmT (fun Z=>Z.up [1,2] [1,2,100000] [22,100000,100001,100002,100003] [] [] [(2,(zae v.2)),(100000,[.row 100000 0,.i box,.sl 1 (box1.map zaf),.i box2,.i box3,.row 100001 0,.i box4,.row 22 0,.row 100003 0])] [(22,.o 53 5 0 (v.1.map zab)),(100001,⟨50,2,0,(row1.map zar).length,rc1,rn1,0,[],(row1.map zar)⟩)] []) ?_ ?_
 ·have hF:=hv
  refine Nif hF ?_ ?_ <;> intro hb hF
  ·have⟨h1,hF⟩:=aE hF
   have⟨x1,h2,hF⟩:=oE hF
   have p3:=(Pe.ren (wal_Put_ok ([]:Cs) (zc1 row1 x) x1 h2) ⟨[],[(5,22)],[],[]⟩)
   refine DJ (.s10 zar h1 (.e [] [] p3 .z)) ?_
   cases hF
   exact zgt [(22,⟨0,true,true,false⟩)]
  ·refine zav 100000 7 60000 53 5 rfl rfl rfl rfl rfl ?_
   refine zcj (fs:=[1,2]) (bs:=[1,2,100000]) (rs:=[60000,100000,100001,100002,100003]) (ms:=[]) (aa:=[]) (nv:=[]) rfl ?_
   refine zau ⟨[],[(60000,22)],[],[]⟩ rfl ?_
   cases hF
   exact zgt [(22,⟨0,true,false,false⟩),(100001,⟨0,true,true,true⟩)]
 ·refine RJ (.l zab v.1 .z) ?_
  refine Nif hF ?_ ?_ <;> intro hb hF
  ·have⟨x2,h4,hF⟩:=lS hF
   refine RJ (.b (za2 h4) .z) ?_
   cases hF
   exact Wz [(22,⟨0,true,true,true⟩)] hfin
  ·have⟨x3,h5,hF⟩:=oE hF
   have p6:=(Pe.ren (tablet_tab_all_v1_ok rk rc rn ((row1.map zar).length) rc1 rn1 0 0 false rk3 rc3 rn3 h5) ⟨[],[(100002,22),(5,33)],[],[]⟩)
   refine RJ (.e [100000] [100000,100001,22,100003] p6 (.l zab x3.1 .z)) ?_
   refine Nif hF ?_ ?_ <;> intro hb hF
   ·have⟨x4,h7,hF⟩:=lS hF
    refine RJ (.b (za2 h7) .z) ?_
    cases hF
    exact Wz [(100001,⟨0,true,true,true⟩)] hfin
   ·refine LR0 ?_
    cases hF
    exact Wz [(100001,⟨0,true,true,true⟩)] hfin

end
end G
end Go.Proofs.YticbfakiihfgmaaGreat
