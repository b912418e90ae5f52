/- The program's functions as plain functions, and that they are these. Written by a program (dec2.py). -/
import Derived.Test.YticbfakiihfgmaaGreatGf0
namespace Go.Proofs.YticbfakiihfgmaaGreat
open Go Go.Dm
set_option linter.unusedVariables false
set_option linter.unusedSimpArgs false
set_option maxRecDepth 100000
namespace G
noncomputable section
/- slices.symMergeCmpFunc[api.Cell] -/
def zda (v1:List Cell):Option (List Cell):=
 some v1
def zb7 (v:Int) (v2:List Cell×Int):Option ((List Cell×Int)⊕(List Cell)):=
 if (decide (v2.2<(w64 (v - 1))))=true then
  zaq (0≤w64 (v2.2+1)∧w64 (v2.2+1)<(v2.1.length:Int)) <|
  zaq (0≤w64 (v2.2+1)∧w64 (v2.2+1)<(v2.1.length:Int)) <|
  zaq (0≤v2.2∧v2.2<(v2.1.length:Int)) <|
  zaq (0≤v2.2∧v2.2<(v2.1.length:Int)) <|
  zaq (0≤v2.2∧v2.2<(v2.1.length:Int)) <|
  zaq (0≤v2.2∧v2.2<(v2.1.length:Int)) <|
  zaq (0≤w64 (v2.2+1)∧w64 (v2.2+1)<((lset v2.1 v2.2 (⟨(zaf v2.1 (w64 (v2.2+1))).Row,(zaf v2.1 (w64 (v2.2+1))).Col,(zaf v2.1 (w64 (v2.2+1))).Time,(zaf v2.1 (w64 (v2.2+1))).Gone,(zaf v2.1 (w64 (v2.2+1))).Value⟩:Cell)).length:Int)) <|
  zaq (0≤w64 (v2.2+1)∧w64 (v2.2+1)<((lset v2.1 v2.2 (⟨(zaf v2.1 (w64 (v2.2+1))).Row,(zaf v2.1 (w64 (v2.2+1))).Col,(zaf v2.1 (w64 (v2.2+1))).Time,(zaf v2.1 (w64 (v2.2+1))).Gone,(zaf v2.1 (w64 (v2.2+1))).Value⟩:Cell)).length:Int)) <|
  lt ((lset (lset v2.1 v2.2 (⟨(zaf v2.1 (w64 (v2.2+1))).Row,(zaf v2.1 (w64 (v2.2+1))).Col,(zaf v2.1 (w64 (v2.2+1))).Time,(zaf v2.1 (w64 (v2.2+1))).Gone,(zaf v2.1 (w64 (v2.2+1))).Value⟩:Cell)) (w64 (v2.2+1)) (⟨(zaf v2.1 v2.2).Row,(zaf v2.1 v2.2).Col,(zaf v2.1 v2.2).Time,(zaf v2.1 v2.2).Gone,(zaf v2.1 v2.2).Value⟩:Cell))) fun v3=>
  some (Sum.inl (v3,w64 (v2.2+1)))
 else
  zem (zda v2.1)
def zde (v:Int) (v0:List Cell×Int):Option (List Cell):=
 zbc (fun y=>zb7 v y) v0
def zbj (a0:Int) (row:List Cell) (v:Int):Option (List Cell):=
 zde v (row,a0)
def zbk (a0:Int) (row:List Cell) (v4:Int×Int):Option ((Int×Int)⊕(List Cell)):=
 if (decide (v4.1<v4.2))=true then
  lt (w64 (Int.fdiv (IntKind.u64.wrap (w64 (v4.1+v4.2))) (2 ^ (min (1:Int).toNat 64)))) fun v5=>
  zaq (0≤v5∧v5<(row.length:Int)) <|
  zaq (0≤v5∧v5<(row.length:Int)) <|
  zaq (0≤a0∧a0<(row.length:Int)) <|
  zaq (0≤a0∧a0<(row.length:Int)) <|
  ob (cell_Order (⟨(zaf row v5).Row,(zaf row v5).Col,(zaf row v5).Time,(zaf row v5).Gone,(zaf row v5).Value⟩:Cell) (⟨(zaf row a0).Row,(zaf row a0).Col,(zaf row a0).Time,(zaf row a0).Gone,(zaf row a0).Value⟩:Cell)) fun x=>
  if (decide (x<0))=true then
   some (Sum.inl (w64 (v5+1),v4.2))
  else
   some (Sum.inl (v4.1,v5))
 else
  zem (zbj a0 row v4.1)
def zdg (a0:Int) (row:List Cell) (v0:Int×Int):Option (List Cell):=
 zbc (fun y=>zbk a0 row y) v0
def zdd (v7:List Cell):Option (List Cell):=
 some v7
def zb9 (v6:Int) (v8:List Cell×Int):Option ((List Cell×Int)⊕(List Cell)):=
 if (decide (v6<v8.2))=true then
  zaq (0≤w64 (v8.2 - 1)∧w64 (v8.2 - 1)<(v8.1.length:Int)) <|
  zaq (0≤w64 (v8.2 - 1)∧w64 (v8.2 - 1)<(v8.1.length:Int)) <|
  zaq (0≤v8.2∧v8.2<(v8.1.length:Int)) <|
  zaq (0≤v8.2∧v8.2<(v8.1.length:Int)) <|
  zaq (0≤v8.2∧v8.2<(v8.1.length:Int)) <|
  zaq (0≤v8.2∧v8.2<(v8.1.length:Int)) <|
  zaq (0≤w64 (v8.2 - 1)∧w64 (v8.2 - 1)<((lset v8.1 v8.2 (⟨(zaf v8.1 (w64 (v8.2 - 1))).Row,(zaf v8.1 (w64 (v8.2 - 1))).Col,(zaf v8.1 (w64 (v8.2 - 1))).Time,(zaf v8.1 (w64 (v8.2 - 1))).Gone,(zaf v8.1 (w64 (v8.2 - 1))).Value⟩:Cell)).length:Int)) <|
  zaq (0≤w64 (v8.2 - 1)∧w64 (v8.2 - 1)<((lset v8.1 v8.2 (⟨(zaf v8.1 (w64 (v8.2 - 1))).Row,(zaf v8.1 (w64 (v8.2 - 1))).Col,(zaf v8.1 (w64 (v8.2 - 1))).Time,(zaf v8.1 (w64 (v8.2 - 1))).Gone,(zaf v8.1 (w64 (v8.2 - 1))).Value⟩:Cell)).length:Int)) <|
  lt ((lset (lset v8.1 v8.2 (⟨(zaf v8.1 (w64 (v8.2 - 1))).Row,(zaf v8.1 (w64 (v8.2 - 1))).Col,(zaf v8.1 (w64 (v8.2 - 1))).Time,(zaf v8.1 (w64 (v8.2 - 1))).Gone,(zaf v8.1 (w64 (v8.2 - 1))).Value⟩:Cell)) (w64 (v8.2 - 1)) (⟨(zaf v8.1 v8.2).Row,(zaf v8.1 v8.2).Col,(zaf v8.1 v8.2).Time,(zaf v8.1 v8.2).Gone,(zaf v8.1 v8.2).Value⟩:Cell))) fun v9=>
  some (Sum.inl (v9,w64 (v8.2 - 1)))
 else
  zem (zdd v8.1)
def zdh (v6:Int) (v0:List Cell×Int):Option (List Cell):=
 zbc (fun y=>zb9 v6 y) v0
def zbe (m:Int) (row:List Cell) (v6:Int):Option (List Cell):=
 zdh v6 (row,m)
def zbh (m:Int) (row:List Cell) (v10:Int×Int):Option ((Int×Int)⊕(List Cell)):=
 if (decide (v10.1<v10.2))=true then
  lt (w64 (Int.fdiv (IntKind.u64.wrap (w64 (v10.1+v10.2))) (2 ^ (min (1:Int).toNat 64)))) fun v11=>
  zaq (0≤m∧m<(row.length:Int)) <|
  zaq (0≤m∧m<(row.length:Int)) <|
  zaq (0≤v11∧v11<(row.length:Int)) <|
  zaq (0≤v11∧v11<(row.length:Int)) <|
  ob (cell_Order (⟨(zaf row m).Row,(zaf row m).Col,(zaf row m).Time,(zaf row m).Gone,(zaf row m).Value⟩:Cell) (⟨(zaf row v11).Row,(zaf row v11).Col,(zaf row v11).Time,(zaf row v11).Gone,(zaf row v11).Value⟩:Cell)) fun x1=>
  if (!(decide (x1<0)))=true then
   some (Sum.inl (w64 (v11+1),v10.2))
  else
   some (Sum.inl (v10.1,v11))
 else
  zem (zbe m row v10.1)
def zdc (m:Int) (row:List Cell) (v0:Int×Int):Option (List Cell):=
 zbc (fun y=>zbh m row y) v0
def za1 (a0 m b:Int) (row:List Cell) (rec:(Int×Int×Int×List Cell)→Option (List Cell)) (v12 v14:Int):Option (List Cell):=
 ob (
  if ((decide (v14<m))&&(decide (m<(w64 ((w64 (v12+m)) - v14)))))=true then
   ob (zbl v14 m (w64 ((w64 (v12+m)) - v14)) row) fun x2=>
   some x2
  else
   some row) fun v15=>
 ob (
  if ((decide (a0<v14))&&(decide (v14<v12)))=true then
   ob (rec (a0,v14,v12,v15)) fun x3=>
   some x3
  else
   some v15) fun v16=>
 if ((decide (v12<(w64 ((w64 (v12+m)) - v14))))&&(decide ((w64 ((w64 (v12+m)) - v14))<b)))=true then
  ob (rec (v12,w64 ((w64 (v12+m)) - v14),b,v16)) fun x4=>
  some x4
 else
  some v16
def zbi (a0 m b:Int) (row:List Cell) (rec:(Int×Int×Int×List Cell)→Option (List Cell)) (v12:Int) (v17:Int×Int):Option ((Int×Int)⊕(List Cell)):=
 if (decide (v17.1<v17.2))=true then
  lt (w64 (Int.fdiv (IntKind.u64.wrap (w64 (v17.1+v17.2))) (2 ^ (min (1:Int).toNat 64)))) fun v18=>
  zaq (0≤w64 ((w64 ((w64 (v12+m)) - 1)) - v18)∧w64 ((w64 ((w64 (v12+m)) - 1)) - v18)<(row.length:Int)) <|
  zaq (0≤w64 ((w64 ((w64 (v12+m)) - 1)) - v18)∧w64 ((w64 ((w64 (v12+m)) - 1)) - v18)<(row.length:Int)) <|
  zaq (0≤v18∧v18<(row.length:Int)) <|
  zaq (0≤v18∧v18<(row.length:Int)) <|
  ob (cell_Order (⟨(zaf row (w64 ((w64 ((w64 (v12+m)) - 1)) - v18))).Row,(zaf row (w64 ((w64 ((w64 (v12+m)) - 1)) - v18))).Col,(zaf row (w64 ((w64 ((w64 (v12+m)) - 1)) - v18))).Time,(zaf row (w64 ((w64 ((w64 (v12+m)) - 1)) - v18))).Gone,(zaf row (w64 ((w64 ((w64 (v12+m)) - 1)) - v18))).Value⟩:Cell) (⟨(zaf row v18).Row,(zaf row v18).Col,(zaf row v18).Time,(zaf row v18).Gone,(zaf row v18).Value⟩:Cell)) fun x5=>
  if (!(decide (x5<0)))=true then
   some (Sum.inl (w64 (v18+1),v17.2))
  else
   some (Sum.inl (v17.1,v18))
 else
  zem (za1 a0 m b row rec v12 v17.1)
def zbg (a0 m b:Int) (row:List Cell) (rec:(Int×Int×Int×List Cell)→Option (List Cell)) (v12:Int) (v0:Int×Int):Option (List Cell):=
 zbc (fun y=>zbi a0 m b row rec v12 y) v0
def zal (rec:(Int×Int×Int×List Cell)→Option (List Cell)) (a0 m b:Int) (row:List Cell):Option (List Cell):=
 if (decide ((w64 (m - a0))=1))=true then
  zdg a0 row (m,b)
 else
  if (decide ((w64 (b - m))=1))=true then
   zdc m row (a0,m)
  else
   lt (w64 (Int.fdiv (IntKind.u64.wrap (w64 (a0+b))) (2 ^ (min (1:Int).toNat 64)))) fun v12=>
   ob (
    if (decide (v12<m))=true then
     some (w64 ((w64 (v12+m)) - b),v12)
    else
     some (a0,m)) fun v13=>
   zbg a0 m b row rec v12 (v13.1,v13.2)
def zby (a0 m b:Int) (row:List Cell):Option (List Cell):=recO (fun rec (x:Int×Int×Int×List Cell)=>zal rec x.1 x.2.1 x.2.2.1 x.2.2.2) (a0,m,b,row)
theorem zes (rk rc:Nat) (rn:Bool) {a0 m b row r} (hF:zby a0 m b row=some r):Pe Tryz.prog 178 (.w [(100000,.q 53 5 0 0 rc rn (row.map zac))]) [.row 100000 0,.i a0,.i m,.i b,.fn 136 []] (.tup []) (.w [(100000,.q 53 5 0 0 rc rn (r.map zac))]):=by
 have key:∀ (k:Nat) (x:Int×Int×Int×List Cell) (rk:Nat) (rc:Nat) (rn:Bool) (r:List Cell),fuelO (fun rec (x:Int×Int×Int×List Cell)=>zal rec x.1 x.2.1 x.2.2.1 x.2.2.2) k x=some r→Pe Tryz.prog 178 (.w [(100000,.q 53 5 0 0 rc rn (x.2.2.2.map zac))]) [.row 100000 0,.i x.1,.i x.2.1,.i x.2.2.1,.fn 136 []] (.tup []) (.w [(100000,.q 53 5 0 0 rc rn (r.map zac))]):=by
  intro k
  induction k with
  | zero=>intro x rk rc rn r hF; cases hF
  | succ k ih=>
   intro x rk rc rn r hF
   have hF:zal (fuelO (fun rec (x:Int×Int×Int×List Cell)=>zal rec x.1 x.2.1 x.2.2.1 x.2.2.2) k) x.1 x.2.1 x.2.2.1 x.2.2.2=some r:=hF
   generalize fuelO (fun rec (x:Int×Int×Int×List Cell)=>zal rec x.1 x.2.1 x.2.2.1 x.2.2.2) k=rec at ih hF
   obtain ⟨a0,m,b,row⟩:=x
   simp only at hF ⊢
   refine PT 220 [] [] Tryz.func178 ?_
   intro Q g hfin
   unfold zal at hF
   refine LR0 ?_
   refine Nif hF ?_ ?_ <;> intro hb hF
   ·refine LR0 ?_
    refine LR0 ?_
    refine NmS (fun v=>zbj a0 row v=some r) (fun Z v=>Z.up [0,1,10] [] [100000] [] [(10,.i v)] [] [] []) ?_ ?_
    ·refine zcb ?_
     unfold zdg at hF
     refine Nits hF [] (fun Z v4=>Z.up [0,1,4,10,11] [] [100000] [] [(10,.i v4.1),(11,.i v4.2)] [] [] []) ?_
     intro n1 v4 y1 hF ih1 dn1
     unfold zbk at hF
     refine LR0 ?_
     refine Nif hF ?_ ?_ <;> intro hb hF
     ·refine zcb ?_
      refine NRL (w64 (Int.fdiv (IntKind.u64.wrap (w64 (v4.1+v4.2))) (2 ^ (min (1:Int).toNat 64)))) (fun v5:Int=>([(12,.i v5)],[],[],[])) [] [0,1,4,10,11,12] [] [100000] [] (hc (by decide:(0:Int)≤1) .nil) (fun v5 hv=>?_)
      have hF:=zev hF hv
      obtain ⟨h8,h9,h10,h11,hF⟩:=asrt4 hF
      obtain ⟨x,h12,hF⟩:=oE hF
      refine DJ (.x zac h8 (.r zac h9 (.x zac h10 (.r zac h11 (.b (cell_Order_ok h12) .z))))) ?_
      refine Nif hF ?_ ?_ <;> intro hb hF
      ·refine LR0 ?_
       exact Nrnq [] hF ih1
      ·refine LR0 ?_
       exact Nrnq [] hF ih1
     ·refine zbv rfl ?_
      have hF:=zaj hF dn1
      exact ze6 v4.1 [] hF
    ·intro v hF
     unfold zbj at hF
     refine LR0 ?_
     refine NmQ (fun v1=>zda v1=some r) (fun v1=>(.w [(100000,.q 53 5 0 0 rc rn (v1.map zac))])) ?_ ?_
     ·refine zcb ?_
      unfold zde at hF
      refine Nits hF [] (fun Z v2=>Z.up [0,10,13] [] [100000] [] [(13,.i v2.2)] [] [(100000,.q 53 5 0 0 rc rn (v2.1.map zac))] []) ?_
      intro n1 v2 y1 hF ih1 dn1
      unfold zb7 at hF
      refine LR0 ?_
      refine Nif hF ?_ ?_ <;> intro hb hF
      ·refine zcb ?_
       obtain ⟨h0,h1,h2,h3,hF⟩:=asrt4 hF
       obtain ⟨h4,h5,h6,h7,hF⟩:=asrt4 hF
       obtain ⟨v3,hv,hF⟩:=lS hF
       refine DJ (.x zac h0 (.r zac h1 (.x zac h2 (.r zac h3 (.x zac h4 (.w zac h5 (⟨(zaf v2.1 (w64 (v2.2+1))).Row,(zaf v2.1 (w64 (v2.2+1))).Col,(zaf v2.1 (w64 (v2.2+1))).Time,(zaf v2.1 (w64 (v2.2+1))).Gone,(zaf v2.1 (w64 (v2.2+1))).Value⟩:Cell) (.x zac h6 (.wN zac h7 hv .z)))))))) ?_
       refine LR0 ?_
       exact Nrnq [] hF ih1
      ·refine zbv rfl ?_
       have hF:=zaj hF dn1
       exact ze6 v2.1 [] hF
     ·intro v1 hF
      unfold zda at hF
      cases hF
      exact Wz [] hfin
   ·refine LR0 ?_
    refine Nif hF ?_ ?_ <;> intro hb hF
    ·refine LR0 ?_
     refine LR0 ?_
     refine NmS (fun v6=>zbe m row v6=some r) (fun Z v6=>Z.up [0,2,14] [] [100000] [] [(14,.i v6)] [] [] []) ?_ ?_
     ·refine zcb ?_
      unfold zdc at hF
      refine Nits hF [] (fun Z v10=>Z.up [0,2,4,14,15] [] [100000] [] [(14,.i v10.1),(15,.i v10.2)] [] [] []) ?_
      intro n1 v10 y1 hF ih1 dn1
      unfold zbh at hF
      refine LR0 ?_
      refine Nif hF ?_ ?_ <;> intro hb hF
      ·refine zcb ?_
       refine NRL (w64 (Int.fdiv (IntKind.u64.wrap (w64 (v10.1+v10.2))) (2 ^ (min (1:Int).toNat 64)))) (fun v11:Int=>([(16,.i v11)],[],[],[])) [] [0,2,4,14,15,16] [] [100000] [] (hc (by decide:(0:Int)≤1) .nil) (fun v11 hv=>?_)
       have hF:=zev hF hv
       obtain ⟨h21,h22,h23,h24,hF⟩:=asrt4 hF
       obtain ⟨x1,h25,hF⟩:=oE hF
       refine DJ (.x zac h21 (.r zac h22 (.x zac h23 (.r zac h24 (.b (cell_Order_ok h25) .z))))) ?_
       refine Nif hF ?_ ?_ <;> intro hb hF
       ·refine LR0 ?_
        exact Nrnq [] hF ih1
       ·refine LR0 ?_
        exact Nrnq [] hF ih1
      ·refine zbv rfl ?_
       have hF:=zaj hF dn1
       exact ze6 v10.1 [] hF
     ·intro v6 hF
      unfold zbe at hF
      refine LR0 ?_
      refine NmQ (fun v7=>zdd v7=some r) (fun v7=>(.w [(100000,.q 53 5 0 0 rc rn (v7.map zac))])) ?_ ?_
      ·refine zcb ?_
       unfold zdh at hF
       refine Nits hF [] (fun Z v8=>Z.up [0,14,17] [] [100000] [] [(17,.i v8.2)] [] [(100000,.q 53 5 0 0 rc rn (v8.1.map zac))] []) ?_
       intro n1 v8 y1 hF ih1 dn1
       unfold zb9 at hF
       refine LR0 ?_
       refine Nif hF ?_ ?_ <;> intro hb hF
       ·refine zcb ?_
        obtain ⟨h13,h14,h15,h16,hF⟩:=asrt4 hF
        obtain ⟨h17,h18,h19,h20,hF⟩:=asrt4 hF
        obtain ⟨v9,hv,hF⟩:=lS hF
        refine DJ (.x zac h13 (.r zac h14 (.x zac h15 (.r zac h16 (.x zac h17 (.w zac h18 (⟨(zaf v8.1 (w64 (v8.2 - 1))).Row,(zaf v8.1 (w64 (v8.2 - 1))).Col,(zaf v8.1 (w64 (v8.2 - 1))).Time,(zaf v8.1 (w64 (v8.2 - 1))).Gone,(zaf v8.1 (w64 (v8.2 - 1))).Value⟩:Cell) (.x zac h19 (.wN zac h20 hv .z)))))))) ?_
        refine LR0 ?_
        exact Nrnq [] hF ih1
       ·refine zbv rfl ?_
        have hF:=zaj hF dn1
        exact ze6 v8.1 [] hF
      ·intro v7 hF
       unfold zdd at hF
       cases hF
       exact Wz [] hfin
    ·refine NRL (w64 (Int.fdiv (IntKind.u64.wrap (w64 (a0+b))) (2 ^ (min (1:Int).toNat 64)))) (fun v12:Int=>([(18,.i v12)],[],[],[])) [] [0,1,2,3,4,18] [] [100000] [] (hc (by decide:(0:Int)≤1) .nil) (fun v12 hv=>?_)
     have hF:=zev hF hv
     refine LR0 ?_
     refine LR0 ?_
     refine LR0 ?_
     obtain ⟨v13,hv,hF⟩:=oE hF
     refine NmT (fun Z=>Z.up [0,1,2,3,4,18,19,20,21] [] [100000] [] [(20,.i v13.1),(21,.i v13.2)] [] [] []) ?_ ?_
     ·have hF:=hv
      refine Nif hF ?_ ?_ <;> intro hb hF
      ·refine LR0 ?_
       refine LR0 ?_
       cases hF
       exact met' []
      ·refine LR0 ?_
       refine LR0 ?_
       cases hF
       exact met' []
     ·refine LR0 ?_
      refine NmS (fun v14=>za1 a0 m b row rec v12 v14=some r) (fun Z v14=>Z.up [0,1,2,3,4,18,19,20] [] [100000] [] [(20,.i v14)] [] [] []) ?_ ?_
      ·refine zcb ?_
       unfold zbg at hF
       refine Nits hF [] (fun Z v17=>Z.up [0,1,2,3,4,18,19,20,21,22] [] [100000] [] [(20,.i v17.1),(21,.i v17.2)] [] [] []) ?_
       intro n1 v17 y1 hF ih1 dn1
       unfold zbi at hF
       refine LR0 ?_
       refine Nif hF ?_ ?_ <;> intro hb hF
       ·refine zcb ?_
        refine NRL (w64 (Int.fdiv (IntKind.u64.wrap (w64 (v17.1+v17.2))) (2 ^ (min (1:Int).toNat 64)))) (fun v18:Int=>([(23,.i v18)],[],[],[])) [] [0,1,2,3,4,18,19,20,21,22,23] [] [100000] [] (hc (by decide:(0:Int)≤1) .nil) (fun v18 hv=>?_)
        have hF:=zev hF hv
        obtain ⟨h32,h33,h34,h35,hF⟩:=asrt4 hF
        obtain ⟨x5,h36,hF⟩:=oE hF
        refine DJ (.x zac h32 (.r zac h33 (.x zac h34 (.r zac h35 (.b (cell_Order_ok h36) .z))))) ?_
        refine Nif hF ?_ ?_ <;> intro hb hF
        ·refine LR0 ?_
         exact Nrnq [] hF ih1
        ·refine LR0 ?_
         exact Nrnq [] hF ih1
       ·refine zbv rfl ?_
        have hF:=zaj hF dn1
        exact ze6 v17.1 [] hF
      ·intro v14 hF
       unfold za1 at hF
       refine LR0 ?_
       refine LR0 ?_
       obtain ⟨v15,hv,hF⟩:=oE hF
       refine NmT (fun Z=>Z.up [0,1,3,4,18,20,24] [] [100000] [] [] [] [(100000,.q 53 5 0 0 rc rn (v15.map zac))] []) ?_ ?_
       ·have hF:=hv
        refine Nif hF ?_ ?_ <;> intro hb hF
        ·obtain ⟨x2,h26,hF⟩:=oE hF
         have p27:=(Pe.ren (slices_rotateCmpFunc_api_Cell_v1_ok 0 rc rn h26) ⟨[],[],[],[]⟩)
         refine RJ (.e [] [100000] p27 .z) ?_
         cases hF
         exact met' []
        ·cases hF
         exact met' []
       ·refine LR0 ?_
        obtain ⟨v16,hv,hF⟩:=oE hF
        refine NmT (fun Z=>Z.up [0,3,4,18,24] [] [100000] [] [] [] [(100000,.q 53 5 0 0 rc rn (v16.map zac))] []) ?_ ?_
        ·have hF:=hv
         refine Nif hF ?_ ?_ <;> intro hb hF
         ·obtain ⟨x3,h28,hF⟩:=oE hF
          have p29:=(Pe.ren (ih (a0,v14,v12,v15) 0 rc rn x3 h28) ⟨[],[],[],[]⟩)
          refine RJ (.e [] [100000] p29 .z) ?_
          cases hF
          exact met' []
         ·cases hF
          exact met' []
        ·refine LR0 ?_
         refine Nif hF ?_ ?_ <;> intro hb hF
         ·obtain ⟨x4,h30,hF⟩:=oE hF
          have p31:=(Pe.ren (ih (v12,w64 ((w64 (v12+m)) - v14),b,v16) 0 rc rn x4 h30) ⟨[],[],[],[]⟩)
          refine RJ (.e [] [100000] p31 .z) ?_
          cases hF
          exact Wk_end (hfin _ ⟨[100000],[],[100000],[],[],[],by kernel_rfl⟩)
         ·cases hF
          exact Wk_end (hfin _ ⟨[100000],[],[100000],[],[],[],by kernel_rfl⟩)
 obtain ⟨k,hF⟩:=recO_elim hF
 exact key k _ rk rc rn r hF

/- slices.stableCmpFunc[api.Cell] -/
def zdx (v1:List Cell):Option (List Cell):=
 some v1
def zck (num:Int) (v2 v3:List Cell×Int):Option ((List Cell×Int)⊕(List Cell)):=
 ob (
  if (decide ((w64 (v3.2+v2.2))<num))=true then
   ob (zby v3.2 (w64 (v3.2+v2.2)) num v3.1) fun x1=>
   some x1
  else
   some v3.1) fun v4=>
 some (Sum.inl (v4,w64 (v2.2*2)))
def zcj (num:Int) (v2:List Cell×Int) (v5:List Cell×Int×Int):Option ((List Cell×Int×Int)⊕((List Cell×Int)⊕(List Cell))):=
 if (decide (v5.2.2≤num))=true then
  ob (zby v5.2.1 (w64 (v5.2.1+v2.2)) v5.2.2 v5.1) fun x2=>
  some (Sum.inl (x2,v5.2.2,w64 (v5.2.2+(w64 (2*v2.2)))))
 else
  zem (zck num v2 (v5.1,v5.2.1))
def zdy (num:Int) (v2:List Cell×Int) (v0:List Cell×Int×Int):Option ((List Cell×Int)⊕(List Cell)):=
 zbc (fun y=>zcj num v2 y) v0
def zcg (num:Int) (v2:List Cell×Int):Option ((List Cell×Int)⊕(List Cell)):=
 if (decide (v2.2<num))=true then
  zdy num v2 (v2.1,0,w64 (2*v2.2))
 else
  zem (zdx v2.1)
def zaz (num:Int) (v0:List Cell×Int):Option (List Cell):=
 zbc (fun y=>zcg num y) v0
def zcl (num:Int) (v:List Cell×Int):Option (List Cell):=
 ob (za0 v.2 num v.1) fun x=>
 zaz num (x,20)
def zbs (num:Int) (v6:List Cell×Int×Int):Option ((List Cell×Int×Int)⊕(List Cell)):=
 if (decide (v6.2.2≤num))=true then
  ob (za0 v6.2.1 v6.2.2 v6.1) fun x3=>
  some (Sum.inl (x3,v6.2.2,w64 (v6.2.2+20)))
 else
  zem (zcl num (v6.1,v6.2.1))
def zbt (num:Int) (v0:List Cell×Int×Int):Option (List Cell):=
 zbc (fun y=>zbs num y) v0
def zc1 (num:Int) (row:List Cell):Option (List Cell):=
 zbt num (row,0,20)
theorem slices_stableCmpFunc_api_Cell_v1_ok (rk rc:Nat) (rn:Bool) {num row r} (hF:zc1 num row=some r):Pe Tryz.prog 171 (.w [(100000,.q 53 5 0 0 rc rn (row.map zac))]) [.row 100000 0,.i num,.fn 136 []] (.tup []) (.w [(100000,.q 53 5 0 0 rc rn (r.map zac))]):=by
 refine PT 63 [] [] Tryz.func171 ?_
 intro Q g hfin
 unfold zc1 at hF
 refine LR0 ?_
 refine LR0 ?_
 refine NmS (fun v=>zcl num v=some r) (fun Z v=>Z.up [0,1,2,6,7] [] [100000] [] [(7,.i v.2)] [] [(100000,.q 53 5 0 0 rc rn (v.1.map zac))] []) ?_ ?_
 ·refine zcb ?_
  unfold zbt at hF
  refine Nits hF [] (fun Z v6=>Z.up [0,1,2,6,7,8] [] [100000] [] [(7,.i v6.2.1),(8,.i v6.2.2)] [] [(100000,.q 53 5 0 0 rc rn (v6.1.map zac))] []) ?_
  intro n1 v6 y1 hF ih1 dn1
  unfold zbs at hF
  refine LR0 ?_
  refine Nif hF ?_ ?_ <;> intro hb hF
  ·refine zcb ?_
   obtain ⟨x3,h6,hF⟩:=oE hF
   have p7:=(Pe.ren (zd4 0 rc rn h6) ⟨[],[],[],[]⟩)
   refine RJ (.e [] [100000] p7 .z) ?_
   refine LR0 ?_
   refine LR0 ?_
   exact Nrnq [] hF ih1
  ·refine zbv rfl ?_
   have hF:=zaj hF dn1
   exact ze6 (v6.1,v6.2.1) [] hF
 ·intro v hF
  unfold zcl at hF
  obtain ⟨x,h0,hF⟩:=oE hF
  have p1:=(Pe.ren (zd4 0 rc rn h0) ⟨[],[],[],[]⟩)
  refine RJ (.e [] [100000] p1 .z) ?_
  refine NmQ (fun v1=>zdx v1=some r) (fun v1=>(.w [(100000,.q 53 5 0 0 rc rn (v1.map zac))])) ?_ ?_
  ·refine zcb ?_
   unfold zaz at hF
   refine Nits hF [] (fun Z v2=>Z.up [0,1,2,6] [] [100000] [] [(6,.i v2.2)] [] [(100000,.q 53 5 0 0 rc rn (v2.1.map zac))] []) ?_
   intro n1 v2 y1 hF ih1 dn1
   unfold zcg at hF
   refine LR0 ?_
   refine Nif hF ?_ ?_ <;> intro hb hF
   ·refine zcb ?_
    refine LR0 ?_
    refine NmS (fun v3=>zck num v2 v3=some y1) (fun Z v3=>Z.up [0,1,2,6,7] [] [100000] [] [(7,.i v3.2)] [] [(100000,.q 53 5 0 0 rc rn (v3.1.map zac))] []) ?_ ?_
    ·refine zcb ?_
     unfold zdy at hF
     refine Nits hF [] (fun Z v5=>Z.up [0,1,2,6,7,8] [] [100000] [] [(7,.i v5.2.1),(8,.i v5.2.2)] [] [(100000,.q 53 5 0 0 rc rn (v5.1.map zac))] []) ?_
     intro n2 v5 y2 hF ih2 dn2
     unfold zcj at hF
     refine LR0 ?_
     refine Nif hF ?_ ?_ <;> intro hb hF
     ·refine zcb ?_
      obtain ⟨x2,h4,hF⟩:=oE hF
      have p5:=(Pe.ren (zes 0 rc rn h4) ⟨[],[],[],[]⟩)
      refine RJ (.e [] [100000] p5 .z) ?_
      refine LR0 ?_
      refine LR0 ?_
      exact Nrnq [] hF ih2
     ·refine zbv rfl ?_
      have hF:=zaj hF dn2
      exact ze6 (v5.1,v5.2.1) [] hF
    ·intro v3 hF
     unfold zck at hF
     refine LR0 ?_
     refine LR0 ?_
     obtain ⟨v4,hv,hF⟩:=oE hF
     refine NmT (fun Z=>Z.up [0,1,2,6] [] [100000] [] [] [] [(100000,.q 53 5 0 0 rc rn (v4.map zac))] []) ?_ ?_
     ·have hF:=hv
      refine Nif hF ?_ ?_ <;> intro hb hF
      ·obtain ⟨x1,h2,hF⟩:=oE hF
       have p3:=(Pe.ren (zes 0 rc rn h2) ⟨[],[],[],[]⟩)
       refine RJ (.e [] [100000] p3 .z) ?_
       cases hF
       exact met' []
      ·cases hF
       exact met' []
     ·refine LR0 ?_
      exact Nrnq [] hF ih1
   ·refine zbv rfl ?_
    have hF:=zaj hF dn1
    exact ze6 v2.1 [] hF
  ·intro v1 hF
   unfold zdx at hF
   cases hF
   exact Wk_end (hfin _ ⟨[100000],[],[100000],[],[],[],by kernel_rfl⟩)

/- slices.SortStableFunc[[]api.Cell,api.Cell] -/
def za7 (row:List Cell):Option (List Cell):=
 ob (zc1 (row.length:Int) row) fun x=>
 some x
theorem slices_SortStableFunc_api_Cell_api_Cell_v1_ok (rk rc:Nat) (rn:Bool) {row r} (hF:za7 row=some r):Pe Tryz.prog 158 (.w [(100000,.q 53 5 0 0 rc rn (row.map zac))]) [.row 100000 0,.fn 136 []] (.tup []) (.w [(100000,.q 53 5 0 0 rc rn (r.map zac))]):=by
 refine PT 9 [] [] Tryz.func158 ?_
 intro Q g hfin
 unfold za7 at hF
 obtain ⟨x,h0,hF⟩:=oE hF
 have p1:=(Pe.ren (slices_stableCmpFunc_api_Cell_v1_ok 0 rc rn h0) ⟨[],[],[],[]⟩)
 refine RJ (.l zac row (.e [] [100000] p1 .z)) ?_
 cases hF
 exact Wk_end (hfin _ ⟨[100000],[],[100000],[],[],[],by kernel_rfl⟩)

/- cell.Merge$1 -/
def cell_Merge_1 (a0 b:Cell):Option Bool:=
 ob (cell_Order a0 b) fun x=>
 some (decide (x=0))
theorem cell_Merge_1_ok {a0 b r} (hF:cell_Merge_1 a0 b=some r):Pe Tryz.prog 160 S.none [.agg (c_Cell a0),.agg (c_Cell b)] (.bool r) S.none:=by
 refine PT 9 [.tmp 4] [4] Tryz.func160 ?_
 intro Q g hfin
 unfold cell_Merge_1 at hF
 refine LR0 ?_
 obtain ⟨x,h0,hF⟩:=oE hF
 refine RJ (.b (cell_Order_ok h0) .z) ?_
 cases hF
 exact Wz [] hfin

/- slices.CompactFunc[[]api.Cell,api.Cell] -/
def zbp (row:List Cell) (v:Unit):Option (List Cell):=
 some row
def zbn (v2:List Cell×Int):Option (Int⊕(List Cell)):=
 zaq (0≤v2.2∧v2.2≤(v2.1.length:Int)) <|
 lt ((lclear v2.1 v2.2.toNat (v2.1.length - v2.2.toNat) ((⟨([]:List UInt8),([]:List UInt8),0,false,([]:List UInt8)⟩:Cell):Cell))) fun (v3:List Cell)=>
 zaq (0≤v2.2∧v2.2≤(v3.length:Int)) <|
 zaq (v2.2.toNat≤v3.length) <|
 some (Sum.inr (v3.take v2.2.toNat))
def za4 (row:List Cell) (v1:Int) (v4:List Cell×Int×Int):Option ((List Cell×Int×Int)⊕(Int⊕(List Cell))):=
 if (decide (v4.2.2<(((row.length - v1.toNat):Nat):Int)))=true then
  zaq (0≤v4.2.2∧v4.2.2.toNat<(row.length - v1.toNat)) <|
  zaq (0≤(((v1.toNat+v4.2.2.toNat):Nat):Int)∧(((v1.toNat+v4.2.2.toNat):Nat):Int)<(v4.1.length:Int)) <|
  zaq (0≤w64 (v4.2.2 - 1)∧(w64 (v4.2.2 - 1)).toNat<(row.length - v1.toNat)) <|
  zaq (0≤(((v1.toNat+(w64 (v4.2.2 - 1)).toNat):Nat):Int)∧(((v1.toNat+(w64 (v4.2.2 - 1)).toNat):Nat):Int)<(v4.1.length:Int)) <|
  ob (cell_Merge_1 (⟨(zaf v4.1 (((v1.toNat+v4.2.2.toNat):Nat):Int)).Row,(zaf v4.1 (((v1.toNat+v4.2.2.toNat):Nat):Int)).Col,(zaf v4.1 (((v1.toNat+v4.2.2.toNat):Nat):Int)).Time,(zaf v4.1 (((v1.toNat+v4.2.2.toNat):Nat):Int)).Gone,(zaf v4.1 (((v1.toNat+v4.2.2.toNat):Nat):Int)).Value⟩:Cell) (⟨(zaf v4.1 (((v1.toNat+(w64 (v4.2.2 - 1)).toNat):Nat):Int)).Row,(zaf v4.1 (((v1.toNat+(w64 (v4.2.2 - 1)).toNat):Nat):Int)).Col,(zaf v4.1 (((v1.toNat+(w64 (v4.2.2 - 1)).toNat):Nat):Int)).Time,(zaf v4.1 (((v1.toNat+(w64 (v4.2.2 - 1)).toNat):Nat):Int)).Gone,(zaf v4.1 (((v1.toNat+(w64 (v4.2.2 - 1)).toNat):Nat):Int)).Value⟩:Cell)) fun x1=>
  ob (
   if (!x1)=true then
    zaq (0≤v4.2.2∧v4.2.2.toNat<(row.length - v1.toNat)) <|
    zaq (0≤(((v1.toNat+v4.2.2.toNat):Nat):Int)∧(((v1.toNat+v4.2.2.toNat):Nat):Int)<(v4.1.length:Int)) <|
    zaq (0≤v4.2.1∧v4.2.1<(v4.1.length:Int)) <|
    zaq (0≤v4.2.1∧v4.2.1<(v4.1.length:Int)) <|
    lt ((lset v4.1 v4.2.1 (⟨(zaf v4.1 (((v1.toNat+v4.2.2.toNat):Nat):Int)).Row,(zaf v4.1 (((v1.toNat+v4.2.2.toNat):Nat):Int)).Col,(zaf v4.1 (((v1.toNat+v4.2.2.toNat):Nat):Int)).Time,(zaf v4.1 (((v1.toNat+v4.2.2.toNat):Nat):Int)).Gone,(zaf v4.1 (((v1.toNat+v4.2.2.toNat):Nat):Int)).Value⟩:Cell))) fun v6=>
    some (v6,w64 (v4.2.1+1))
   else
    some (v4.1,v4.2.1)) fun v5=>
  some (Sum.inl (v5.1,v5.2,w64 (v4.2.2+1)))
 else
  zem (zbn (v4.1,v4.2.1))
def zbo (row:List Cell) (v1:Int) (v0:List Cell×Int×Int):Option (Int⊕(List Cell)):=
 zbc (fun y=>za4 row v1 y) v0
def za3 (row:List Cell) (v1:Int):Option (Int⊕(List Cell)):=
 if (decide (v1<(row.length:Int)))=true then
  zaq (0≤v1∧v1<(row.length:Int)) <|
  zaq (0≤v1∧v1<(row.length:Int)) <|
  zaq (0≤w64 (v1 - 1)∧w64 (v1 - 1)<(row.length:Int)) <|
  zaq (0≤w64 (v1 - 1)∧w64 (v1 - 1)<(row.length:Int)) <|
  ob (cell_Merge_1 (⟨(zaf row v1).Row,(zaf row v1).Col,(zaf row v1).Time,(zaf row v1).Gone,(zaf row v1).Value⟩:Cell) (⟨(zaf row (w64 (v1 - 1))).Row,(zaf row (w64 (v1 - 1))).Col,(zaf row (w64 (v1 - 1))).Time,(zaf row (w64 (v1 - 1))).Gone,(zaf row (w64 (v1 - 1))).Value⟩:Cell)) fun x=>
  if x=true then
   zaq (0≤v1∧v1≤(row.length:Int)) <|
   zbo row v1 (row,v1,1)
  else
   some (Sum.inl (w64 (v1+1)))
 else
  zem (zbp row ())
def zco (row:List Cell) (v0:Int):Option (List Cell):=
 zbc (fun y=>za3 row y) v0
def zba (row:List Cell):Option (List Cell):=
 if (decide ((row.length:Int)<2))=true then
  some row
 else
  zco row 1
theorem slices_CompactFunc_api_Cell_api_Cell_v1_ok (rk rc:Nat) (rn:Bool) {row r} (hF:zba row=some r):Pe Tryz.prog 159 (.w [(100000,.q 53 5 0 0 rc rn (row.map zac))]) [.row 100000 0,.fn 160 []] (.row 100000 1) ⟨[],[],[(100000,.o 53 5 1 (r.map zac))],[],[]⟩:=by
 refine PT 66 [.tmp 4] [28] Tryz.func159 ?_
 intro Q g hfin
 unfold zba at hF
 refine LR0 ?_
 refine RJ (.l zac row .z) ?_
 refine Nif hF ?_ ?_ <;> intro hb hF
 ·refine LR0 ?_
  cases hF
  exact Wz [(100000,⟨1,false,false,false⟩)] hfin
 ·refine LR0 ?_
  refine NmS (fun v=>zbp row v=some r) (fun Z v=>Z.up [0] [] [100000] [] [] [] [] []) ?_ ?_
  ·refine zcb ?_
   unfold zco at hF
   refine Nits hF [] (fun Z v1=>Z.up [0,1,5] [] [100000] [] [(5,.i v1)] [] [] []) ?_
   intro n1 v1 y1 hF ih1 dn1
   unfold za3 at hF
   refine RJ (.l zac row .z) ?_
   refine Nif hF ?_ ?_ <;> intro hb hF
   ·refine zcb ?_
    obtain ⟨h0,h1,h2,h3,hF⟩:=asrt4 hF
    obtain ⟨x,h4,hF⟩:=oE hF
    refine DJ (.x zac h0 (.r zac h1 (.x zac h2 (.r zac h3 (.b (cell_Merge_1_ok h4) .z))))) ?_
    refine Nif hF ?_ ?_ <;> intro hb hF
    ·obtain ⟨h5,hF⟩:=aE hF
     refine RJ (.a (.vw (row.length - v1.toNat)) (.g (vw10_ok zac h5) .z)) ?_
     refine LR0 ?_
     refine NmQ (fun v2=>zbn v2=some y1) (fun v2=>⟨[(0,.row 100000 0),(5,.i v2.2)],[],[(100000,.q 53 5 0 0 rc rn (v2.1.map zac))],[],[]⟩) ?_ ?_
     ·refine zcb ?_
      unfold zbo at hF
      refine Nits hF [] (fun Z v4=>Z.up [0,1,5,6,7] [] [100000] [] [(5,.i v4.2.1),(7,.i v4.2.2)] [] [(100000,.q 53 5 0 0 rc rn (v4.1.map zac))] []) ?_
      intro n2 v4 y2 hF ih2 dn2
      unfold za4 at hF
      refine LR0 ?_
      refine Nif hF ?_ ?_ <;> intro hb hF
      ·refine zcb ?_
       obtain ⟨h9,h10,h11,h12,hF⟩:=asrt4 hF
       obtain ⟨x1,h13,hF⟩:=oE hF
       refine DJ (.g h9 (.r zac h10 (.g h11 (.r zac h12 (.b (cell_Merge_1_ok h13) .z))))) ?_
       obtain ⟨v5,hv,hF⟩:=oE hF
       refine NmT (fun Z=>Z.up [0,1,5,6,7] [] [100000] [] [(5,.i v5.2)] [] [(100000,.q 53 5 0 0 rc rn (v5.1.map zac))] []) ?_ ?_
       ·have hF:=hv
        refine Nif hF ?_ ?_ <;> intro hb hF
        ·obtain ⟨h14,hF⟩:=aE hF
         obtain ⟨h15,h16,hF⟩:=asrt2 hF
         obtain ⟨h17,hF⟩:=aE hF
         obtain ⟨v6,hv,hF⟩:=lS hF
         refine RJ (.g h14 (.r zac h15 (.x zac h16 (.wN zac h17 hv .z)))) ?_
         refine LR0 ?_
         cases hF
         exact met' []
        ·cases hF
         exact met' []
       ·refine LR0 ?_
        exact Nrnq [] hF ih2
      ·refine zbv rfl ?_
       have hF:=zaj hF dn2
       exact ze6 (v4.1,v4.2.1) [] hF
     ·intro v2 hF
      unfold zbn at hF
      obtain ⟨h6,hF⟩:=aE hF
      refine NRL ((lclear v2.1 v2.2.toNat (v2.1.length - v2.2.toNat) ((⟨([]:List UInt8),([]:List UInt8),0,false,([]:List UInt8)⟩:Cell):Cell))) (fun v3:List Cell=>([],[],[(100000,.q 53 5 0 0 rc rn (v3.map zac))],[])) [.vw (v2.1.length - v2.2.toNat),.xs ((lclear v2.1 v2.2.toNat (v2.1.length - v2.2.toNat) ((⟨([]:List UInt8),([]:List UInt8),0,false,([]:List UInt8)⟩:Cell):Cell)).map zac)] [0,5] [] [100000] [] (hc (vw10_ok zac h6) (hc (clr_ok zac v2.1 v2.2.toNat (v2.1.length - v2.2.toNat) ((⟨([]:List UInt8),([]:List UInt8),0,false,([]:List UInt8)⟩:Cell):Cell)) (hc (Nat.zero_le v2.2.toNat) .nil))) (fun v3 hv=>?_)
      have hF:=zev hF hv
      obtain ⟨h7,hF⟩:=aE hF
      refine VR [.vw v2.2.toNat] [4] [] [100000] [] [(4,.rowv 100000 0 0 v2.2.toNat)] [] [(100000,.q 53 5 0 0 rc rn (v3.map zac))] [] (hc (vw01_ok (cm:=rc) zac h7) .nil) ?_
      obtain ⟨h8,hF⟩:=aE hF
      refine Wk_truncL 4 100000 0 v2.2.toNat ((v3.take v2.2.toNat).map zac) rfl rfl rfl rfl (tk_ok zac h8).1 (Nat.zero_le _) (List.map_take).symm ?_
      have hF:=zc0 hF dn1
      cases hF
      exact Wz [(100000,⟨1,false,true,false⟩)] hfin
    ·refine LR0 ?_
     exact Nrnq [] hF ih1
   ·refine zbv rfl ?_
    have hF:=zaj hF dn1
    exact ze6 () [] hF
  ·intro v hF
   unfold zbp at hF
   refine LR0 ?_
   cases hF
   exact Wz [(100000,⟨1,false,false,false⟩)] hfin

/- cell.Merge -/
def cell_Merge (lists:List (List Cell)):Option (List Cell):=
 ob (zc6 lists) fun x=>
 ob (za7 x) fun x1=>
 ob (zba x1) fun x2=>
 some x2
theorem cell_Merge_ok {lists r} (hF:cell_Merge lists=some r):Pe Tryz.prog 131 (.w []) [.sl 1 (lists.map zas)] (.row 5 1) ⟨[],[],[(5,.o 53 5 1 (r.map zac))],[],[]⟩:=by
 refine PT 10 [.tmp 2] [28] Tryz.func131 ?_
 intro Q g hfin
 unfold cell_Merge at hF
 refine LR0 ?_
 obtain ⟨x,h0,hF⟩:=oE hF
 have p1:=(Pe.ren (slices_Concat_api_Cell_api_Cell_ok h0) ⟨[],[(24,5)],[],[]⟩)
 refine RJ (.e [] [] p1 .z) ?_
 obtain ⟨x1,h2,hF⟩:=oE hF
 have p3:=(Pe.ren (slices_SortStableFunc_api_Cell_api_Cell_v1_ok 0 0 false h2) ⟨[],[(100000,5)],[],[]⟩)
 refine RJ (.e [] [5] p3 .z) ?_
 obtain ⟨x2,h4,hF⟩:=oE hF
 have p5:=(Pe.ren (slices_CompactFunc_api_Cell_api_Cell_v1_ok 0 0 false h4) ⟨[],[(100000,5)],[],[]⟩)
 refine RJ (.e [] [5] p5 .z) ?_
 cases hF
 exact Wz [] hfin

/- wal.Put -/
section
open Go.RowKit Go.Shelf Go.Proofs
attribute [local go_sem] Oper.semAt_some
set_option maxRecDepth 100000 in
set_option maxHeartbeats 4000000 in
theorem wal_Put_back1_in (F:Fence) (n:Nat) (h8:F.fn 166) (hro:F.round=none) (hn:1≤n) (l Bs n₀ b off len cap:Nat) (zs:Nat→Int×Option Addr×Nat×Nat) (hlen:len≤140737488351232) (hb:b<n₀) (J Jx:List (Nat×Int×Option Addr×Nat×Nat)→World→Prop)
    (hY:∀ pre x W,J pre W→pre.length<len→YieldAt F (n - 1) Tryz.prog l #[.int .i64 (x.1:Int),.agg #[.int .i64 x.2.1,.slice x.2.2.1 x.2.2.2.1 x.2.2.2.2]] W fun e W'=>
      (e = .returned (.bool true)∧J (pre++[x]) W'∧KpB n₀ Bs W W')∨(e = .returned (.bool false)∧Jx (pre++[x]) W'))
    (W:World) (hBs:W.cell? ⟨Bs,0,none⟩=some (.slice (some ⟨b,off,none⟩) len cap))
    (hc0:∀ j,j<len→W.cell? ⟨b,off+j*2,none⟩=some (.int .i64 (zs j).1)) (hc1:∀ j,j<len→W.cell? ⟨b,off+j*2+1,none⟩=some (.slice (zs j).2.1 (zs j).2.2.1 (zs j).2.2.2)) (h0:J [] W) :
    CallsIn F n Tryz.prog 166 #[.func (.yield l) #[] #[],.pointer (some ⟨Bs,0,none⟩)] W fun e W'=>(∃ v,e = .returned v)∧
      ((∃ ys,ys=backTo zs len len∧J ys W')∨(∃ pre,(∃ k,k≤len∧pre=backTo zs len k)∧Jx pre W')):=by
  refine callsIn_of_wp Tryz.func166 rfl h8 ?_ hro
  simp only [Tryz.ntmps166,List.size_toArray,List.length_cons,List.length_nil,Nat.reduceAdd,Nat.reduceSub,Array.replicate_succ,Array.replicate_zero,List.push_toArray,List.append_toArray,List.nil_append,List.cons_append]
  have hw0:IntKind.i64.wrap ((len:Int) - 1)=(len:Int) - 1:=by rw [IntKind.wrap_i64]; omega
  gi_wp2
  gi_loopw [3] (fun i wr=>∃ m:Nat,m≤len∧i = .int .i64 ((m:Int) - 1)∧J (backTo zs len (len - m)) wr∧KpB n₀ Bs W wr)
    (fun i _=>(intOf i+1).toNat)
  case atStart=>exact ⟨len,Nat.le_refl _,rfl,by rw [Nat.sub_self]; exact h0,KpB.refl _ _ _⟩
  case round=>
    obtain ⟨m,hm,rfl,hJs,hnx⟩:=hrel
    cases m with
    | zero=>
      gi_wp2
      go_end0
      exact ⟨⟨_,rfl⟩,.inl ⟨_,rfl,hJs⟩⟩
    | succ j=>
      have hj1:((j+1:Nat):Int) - 1=(j:Int):=by omega
      have hj0:(0:Int)≤(j:Int):=by omega
      have hjl:j<len:=by omega
      have hjz:¬ ((j:Int)<0):=by omega
      have hw1:IntKind.i64.wrap ((j:Int) - 1)=(j:Int) - 1:=by rw [IntKind.wrap_i64]; omega
      have hk:len - 1 - (len - (j+1))=j:=by omega
      have hcx0:wr.cell? ⟨b,off+j*2,none⟩=some (.int .i64 (zs j).1):=(hnx.1.cell (p:=⟨b,off+j*2,none⟩) hb).trans (hc0 j hjl)
      have hcx1:wr.cell? ⟨b,off+j*2+1,none⟩=some (.slice (zs j).2.1 (zs j).2.2.1 (zs j).2.2.2):=(hnx.1.cell (p:=⟨b,off+j*2+1,none⟩) hb).trans (hc1 j hjl)
      have hBx:wr.cell? ⟨Bs,0,none⟩=some (.slice (some ⟨b,off,none⟩) len cap):=hnx.cell hBs
      obtain ⟨fn,tmps,assign,body,hy,hR⟩:=hY _ (j,zs j) wr hJs (by rw [backTo_length]; omega)
      dsimp only at hy
      rw [hj1]
      gi_wp2
      refine hR.mono ?_
      rintro e W3 (⟨rfl,hJ3,hk3⟩ | ⟨rfl,hJx3⟩)
      · gi_wp2
        go_roundw
        case rel=>
          refine ⟨j,by omega,rfl,?_,hnx.trans hk3⟩
          have:len - j=(len - (j+1))+1:=by omega
          rw [this,backTo_succ,hk]; exact hJ3
        case measure=>simp [intOf]
      · gi_wp2
        refine bodyPost_ret (results_none rfl _ _ _) rfl ?_
        refine ⟨⟨_,rfl⟩,.inr ⟨_,⟨len - (j+1)+1,by omega,rfl⟩,?_⟩⟩
        rw [backTo_succ,hk]; exact hJx3
set_option maxRecDepth 100000 in
set_option maxHeartbeats 1000000 in
/-- .. at the empty slice: no round -/
theorem wal_Put_back1_nil_in (F:Fence) (n:Nat) (h8:F.fn 166) (hro:F.round=none) (l Bs:Nat) (a:Option Addr) (cap:Nat) (J:List (Nat×Int×Option Addr×Nat×Nat)→World→Prop) (W:World) (hBs:W.cell? ⟨Bs,0,none⟩=some (.slice a 0 cap)) (h0:J [] W) :
    CallsIn F n Tryz.prog 166 #[.func (.yield l) #[] #[],.pointer (some ⟨Bs,0,none⟩)] W fun e W'=>(∃ v,e = .returned v)∧J [] W':=by
  refine callsIn_of_wp Tryz.func166 rfl h8 ?_ hro
  simp only [Tryz.ntmps166,List.size_toArray,List.length_cons,List.length_nil,Nat.reduceAdd,Nat.reduceSub,Array.replicate_succ,Array.replicate_zero,List.push_toArray,List.append_toArray,List.nil_append,List.cons_append]
  gi_wp2
  gi_loopw [3] (fun i wr=>i = .int .i64 (-1)∧J [] wr) (fun _ _=>0)
  case atStart=>exact ⟨rfl,h0⟩
  case round=>
    obtain ⟨rfl,hJs⟩:=hrel
    gi_wp2
    go_end0
    exact ⟨⟨_,rfl⟩,hJs⟩
set_option maxHeartbeats 1000000 in
theorem wal_Put_back_in (F:Fence) (n:Nat) (h5:F.fn 145) (hro:F.round=none) (a:Option Addr) (len cap:Nat) (w:World) :
    CallsIn F n Tryz.prog 145 #[.slice a len cap] w fun e w'=>e = .returned (.func (.func 166) #[] #[.pointer (some ⟨w.heap.size,0,none⟩)])∧w'=w.alloc (.cells #[.slice a len cap] 41):=by
  refine callsIn_of_wp Tryz.func145 rfl h5 ?_ hro
  simp only [Tryz.ntmps145,List.size_toArray,List.length_cons,List.length_nil,Nat.reduceAdd,Nat.reduceSub,Array.replicate_succ,Array.replicate_zero,List.push_toArray,List.append_toArray,List.nil_append,List.cons_append]
  gi_wp2
  go_ret
  exact ⟨rfl,rfl⟩
theorem wal_Put_back_stops (F:Fence) (n:Nat) (h8:F.fn 166) (hro:F.round=none) (hn:1≤n) (Bs n₀:Nat) (sv:Value) (len:Nat) (zs:Nat→Int×Option Addr×Nat×Nat) (hlen:len≤140737488351232) (w:World) (hBs:Bs<w.heap.size) (hn₀:n₀≤w.heap.size)
    (hc:w.cell? ⟨Bs,0,none⟩=some sv) (hI:Notes2 n₀ w sv len zs) :
    SeqStopsK F n Tryz.prog 166 #[.pointer (some ⟨Bs,0,none⟩)] (fun x:Nat×Int×Option Addr×Nat×Nat=>#[Value.int .i64 (x.1:Int),.agg #[.int .i64 x.2.1,.slice x.2.2.1 x.2.2.2.1 x.2.2.2.2]]) (KpB n₀ Bs) (fun ys=>ys=backTo zs len len)
      (fun pre=>∃ k,k≤len∧pre=backTo zs len k) len w:=fun l J Jx W hW _ _ hY h0=>by
  have hc':=(hW.cell (p:=⟨Bs,0,none⟩) hBs).trans hc
  rcases hI.below (hW.mono hn₀) with ⟨a,cap,rfl,rfl⟩ | ⟨b,off,cap,rfl,hb,hcs,hds⟩
  · exact (wal_Put_back1_nil_in F n h8 hro l Bs a cap J W hc' h0).mono fun e W' ⟨he,hj⟩=>⟨he,.inl ⟨_,rfl,hj⟩⟩
  · exact wal_Put_back1_in F n h8 hro hn l Bs n₀ b off len cap zs hlen hb J Jx hY W hc' hcs hds h0
theorem wal_Put_infoTC:(Tryz.prog.info? 28).map (fun i=>(i.zero,i.size,i.bytes))=some (some (.slice none 0 0),1,24):=by kernel_rfl
set_option maxRecDepth 100000 in
set_option maxHeartbeats 4000000 in
theorem wal_Put_put_in (F:Fence) (n:Nat) (hp:F.fn 116) (hb:F.fn 145) (hcl:F.fn 166) (hme:F.fn 131) (hro:F.round=none) (hn:3≤n) (a0:Option Addr) (n0 c0:Nat) (a:Option Addr) (len cap:Nat) (zs:Nat→Int×Option Addr×Nat×Nat) (hlen:(len+1)*24≤140737488351232) (w:World)
    (hI:Notes2 w.heap.size w (.slice a len cap) len zs) (R:Ending→World→Prop)
    (hM:∀ (W:World) (v:Value) (D:Nat),w.heap.size≤D→W.heap[D]?=some (.deferred (some []))→Below w.heap.size w W→W.ownsRow w.heap.size 28 1 v (len+1) ((backTo zs len len).map (fun x=>Value.slice x.2.2.1 x.2.2.2.1 x.2.2.2.2)++[.slice a0 n0 c0])→
      CallsIn F (n - 1) Tryz.prog 131 #[v] W fun e W'=>∃ r,e = .returned r∧W'.heap[D]?=some (.deferred (some []))∧R (.returned r) (W'.putObj D (.deferred none))) :
    CallsIn F n Tryz.prog 116 #[.slice a0 n0 c0,.slice a len cap] w R:=by
  have h1:1≤n:=by omega
  obtain ⟨i0,hi,hz0,hzs,hzb⟩:=info_parts wal_Put_infoTC
  have hw1:IntKind.i64.wrap ((len:Int)+1)=((len+1:Nat):Int):=by rw [IntKind.wrap_i64]; omega
  refine callsIn_of_wp_marks Tryz.func116 rfl hp ?_ hro
  simp only [Tryz.ntmps116,List.size_toArray,List.length_cons,List.length_nil,Nat.reduceAdd,Nat.reduceSub,Array.replicate_succ,Array.replicate_zero,List.push_toArray,List.append_toArray,List.nil_append,List.cons_append]
  gi_wp2_with (first
    | (gi_at_make; refine wpListIn_make_own _ rfl _ _ 42 rfl w.heap.size 28 i0 (.slice none 0 0) 1 Tryz.underlying42 hi hz0 hzs .i64 .i64 _ (len+1) rfl rfl (by simp) (by rw [hzb]; omega) (by show len+1≤9223372036854775807; omega) (Nat.le_refl _) ?_; intro w1 hown1 hgr1)
    | (gi_at_call 145; refine (wal_Put_back_in F (n - 1) hb hro _ _ _ _).mono ?_; rintro e w' ⟨rfl,rfl⟩))
  have hlt1:w.heap.size<w1.heap.size:=by
    rcases hown1.2 with ⟨h,_⟩ | ⟨g,cap',cur,e,_,hg,_⟩
    · cases h
    · simp only [Value.slice.injEq,Option.some.injEq,Addr.mk.injEq] at e
      obtain ⟨⟨rfl,_⟩,_⟩:=e
      exact (Array.getElem?_eq_some_iff.1 hg).1
  have bO:=(Boxed.new w1 42 (.slice (some ⟨w.heap.size,0,none⟩) 0 (len+1))).alloc (.cells #[.slice a len cap] 41)
  have bN:=Boxed.new (w1.alloc (.cells #[.slice (some ⟨w.heap.size,0,none⟩) 0 (len+1)] 42)) 41 (.slice a len cap)
  rw [World.size_alloc] at bN
  have hB1:Below w.heap.size w w1:=(Below.refl _ w).grown hgr1 (Nat.le_refl _) (fun k e=>by cases e)
  have hB0:Below w.heap.size w ((w1.alloc (.cells #[.slice (some ⟨w.heap.size,0,none⟩) 0 (len+1)] 42)).alloc (.cells #[.slice a len cap] 41)):=(hB1.alloc (by omega) _).alloc (by simp; omega) _
  have hR0:=(hown1.alloc (.cells #[.slice (some ⟨w.heap.size,0,none⟩) 0 (len+1)] 42)).alloc (.cells #[.slice a len cap] 41)
  have hsz:((w1.alloc (.cells #[.slice (some ⟨w.heap.size,0,none⟩) 0 (len+1)] 42)).alloc (.cells #[.slice a len cap] 41)).heap.size=w1.heap.size+2:=by simp
  obtain ⟨W0,hW0⟩:∃ W0,((w1.alloc (.cells #[.slice (some ⟨w.heap.size,0,none⟩) 0 (len+1)] 42)).alloc (.cells #[.slice a len cap] 41))=W0:=⟨_,rfl⟩
  rw [hW0] at bO bN hB0 hR0 hsz ⊢
  obtain ⟨B5,hB5⟩:∃ B5,w1.heap.size=B5:=⟨_,rfl⟩
  rw [hB5] at bO bN hsz hlt1 ⊢
  clear hW0 hB5 hown1 hgr1 hB1
  refine wpIn_rangeFunc_ownH hro h1 (gf:=166) (lb:=#[.pointer (some ⟨B5+1,0,none⟩)]) rfl hcl (enters_of Tryz.func166 (by kernel_rfl) rfl)
    (wal_Put_back_stops F (n - 1) hcl hro (by omega) (B5+1) w.heap.size _ len zs (by omega) W0 (by omega) (by omega) bN.cell (hI.below hB0))
    (fun h k=>h.trans k) (fun W l o o' hl h h2 h3=>⟨belowK_b (w:=W0) (by omega) W l o o' hl h h2 h3,by
      simp only [World.putObj]
      rw [Array.getElem?_setIfInBounds,if_neg (by omega)]⟩) (Below.refl _ _) (fun _=>rfl)
    (fun pre W=>((∃ v,Boxed W B5 42 v∧W.ownsRow w.heap.size 28 1 v pre.length (pre.map fun x=>Value.slice x.2.2.1 x.2.2.2.1 x.2.2.2.2)∧True)∧Boxed W (B5+1) 41 (.slice a len cap))∧Below w.heap.size w W)
    (fun _ _ _=>False)
    (OwnFrom.and (OwnFrom.and (Own.from (holdsRow_own w.heap.size B5 42 28 1 (fun pre:List (Nat×Int×Option Addr×Nat×Nat)=>pre.length) (fun pre=>pre.map fun x=>Value.slice x.2.2.1 x.2.2.2.1 x.2.2.2.2) (fun pre v=>True)) _) (Own.from (boxed_own _ _ _) _)) (ownFrom_below (Nat.le_refl _) (by omega)))
    (fun _ _ _ _ _ hs _ _=>hs)
    ⟨⟨⟨_,bO,hR0,trivial⟩,bN⟩,hB0⟩
    (fun x a' W=>∃ Bx,B5+1<Bx∧W.heap[Bx]?=some (.cells #[.int .i64 x.2.1,.slice x.2.2.1 x.2.2.2.1 x.2.2.2.2] 50 (0,0))∧a'={ tmps:=#[Value.slice a0 n0 c0,Value.slice a len cap,undef,undef,Value.slice none 0 0,Value.pointer (some { block:=B5,off:=0 }),undef,.pointer (some ⟨Bx,0,none⟩),Value.slice a len cap,Value.int IntKind.i64 ↑len,Value.int IntKind.i64 (↑len+1),Value.slice (some { block:=w.heap.size,off:=0 }) 0 (len+1),Value.slice a len cap,Value.func (Fn.func 166) #[] #[Value.pointer (some { block:=B5+1,off:=0 })],.int .i64 (x.1:Int),.agg #[.int .i64 x.2.1,.slice x.2.2.1 x.2.2.2.1 x.2.2.2.2],undef,undef,undef,undef,undef,undef,undef,undef,undef,undef],defers:=[] })
    (fun x a' _ X Y row hs hg hr=>by
      obtain ⟨Bx,h1,h2,h3⟩:=hs
      refine ⟨Bx,h1,(hg.block Bx (Array.getElem?_eq_some_iff.1 h2).1 fun e=>?_).trans h2,h3⟩
      obtain ⟨_,o,ho,hc⟩:=hr Bx e.symm
      rw [h2] at ho; cases ho; cases hc)
    ?assign ?body ?done ?stop
  case assign=>
    rintro l pre x W K ⟨⟨⟨v,bv,hv,_⟩,bn⟩,hB⟩ hK
    gi_wp2
    exact hK _ _ ((KeepsOthers.alloc _ _).from _) ⟨(Below.refl _ W).alloc hB.size _,(bn.alloc _).trans bn.symm⟩ ⟨⟨⟨v,bv.alloc _,hv.alloc _,trivial⟩,bn.alloc _⟩,hB.alloc hB.size _⟩ ⟨W.heap.size,bn.lt,World.alloc_heap_new W _,rfl⟩
  case body=>
    rintro l pre x a' W hl ⟨r,hr⟩ ⟨⟨⟨v,bv,hv,_⟩,bn⟩,hB⟩ ⟨Bx,hBx,bX,rfl⟩ hlt
    obtain ⟨cx0,cx1,_,_⟩:=boxed2 bX
    have hc:=bv.cell
    have hmx:maxLen=9223372036854775807:=rfl
    gi_wp2_with (gi_at_builtin; refine wpListIn_append_own _ rfl _ _ 42 rfl w.heap.size 28 i0 (.slice none 0 0) 1 24 Tryz.underlying42 hi hz0 hzs hzb rfl (by decide) _ _ _ rfl (hv.alloc _) ⟨W.heap.size,0,none⟩ 1 1 [.slice x.2.2.1 x.2.2.2.1 x.2.2.2.2] rfl rfl (cell_one_new _ _ _) (by simp [Value.oneCell']) (by omega) (by omega) (by have:=hB.size; simp; omega) ?_; intro v' w2 hown' hgrow _; have hne:=(bn.alloc (.cells #[.slice x.2.2.1 x.2.2.2.1 x.2.2.2.2] 28)).kept hgrow ((bn.alloc _).not_row (by decide) (hv.alloc (.cells #[.slice x.2.2.1 x.2.2.2.1 x.2.2.2.2] 28))); obtain ⟨g',cap',rfl⟩:=ownsRow_succ hown'; obtain ⟨hv1,hv2,hr2,hk2,hb2⟩:=bv.appended (by decide) hv hB.size (by omega) hown' hgrow; have hc1:=hv1.cell; have hf1:=hv1.frozen)
    have hn2:=hne.other (B':=B5) (by omega) (.slice (some ⟨g',0,none⟩) (pre.length+1) cap')
    exact ⟨hk2.from _,⟨hb2,hn2.trans bn.symm⟩,⟨⟨_,hv2,by simpa using hr2,trivial⟩,hn2⟩,hB.trans hb2⟩
  case done=>
    rintro D ys W hD rfl ⟨⟨⟨v,bv,hv,_⟩,bn⟩,hB⟩ hK
    rw [backTo_length] at hv
    have hc:=bv.cell
    have hmx:maxLen=9223372036854775807:=rfl
    gi_wp2_with ((gi_at_builtin; refine wpListIn_append_own _ rfl _ _ 42 rfl w.heap.size 28 i0 (.slice none 0 0) 1 24 Tryz.underlying42 hi hz0 hzs hzb rfl (by decide) _ _ _ rfl (hv.alloc _) ⟨W.heap.size,0,none⟩ 1 1 [.slice a0 n0 c0] rfl rfl (cell_one_new _ _ _) (by simp [Value.oneCell']) (by omega) (by omega) (by have:=hB.size; simp; omega) ?_; intro v' w2 hown' hgrow _))
    have hg2:=hB.size
    have hDl:D<W.heap.size:=(Array.getElem?_eq_some_iff.1 hK).1
    have hrowD:some D≠v.ownBlock:=by
      rcases hv.2 with ⟨rfl,_⟩ | ⟨g,cap,cur,rfl,_,hgb,_⟩
      · simp [Value.ownBlock]
      · intro e'
        obtain rfl:D=g:=by simpa [Value.ownBlock] using e'
        rw [hgb] at hK; cases hK
    have hvb:∀ j,v.ownBlock=some j→w.heap.size≤j:=by
      intro j ej
      rcases hv.2 with ⟨rfl,_⟩ | ⟨g,cap,cur,rfl,hgl,hgb,_⟩
      · simp [Value.ownBlock] at ej
      · obtain rfl:g=j:=by simpa [Value.ownBlock] using ej
        exact hgl
    refine (hM w2 v' D (by omega) ?_ ?_ hown').mono ?_
    · refine (hgrow.block D (by simp; omega) hrowD).trans ?_
      exact (Below.heap_alloc W _ D hDl).trans hK
    · exact (hB.alloc hg2 _).grown hgrow (by simp; omega) hvb
    · rintro e W' ⟨r,rfl,hK',hR⟩
      gi_wp2
      refine ⟨by simp,.inl ⟨_,_,rfl,run_takeDeferred hK',?_⟩⟩
      have hres:∀ tm:Array Value,tm.getD 4 undef=r→R (.returned (tm.getD 4 undef)) (W'.putObj D (.deferred none)):=fun tm e=>by rw [e]; exact hR
      refine ⟨_,results_tmp rfl _ _ _,?_⟩
      exact hres _ rfl
  case stop=>
    rintro D c pre W _ _ h _
    exact h.elim
theorem wal_Put_w:PutW Tryz.prog 116 131 28:=fun a0 n0 c0 a len cap zs w R hlen hI hM=>callsIn_wide.1 (wal_Put_put_in Fence.wide 3 trivial trivial trivial trivial rfl (by omega) a0 n0 c0 a len cap zs hlen w hI R fun W v D h1 h2 h3 h4=>callsIn_wide.2 (hM W v D h1 h2 h3 h4))
end
def wal_Put (l:List Cell) (notes:List Note):Option (List Cell):=
  zaq (((notes.length:Int)+1)*24≤140737488351232) <|
  cell_Merge (notes.reverse.map (fun x=>x.Cells)++[l])
theorem wal_Put_ok (l:List Cell) (notes:List Note) (r:List Cell) (hF:wal_Put l notes=some r):Pe Tryz.prog 116 ⟨[],[],[],[],[]⟩ [.sl 5 (l.map zac),.sl 2 (notes.map zak)] (.row 5 1) ⟨[],[],[(5,⟨53,5,1,0,0,false,0,[],(r.map zac)⟩)],[],[]⟩:=by
  unfold wal_Put at hF
  obtain ⟨h0,hF⟩:=asrt_elim hF
  have h:=cell_Merge_ok hF
  have e:(notes.reverse.map (fun x=>x.Cells)++[l]).map zas=((notes.map (fun x:Note=>((x.Seq:Int),x.Cells.map zac)):List (Int×List AV)).reverse.map fun x=>AV.sl 5 x.2)++[.sl 5 (l.map zac)]:=by
    rw [List.map_append,List.map_map,← List.map_reverse,List.map_map]; rfl
  rw [e] at h
  have:=Pe_put (nts:=(notes.map (fun x:Note=>((x.Seq:Int),x.Cells.map zac)):List (Int×List AV))) (xs:=l.map zac) (csz:=5) ⟨_,Tryz.func116,rfl,rfl⟩ wal_Put_w (by rw [List.length_map]; omega) h
  rw [List.map_map] at this
  exact this

/- (*tablet.tab).lists -/
def tablet_tab_lists (box:List UInt8) (box1:Int) (box2:List (List UInt8)) (box3 box4 box5:Int) (row:List Note) (row1:List Cell) (row2:List (List Cell)):Option (List (List Cell)×List Cell):=
 zaq (((([row1]:List (List Cell))++row2).length:Int)*24≤140737488351232) <|
 some ((([row1]:List (List Cell))++row2),row1)
theorem tablet_tab_lists_ok (rk rc:Nat) (rn:Bool) (rk1 rc1:Nat) (rn1:Bool) (rk2 rc2:Nat) (rn2:Bool) {box box1 box2 box3 box4 box5 row row1 row2 r} (hF:tablet_tab_lists box box1 box2 box3 box4 box5 row row1 row2=some r):Pe Tryz.prog 132 ⟨[],[(100000,[.sl 1 (box.map zan),.i box1,.sl 1 (box2.map zag),.i box3,.i box4,.row 100000 0,.i box5,.row 100001 0,.row 100002 0])],[(100000,.q 50 2 0 rk rc rn (row.map zak)),(100001,.q 53 5 0 rk1 rc1 rn1 (row1.map zac)),(100002,.q 28 1 0 rk2 rc2 rn2 (row2.map zas))],[],[]⟩ [.ptr 100000 0] (.row 7 1) ⟨[],[(100000,[.sl 1 (box.map zan),.i box1,.sl 1 (box2.map zag),.i box3,.i box4,.row 100000 0,.i box5,.row 100001 0,.row 100002 0])],[(100000,.q 50 2 0 rk rc rn (row.map zak)),(100001,⟨53,5,0,(r.2.map zac).length,rc1,rn1,0,[],(r.2.map zac)⟩),(100002,.q 28 1 0 rk2 rc2 rn2 (row2.map zas)),(7,.z 28 1 1 (r.1.map zas))],[],[]⟩:=by
 refine PT 13 [.tmp 2] [42] Tryz.func132 ?_
 intro Q g hfin
 unfold tablet_tab_lists at hF
 refine LR0 ?_
 obtain ⟨h0,hF⟩:=aE hF
 refine DJ (.p zas h0 .z) ?_
 cases hF
 exact Wz [] hfin

/- (*tablet.tab).all -/
def tablet_tab_all (box:List UInt8) (box1:Int) (box2:List (List UInt8)) (box3 box4 box5:Int) (row:List Note) (row1:List Cell) (row2:List (List Cell)):Option (List Cell×List Cell):=
 ob (tablet_tab_lists box box1 box2 box3 box4 box5 row row1 row2) fun x=>
 ob (cell_Merge x.1) fun x1=>
 some (x1,x.2)
theorem tablet_tab_all_ok (rk rc:Nat) (rn:Bool) (rk1 rc1:Nat) (rn1:Bool) (rk2 rc2:Nat) (rn2:Bool) {box box1 box2 box3 box4 box5 row row1 row2 r} (hF:tablet_tab_all box box1 box2 box3 box4 box5 row row1 row2=some r):Pe Tryz.prog 92 ⟨[],[(100000,[.sl 1 (box.map zan),.i box1,.sl 1 (box2.map zag),.i box3,.i box4,.row 100000 0,.i box5,.row 100001 0,.row 100002 0])],[(100000,.q 50 2 0 rk rc rn (row.map zak)),(100001,.q 53 5 0 rk1 rc1 rn1 (row1.map zac)),(100002,.q 28 1 0 rk2 rc2 rn2 (row2.map zas))],[],[]⟩ [.ptr 100000 0] (.row 5 1) ⟨[],[(100000,[.sl 1 (box.map zan),.i box1,.sl 1 (box2.map zag),.i box3,.i box4,.row 100000 0,.i box5,.row 100001 0,.row 100002 0])],[(100000,.q 50 2 0 rk rc rn (row.map zak)),(100001,⟨53,5,0,(r.2.map zac).length,rc1,rn1,0,[],(r.2.map zac)⟩),(100002,.q 28 1 0 rk2 rc2 rn2 (row2.map zas)),(5,.o 53 5 1 (r.1.map zac))],[],[]⟩:=by
 refine PT 6 [.tmp 2] [28] Tryz.func92 ?_
 intro Q g hfin
 unfold tablet_tab_all at hF
 refine LR0 ?_
 obtain ⟨x,h0,hF⟩:=oE hF
 have p1:=(Pe.ren (tablet_tab_lists_ok rk rc rn rk1 rc1 rn1 rk2 rc2 rn2 h0) ⟨[],[(7,4)],[],[]⟩)
 obtain ⟨x1,h2,hF⟩:=oE hF
 have p3:=(Pe.ren (cell_Merge_ok h2) ⟨[],[],[],[]⟩)
 refine RJ (.e [100000] [100000,100001,100002] p1 (.e [] [] p3 .z)) ?_
 cases hF
 exact Wz [] hfin

/- (*tablet.tab).fill -/
def tablet_tab_fill (box:List UInt8) (box1:Int) (box2:List (List UInt8)) (box3 box4 box5:Int) (row:List Note) (row1:List (List Cell)):Option (Fault×List UInt8×Int×List (List UInt8)×Int×Int×List Note×Int×List Cell):=
 ob (zcu box box1 box2 box3 box4 box5 row row1) fun x=>
 ob (
  if (decide (0≤x))=true then
   zaq (0≤x∧x≤(row.length:Int)) <|
   ob (wal_Put ([]:List Cell) (zdu row x)) fun x1=>
   some (x1,(⟨0,0⟩:Fault))
  else
   some (([]:List Cell),(⟨0,0⟩:Fault))) fun (v:List Cell×Fault)=>
 if (decide (500<(v.1.length:Int)))=true then
  lt (zc2 9 (-2)) fun x2=>
  some (x2,box,box1,box2,box3,box4,row,box5,v.1)
 else
  ob (tablet_tab_all box box1 box2 box3 box4 box5 row v.1 row1) fun x3=>
  if (decide (1000<(x3.1.length:Int)))=true then
   lt (zc2 9 (-1)) fun x4=>
   some (x4,box,box1,box2,box3,box4,row,box5,x3.2)
  else
   some ((⟨0,0⟩:Fault),box,box1,box2,box3,box4,row,box5,x3.2)
theorem tablet_tab_fill_ok (rk rc:Nat) (rn:Bool) (rk1 rc1:Nat) (rn1:Bool) {box box1 box2 box3 box4 box5 row row1 r} (hF:tablet_tab_fill box box1 box2 box3 box4 box5 row row1=some r):Pe Tryz.prog 68 ⟨[],[(100000,[.sl 1 (box.map zan),.i box1,.sl 1 (box2.map zag),.i box3,.i box4,.row 100000 0,.i box5,.nils,.row 100001 0])],[(100000,.q 50 2 0 rk rc rn (row.map zak)),(100001,.q 28 1 0 rk1 rc1 rn1 (row1.map zas))],[],[]⟩ [.ptr 100000 0] (.agg (zad r.1)) ⟨[],[(100000,[.sl 1 (r.2.1.map zan),.i r.2.2.1,.sl 1 (r.2.2.2.1.map zag),.i r.2.2.2.2.1,.i r.2.2.2.2.2.1,.row 100000 0,.i r.2.2.2.2.2.2.2.1,.row 22 0,.row 100001 0])],[(100000,⟨50,2,0,(r.2.2.2.2.2.2.1.map zak).length,rc,rn,0,[],(r.2.2.2.2.2.2.1.map zak)⟩),(100001,.q 28 1 0 rk1 rc1 rn1 (row1.map zas)),(22,⟨53,5,0,(r.2.2.2.2.2.2.2.2.map zac).length,0,false,0,[],(r.2.2.2.2.2.2.2.2.map zac)⟩)],[],[]⟩:=by
 refine PT 38 [.cell 2 35] [35] Tryz.func68 ?_
 intro Q g hfin
 unfold tablet_tab_fill at hF
 refine LR0 ?_
 obtain ⟨x,h0,hF⟩:=oE hF
 refine RJ (.q [1,100000] [100000,100001] (Pe.ren (slices_IndexFunc_api_Note_api_Note_ok rk rc rn rk1 rc1 rn1 h0) ⟨[(100000,1),(100001,100000)],[],[],[]⟩) .z) ?_
 refine LR0 ?_
 refine VR [] [1,2,3,14] [1,2,100000] [100000,100001] [] [(1,.ptr 1 0),(2,.ptr 2 0),(3,.i x),(14,.bool (decide (0≤x)))] [(1,[.ptr 100000 0]),(2,[.i 0,.i 0]),(100000,[.sl 1 (box.map zan),.i box1,.sl 1 (box2.map zag),.i box3,.i box4,.row 100000 0,.i box5,.nils,.row 100001 0])] [(100000,.q 50 2 0 rk rc rn (row.map zak)),(100001,.q 28 1 0 rk1 rc1 rn1 (row1.map zas))] [] .nil ?_
 obtain ⟨v,hv,hF⟩:=oE hF
 refine NmT (fun Z=>Z.up [1,2] [1,2,100000] [22,100000,100001] [] [] [(2,(zad v.2)),(100000,[.sl 1 (box.map zan),.i box1,.sl 1 (box2.map zag),.i box3,.i box4,.row 100000 0,.i box5,.row 22 0,.row 100001 0])] [(22,.o 53 5 0 (v.1.map zac)),(100000,⟨50,2,0,(row.map zak).length,rc,rn,0,[],(row.map zak)⟩)] []) ?_ ?_
 ·have hF:=hv
  refine Nif hF ?_ ?_ <;> intro hb hF
  ·obtain ⟨h1,hF⟩:=aE hF
   obtain ⟨x1,h2,hF⟩:=oE hF
   have p3:=(Pe.ren (wal_Put_ok ([]:List Cell) (zdu row x) x1 h2) ⟨[],[(5,22)],[],[]⟩)
   refine DJ (.s10 zak h1 (.e [] [] p3 .z)) ?_
   cases hF
   exact met' [(22,⟨0,true,true,false⟩)]
  ·refine zar 100000 7 60000 53 5 rfl rfl rfl rfl rfl ?_
   refine zci (fs:=[1,2]) (bs:=[1,2,100000]) (rs:=[60000,100000,100001]) (ms:=[]) (aa:=[]) (nv:=[]) rfl ?_
   refine zat ⟨[],[(60000,22)],[],[]⟩ rfl ?_
   cases hF
   exact met' [(22,⟨0,true,false,false⟩),(100000,⟨0,true,true,true⟩)]
 ·refine RJ (.l zac v.1 .z) ?_
  refine Nif hF ?_ ?_ <;> intro hb hF
  ·obtain ⟨x2,h4,hF⟩:=lS hF
   refine RJ (.b (za9 h4) .z) ?_
   cases hF
   exact Wz [(22,⟨0,true,true,true⟩)] hfin
  ·obtain ⟨x3,h5,hF⟩:=oE hF
   have p6:=(Pe.ren (tablet_tab_all_ok ((row.map zak).length) rc rn 0 0 false rk1 rc1 rn1 h5) ⟨[],[(100001,22),(100002,100001),(5,33)],[],[]⟩)
   refine RJ (.e [100000] [100000,22,100001] p6 (.l zac x3.1 .z)) ?_
   refine Nif hF ?_ ?_ <;> intro hb hF
   ·obtain ⟨x4,h7,hF⟩:=lS hF
    refine RJ (.b (za9 h7) .z) ?_
    cases hF
    exact Wz [(100000,⟨0,true,true,true⟩)] hfin
   ·refine LR0 ?_
    cases hF
    exact Wz [(100000,⟨0,true,true,true⟩)] hfin

/- tablet.load -/
def tablet_load_J1 (x4:List Note×Int) (v:Tablet×Fault×List UInt8×Int×List (List UInt8)×Int×Int×Int) (v1:Fault×List (List Cell)):Option ((Fault)⊕(List UInt8×Int×List (List UInt8)×Int×Int×List Note×Int×List Cell×List (List Cell)×Fault)):=
 ob (tablet_tab_fill v.2.2.1 v.2.2.2.1 v.2.2.2.2.1 v.2.2.2.2.2.1 v.2.2.2.2.2.2.1 v.2.2.2.2.2.2.2 x4.1 v1.2) fun x6=>
 some (Sum.inr (x6.2.1,x6.2.2.1,x6.2.2.2.1,x6.2.2.2.2.1,x6.2.2.2.2.2.1,x6.2.2.2.2.2.2.1,x6.2.2.2.2.2.2.2.1,x6.2.2.2.2.2.2.2.2,v1.2,x6.1))
def tablet_load_B1 (x4:List Note×Int) (v:Tablet×Fault×List UInt8×Int×List (List UInt8)×Int×Int×Int) (v2:Fault×List (List Cell)×List (List UInt8)×Int×Int):Option ((Fault×List (List Cell)×List (List UInt8)×Int×Int)⊕((Fault)⊕(List UInt8×Int×List (List UInt8)×Int×Int×List Note×Int×List Cell×List (List Cell)×Fault))):=
 if (decide (v2.2.2.2.2<v2.2.2.2.1))=true then
  zaq (0≤v2.2.2.2.2∧v2.2.2.2.2<(v2.2.2.1.length:Int)) <|
  ob (file_Open (zaf v2.2.2.1 v2.2.2.2.2)) fun x7=>
  if (!decide (x7.2.Code=0))=true then
   lt (zc2 x7.2.Code v2.2.2.2.2) fun x8=>
   some (Sum.inr (Sum.inl x8))
  else
   zaq (((v2.2.1++([x7.1]:List (List Cell))).length:Int)*24≤140737488351232) <|
   some (Sum.inl (v2.1,(v2.2.1++([x7.1]:List (List Cell))),v2.2.2.1,v2.2.2.2.1,w64 (v2.2.2.2.2+1)))
 else
  zem (tablet_load_J1 x4 v (v2.1,v2.2.1))
def tablet_load_L1 (x4:List Note×Int) (v:Tablet×Fault×List UInt8×Int×List (List UInt8)×Int×Int×Int) (v0:Fault×List (List Cell)×List (List UInt8)×Int×Int):Option ((Fault)⊕(List UInt8×Int×List (List UInt8)×Int×Int×List Note×Int×List Cell×List (List Cell)×Fault)):=
 zbc (fun y=>tablet_load_B1 x4 v y) v0
def tablet_load (t0:Tablet):Option ((Fault)⊕(List UInt8×Int×List (List UInt8)×Int×Int×List Note×Int×List Cell×List (List Cell)×Fault)):=
 if ((((decide (t0.Done<0))||(decide (1000000000<t0.Done)))||(decide (t0.Since<0)))||(decide (1000000000<t0.Since)))=true then
  lt (zc2 3 0) fun x=>
  some (Sum.inl x)
 else
  if (decide (10<(t0.Files.length:Int)))=true then
   lt (zc2 2 (-1)) fun x1=>
   some (Sum.inl x1)
  else
   lt (disk_Check t0.Log) fun x2=>
   if (!decide (x2.Code=0))=true then
    lt (zc2 x2.Code (-2)) fun x3=>
    some (Sum.inl x3)
   else
    ob (wal_Notes t0.Log) fun x4=>
    zaq ((decide (0<(x4.1.length:Int)))=true→(!(!decide (x4.2=(t0.Log.Bytes.length:Int))))=true→0≤(0:Int)∧0<(x4.1.length:Int)) <|
    zaq ((decide (0<(x4.1.length:Int)))=true→(!(!decide (x4.2=(t0.Log.Bytes.length:Int))))=true→0≤(0:Int)∧0<(x4.1.length:Int)) <|
    zaq ((!(decide ((w64 (t0.Done+1))<((zaf x4.1 0).Seq))))=true→(decide (0<(x4.1.length:Int)))=true→(!(!decide (x4.2=(t0.Log.Bytes.length:Int))))=true→0≤w64 ((x4.1.length:Int) - 1)∧w64 ((x4.1.length:Int) - 1)<(x4.1.length:Int)) <|
    zaq ((!(decide ((w64 (t0.Done+1))<((zaf x4.1 0).Seq))))=true→(decide (0<(x4.1.length:Int)))=true→(!(!decide (x4.2=(t0.Log.Bytes.length:Int))))=true→0≤w64 ((x4.1.length:Int) - 1)∧w64 ((x4.1.length:Int) - 1)<(x4.1.length:Int)) <|
    if ((!decide (x4.2=(t0.Log.Bytes.length:Int)))||((decide (0<(x4.1.length:Int)))&&((decide ((w64 (t0.Done+1))<((zaf x4.1 0).Seq)))||(decide (((zaf x4.1 (w64 ((x4.1.length:Int) - 1))).Seq)<t0.Done)))))=true then
     lt (zc2 11 (-2)) fun x5=>
     some (Sum.inl x5)
    else
     ob (
      if (decide (0<(x4.1.length:Int)))=true then
       zaq (0≤w64 ((x4.1.length:Int) - 1)∧w64 ((x4.1.length:Int) - 1)<(x4.1.length:Int)) <|
       zaq (0≤w64 ((x4.1.length:Int) - 1)∧w64 ((x4.1.length:Int) - 1)<(x4.1.length:Int)) <|
       some (t0,(⟨0,0⟩:Fault),t0.Log.Bytes,t0.Log.Kept,t0.Files,t0.Done,t0.Since,(zaf x4.1 (w64 ((x4.1.length:Int) - 1))).Seq)
      else
       some (t0,(⟨0,0⟩:Fault),t0.Log.Bytes,t0.Log.Kept,t0.Files,t0.Done,t0.Since,t0.Done)) fun (v:Tablet×Fault×List UInt8×Int×List (List UInt8)×Int×Int×Int)=>
     tablet_load_L1 x4 v (v.2.1,([]:List (List Cell)),v.1.Files,(v.1.Files.length:Int),0)
theorem tablet_load_okl {t0 r} (hF:tablet_load t0=some (Sum.inl r)):Pe Tryz.prog 91 S.none [.agg (zae t0)] (.tup [.nilp,.agg (zad r)]) S.none:=by
 refine PT 150 [.tmp 2,.cell 3 35] [104,35] Tryz.func91 ?_
 intro Q g hfin
 unfold tablet_load at hF
 refine LR0 ?_
 refine LR0 ?_
 refine Nif hF ?_ ?_ <;> intro hb hF
 ·obtain ⟨x,h0,hF⟩:=lS hF
  refine RJ (.b (za9 h0) .z) ?_
  cases hF
  exact Wz [] hfin
 ·refine RJ (.l zag t0.Files .z) ?_
  refine Nif hF ?_ ?_ <;> intro hb hF
  ·obtain ⟨x1,h1,hF⟩:=lS hF
   refine RJ (.b (za9 h1) .z) ?_
   cases hF
   exact Wz [] hfin
  ·obtain ⟨x2,h2,hF⟩:=lS hF
   refine RJ (.b (disk_Check_ok h2) .z) ?_
   refine LR0 ?_
   refine Nif hF ?_ ?_ <;> intro hb hF
   ·obtain ⟨x3,h3,hF⟩:=lS hF
    refine RJ (.b (za9 h3) .z) ?_
    cases hF
    exact Wz [] hfin
   ·refine LR0 ?_
    refine LR0 ?_
    obtain ⟨x4,h4,hF⟩:=oE hF
    have p5:=(Pe.ren (wal_Notes_ok h4) ⟨[],[(53,54)],[],[]⟩)
    refine RJ (.e [] [] p5 .z) ?_
    refine RJ (.l zak x4.1 .z) ?_
    obtain ⟨h6,h7,h8,h9,hF⟩:=asrt4 hF
    refine DJ (.l zan t0.Log.Bytes (.g (fun (ga0:(decide (0<(x4.1.length:Int)))=true) (ga1:(!(!decide (x4.2=(t0.Log.Bytes.length:Int))))=true)=>(ixr_ok zak (h6 ga0 ga1))) (.a (.av (zak (zaf x4.1 0))) (.g (fun (ga0:(decide (0<(x4.1.length:Int)))=true) (ga1:(!(!decide (x4.2=(t0.Log.Bytes.length:Int))))=true)=>(ldr_ok zak (h7 ga0 ga1))) (.g (fun (ga0:(!(decide ((w64 (t0.Done+1))<((zaf x4.1 0).Seq))))=true) (ga1:(decide (0<(x4.1.length:Int)))=true) (ga2:(!(!decide (x4.2=(t0.Log.Bytes.length:Int))))=true)=>(ixr_ok zak (h8 ga0 ga1 ga2))) (.a (.av (zak (zaf x4.1 (w64 ((x4.1.length:Int) - 1))))) (.g (fun (ga0:(!(decide ((w64 (t0.Done+1))<((zaf x4.1 0).Seq))))=true) (ga1:(decide (0<(x4.1.length:Int)))=true) (ga2:(!(!decide (x4.2=(t0.Log.Bytes.length:Int))))=true)=>(ldr_ok zak (h9 ga0 ga1 ga2))) .z))))))) ?_
    refine Nif hF ?_ ?_ <;> intro hb hF
    ·obtain ⟨x5,h10,hF⟩:=lS hF
     refine RJ (.b (za9 h10) .z) ?_
     cases hF
     exact Wz [] hfin
    ·refine LR0 ?_
     obtain ⟨v,hv,hF⟩:=oE hF
     refine NmT (fun Z=>Z.up [1,3,5] [1,3,49] [54] [] [] [(1,(zae v.1)),(3,(zad v.2.1)),(49,[.sl 1 (v.2.2.1.map zan),.i v.2.2.2.1,.sl 1 (v.2.2.2.2.1.map zag),.i v.2.2.2.2.2.1,.i v.2.2.2.2.2.2.1,.row 54 0,.i v.2.2.2.2.2.2.2,.nils,.nils])] [] []) ?_ ?_
     ·have hF:=hv
      refine Nif hF ?_ ?_ <;> intro hb hF
      ·obtain ⟨h11,hF⟩:=aE hF
       obtain ⟨h12,hF⟩:=aE hF
       refine RJ (.x zak h11 (.r zak h12 .z)) ?_
       cases hF
       exact met' []
      ·cases hF
       exact met' []
     ·refine VR [.nat (v.1.Files.length:Int)] [3,5,117,118,119] [3,49] [54] [] [(3,.ptr 3 0),(5,.ptr 49 0),(117,.sl 1 (v.1.Files.map zag)),(118,.i (v.1.Files.length:Int)),(119,.i 0)] [(3,(zad v.2.1)),(49,[.sl 1 (v.2.2.1.map zan),.i v.2.2.2.1,.sl 1 (v.2.2.2.2.1.map zag),.i v.2.2.2.2.2.1,.i v.2.2.2.2.2.2.1,.row 54 0,.i v.2.2.2.2.2.2.2,.nils,.nils])] [(54,.z 50 2 0 (x4.1.map zak))] [] (hc (zdv zag v.1.Files) .nil) ?_
      refine NmS (fun v1=>tablet_load_J1 x4 v v1=some (Sum.inl r)) (fun Z v1=>Z.up [3,5] [3,49] [54,143] [] [] [(3,(zad v1.1)),(49,[.sl 1 (v.2.2.1.map zan),.i v.2.2.2.1,.sl 1 (v.2.2.2.2.1.map zag),.i v.2.2.2.2.2.1,.i v.2.2.2.2.2.2.1,.row 54 0,.i v.2.2.2.2.2.2.2,.nils,.row 143 0])] [(143,.z 28 1 0 (v1.2.map zas))] []) ?_ ?_
      ·refine zcb ?_
       unfold tablet_load_L1 at hF
       refine zar 49 8 60000 28 1 rfl rfl rfl rfl rfl ?_
       refine zci (fs:=[3,5,117,118,119]) (bs:=[3,49]) (rs:=[54,60000]) (ms:=[]) (aa:=[]) (nv:=[]) rfl ?_
       refine zat ⟨[],[(60000,143)],[],[]⟩ rfl ?_
       refine Nitr hF [] (fun v2=>⟨[(3,.ptr 3 0),(5,.ptr 49 0),(117,.sl 1 (v2.2.2.1.map zag)),(118,.i v2.2.2.2.1),(119,.i v2.2.2.2.2)],[(3,(zad v2.1)),(49,[.sl 1 (v.2.2.1.map zan),.i v.2.2.2.1,.sl 1 (v.2.2.2.2.1.map zag),.i v.2.2.2.2.2.1,.i v.2.2.2.2.2.2.1,.row 54 0,.i v.2.2.2.2.2.2.2,.nils,.row 143 0])],[(54,.z 50 2 0 (x4.1.map zak)),(143,.z 28 1 0 (v2.2.1.map zas))],[],[]⟩) ?_
       intro n1 v2 y1 hF ih1 dn1
       unfold tablet_load_B1 at hF
       refine LR0 ?_
       refine Nif hF ?_ ?_ <;> intro hb hF
       ·refine zcb ?_
        obtain ⟨h15,hF⟩:=aE hF
        refine RJ (.i zag h15 .z) ?_
        obtain ⟨x7,h16,hF⟩:=oE hF
        have p17:=(Pe.ren (file_Open_ok h16) ⟨[],[(24,126)],[],[]⟩)
        refine RJ (.e [] [] p17 .z) ?_
        refine LR0 ?_
        refine Nif hF ?_ ?_ <;> intro hb hF
        ·obtain ⟨x8,h18,hF⟩:=lS hF
         refine RJ (.b (za9 h18) .z) ?_
         have hF:=zc0 hF dn1
         cases hF
         exact Wz [] hfin
        ·obtain ⟨h19,hF⟩:=aE hF
         refine RJ (.a (.sealed) (.p zas h19 .z)) ?_
         refine LR0 ?_
         exact Nrnq [(143,⟨0,true,true,false⟩)] hF ih1
       ·refine zbv rfl ?_
        have hF:=zaj hF dn1
        exact ze6 (v2.1,v2.2.1) [] hF
      ·intro v1 hF
       unfold tablet_load_J1 at hF
       obtain ⟨x6,h13,hF⟩:=oE hF
       have p14:=(Pe.ren (tablet_tab_fill_ok 0 0 true 0 0 true h13) ⟨[(100000,49)],[(100000,54),(100001,143),(22,149)],[],[]⟩)
       refine RJ (.e [49] [54,143] p14 .z) ?_
       cases hF
theorem tablet_load_okr {t0 r} (hF:tablet_load t0=some (Sum.inr r)):Pe Tryz.prog 91 (.w []) [.agg (zae t0)] (.tup [.ptr 49 0,.agg (zad r.2.2.2.2.2.2.2.2.2)]) ⟨[],[(49,[.sl 1 (r.1.map zan),.i r.2.1,.sl 1 (r.2.2.1.map zag),.i r.2.2.2.1,.i r.2.2.2.2.1,.row 54 0,.i r.2.2.2.2.2.2.1,.row 149 0,.row 143 0])],[(54,⟨50,2,0,(r.2.2.2.2.2.1.map zak).length,0,true,0,[],(r.2.2.2.2.2.1.map zak)⟩),(143,.z 28 1 0 (r.2.2.2.2.2.2.2.2.1.map zas)),(149,⟨53,5,0,(r.2.2.2.2.2.2.2.1.map zac).length,0,false,0,[],(r.2.2.2.2.2.2.2.1.map zac)⟩)],[],[]⟩:=by
 refine PT 150 [.tmp 2,.cell 3 35] [104,35] Tryz.func91 ?_
 intro Q g hfin
 unfold tablet_load at hF
 refine LR0 ?_
 refine LR0 ?_
 refine Nif hF ?_ ?_ <;> intro hb hF
 ·obtain ⟨x,h0,hF⟩:=lS hF
  refine RJ (.b (za9 h0) .z) ?_
  cases hF
 ·refine RJ (.l zag t0.Files .z) ?_
  refine Nif hF ?_ ?_ <;> intro hb hF
  ·obtain ⟨x1,h1,hF⟩:=lS hF
   refine RJ (.b (za9 h1) .z) ?_
   cases hF
  ·obtain ⟨x2,h2,hF⟩:=lS hF
   refine RJ (.b (disk_Check_ok h2) .z) ?_
   refine LR0 ?_
   refine Nif hF ?_ ?_ <;> intro hb hF
   ·obtain ⟨x3,h3,hF⟩:=lS hF
    refine RJ (.b (za9 h3) .z) ?_
    cases hF
   ·refine LR0 ?_
    refine LR0 ?_
    obtain ⟨x4,h4,hF⟩:=oE hF
    have p5:=(Pe.ren (wal_Notes_ok h4) ⟨[],[(53,54)],[],[]⟩)
    refine RJ (.e [] [] p5 .z) ?_
    refine RJ (.l zak x4.1 .z) ?_
    obtain ⟨h6,h7,h8,h9,hF⟩:=asrt4 hF
    refine DJ (.l zan t0.Log.Bytes (.g (fun (ga0:(decide (0<(x4.1.length:Int)))=true) (ga1:(!(!decide (x4.2=(t0.Log.Bytes.length:Int))))=true)=>(ixr_ok zak (h6 ga0 ga1))) (.a (.av (zak (zaf x4.1 0))) (.g (fun (ga0:(decide (0<(x4.1.length:Int)))=true) (ga1:(!(!decide (x4.2=(t0.Log.Bytes.length:Int))))=true)=>(ldr_ok zak (h7 ga0 ga1))) (.g (fun (ga0:(!(decide ((w64 (t0.Done+1))<((zaf x4.1 0).Seq))))=true) (ga1:(decide (0<(x4.1.length:Int)))=true) (ga2:(!(!decide (x4.2=(t0.Log.Bytes.length:Int))))=true)=>(ixr_ok zak (h8 ga0 ga1 ga2))) (.a (.av (zak (zaf x4.1 (w64 ((x4.1.length:Int) - 1))))) (.g (fun (ga0:(!(decide ((w64 (t0.Done+1))<((zaf x4.1 0).Seq))))=true) (ga1:(decide (0<(x4.1.length:Int)))=true) (ga2:(!(!decide (x4.2=(t0.Log.Bytes.length:Int))))=true)=>(ldr_ok zak (h9 ga0 ga1 ga2))) .z))))))) ?_
    refine Nif hF ?_ ?_ <;> intro hb hF
    ·obtain ⟨x5,h10,hF⟩:=lS hF
     refine RJ (.b (za9 h10) .z) ?_
     cases hF
    ·refine LR0 ?_
     obtain ⟨v,hv,hF⟩:=oE hF
     refine NmT (fun Z=>Z.up [1,3,5] [1,3,49] [54] [] [] [(1,(zae v.1)),(3,(zad v.2.1)),(49,[.sl 1 (v.2.2.1.map zan),.i v.2.2.2.1,.sl 1 (v.2.2.2.2.1.map zag),.i v.2.2.2.2.2.1,.i v.2.2.2.2.2.2.1,.row 54 0,.i v.2.2.2.2.2.2.2,.nils,.nils])] [] []) ?_ ?_
     ·have hF:=hv
      refine Nif hF ?_ ?_ <;> intro hb hF
      ·obtain ⟨h11,hF⟩:=aE hF
       obtain ⟨h12,hF⟩:=aE hF
       refine RJ (.x zak h11 (.r zak h12 .z)) ?_
       cases hF
       exact met' []
      ·cases hF
       exact met' []
     ·refine VR [.nat (v.1.Files.length:Int)] [3,5,117,118,119] [3,49] [54] [] [(3,.ptr 3 0),(5,.ptr 49 0),(117,.sl 1 (v.1.Files.map zag)),(118,.i (v.1.Files.length:Int)),(119,.i 0)] [(3,(zad v.2.1)),(49,[.sl 1 (v.2.2.1.map zan),.i v.2.2.2.1,.sl 1 (v.2.2.2.2.1.map zag),.i v.2.2.2.2.2.1,.i v.2.2.2.2.2.2.1,.row 54 0,.i v.2.2.2.2.2.2.2,.nils,.nils])] [(54,.z 50 2 0 (x4.1.map zak))] [] (hc (zdv zag v.1.Files) .nil) ?_
      refine NmS (fun v1=>tablet_load_J1 x4 v v1=some (Sum.inr r)) (fun Z v1=>Z.up [3,5] [3,49] [54,143] [] [] [(3,(zad v1.1)),(49,[.sl 1 (v.2.2.1.map zan),.i v.2.2.2.1,.sl 1 (v.2.2.2.2.1.map zag),.i v.2.2.2.2.2.1,.i v.2.2.2.2.2.2.1,.row 54 0,.i v.2.2.2.2.2.2.2,.nils,.row 143 0])] [(143,.z 28 1 0 (v1.2.map zas))] []) ?_ ?_
      ·refine zcb ?_
       unfold tablet_load_L1 at hF
       refine zar 49 8 60000 28 1 rfl rfl rfl rfl rfl ?_
       refine zci (fs:=[3,5,117,118,119]) (bs:=[3,49]) (rs:=[54,60000]) (ms:=[]) (aa:=[]) (nv:=[]) rfl ?_
       refine zat ⟨[],[(60000,143)],[],[]⟩ rfl ?_
       refine Nitr hF [] (fun v2=>⟨[(3,.ptr 3 0),(5,.ptr 49 0),(117,.sl 1 (v2.2.2.1.map zag)),(118,.i v2.2.2.2.1),(119,.i v2.2.2.2.2)],[(3,(zad v2.1)),(49,[.sl 1 (v.2.2.1.map zan),.i v.2.2.2.1,.sl 1 (v.2.2.2.2.1.map zag),.i v.2.2.2.2.2.1,.i v.2.2.2.2.2.2.1,.row 54 0,.i v.2.2.2.2.2.2.2,.nils,.row 143 0])],[(54,.z 50 2 0 (x4.1.map zak)),(143,.z 28 1 0 (v2.2.1.map zas))],[],[]⟩) ?_
       intro n1 v2 y1 hF ih1 dn1
       unfold tablet_load_B1 at hF
       refine LR0 ?_
       refine Nif hF ?_ ?_ <;> intro hb hF
       ·refine zcb ?_
        obtain ⟨h15,hF⟩:=aE hF
        refine RJ (.i zag h15 .z) ?_
        obtain ⟨x7,h16,hF⟩:=oE hF
        have p17:=(Pe.ren (file_Open_ok h16) ⟨[],[(24,126)],[],[]⟩)
        refine RJ (.e [] [] p17 .z) ?_
        refine LR0 ?_
        refine Nif hF ?_ ?_ <;> intro hb hF
        ·obtain ⟨x8,h18,hF⟩:=lS hF
         refine RJ (.b (za9 h18) .z) ?_
         have hF:=zc0 hF dn1
         cases hF
        ·obtain ⟨h19,hF⟩:=aE hF
         refine RJ (.a (.sealed) (.p zas h19 .z)) ?_
         refine LR0 ?_
         exact Nrnq [(143,⟨0,true,true,false⟩)] hF ih1
       ·refine zbv rfl ?_
        have hF:=zaj hF dn1
        exact ze6 (v2.1,v2.2.1) [] hF
      ·intro v1 hF
       unfold tablet_load_J1 at hF
       obtain ⟨x6,h13,hF⟩:=oE hF
       have p14:=(Pe.ren (tablet_tab_fill_ok 0 0 true 0 0 true h13) ⟨[(100000,49)],[(100000,54),(100001,143),(22,149)],[],[]⟩)
       refine RJ (.e [49] [54,143] p14 .z) ?_
       cases hF
       exact Wz [] hfin

/- wire.AddNum -/
def wire_AddNum_v1_J1 (v:List UInt8×Int):Option (List UInt8):=
 zaq (((v.1++([zd1 v.2]:List UInt8)).length:Int)*1≤140737488351232) <|
 some (v.1++([zd1 v.2]:List UInt8))
def wire_AddNum_v1_B1 (v1:List UInt8×Int):Option ((List UInt8×Int)⊕(List UInt8)):=
 if (decide (127<v1.2))=true then
  zaq (((v1.1++([zd1 (((BitVec.ofInt 8 ((zd1 v1.2).toNat:Int) ||| BitVec.ofInt 8 ((128:UInt8).toNat:Int)).toNat:Int))]:List UInt8)).length:Int)*1≤140737488351232) <|
  lt ((v1.1++([zd1 (((BitVec.ofInt 8 ((zd1 v1.2).toNat:Int) ||| BitVec.ofInt 8 ((128:UInt8).toNat:Int)).toNat:Int))]:List UInt8))) fun v2=>
  some (Sum.inl (v2,Int.fdiv v1.2 (2 ^ (min (7:Int).toNat 64))))
 else
  zem (wire_AddNum_v1_J1 (v1.1,v1.2))
def wire_AddNum_v1_L1 (v0:List UInt8×Int):Option (List UInt8):=
 zbc (fun y=>wire_AddNum_v1_B1 y) v0
def wire_AddNum_v1 (num:Int):Option (List UInt8):=
 wire_AddNum_v1_L1 (([]:List UInt8),num)
theorem wire_AddNum_v1_ok {num r} (hF:wire_AddNum_v1 num=some r):Pe Tryz.prog 122 (.w []) [.nils,.i num] (.row 14 1) ⟨[],[],[(14,.z 5 1 1 (r.map zan))],[],[]⟩:=by
 refine PT 20 [.tmp 4] [22] Tryz.func122 ?_
 intro Q g hfin
 unfold wire_AddNum_v1 at hF
 refine NR [] [0,1] [] [] [(0,.nils),(1,.i num)] .nil ?_
 refine NmQ (fun v=>wire_AddNum_v1_J1 v=some r) (fun v=>⟨[(0,.row 14 0),(1,.i v.2)],[],[(14,.z 5 1 0 (v.1.map zan))],[],[]⟩) ?_ ?_
 ·refine zcb ?_
  unfold wire_AddNum_v1_L1 at hF
  refine zap 0 60000 5 1 rfl rfl rfl ?_
  refine zci (fs:=[0,1]) (bs:=[]) (rs:=[60000]) (ms:=[]) (aa:=[]) (nv:=[]) rfl ?_
  refine zat ⟨[],[(60000,14)],[],[]⟩ rfl ?_
  refine Nitr hF [] (fun v1=>⟨[(0,.row 14 0),(1,.i v1.2)],[],[(14,.z 5 1 0 (v1.1.map zan))],[],[]⟩) ?_
  intro n1 v1 y1 hF ih1 dn1
  unfold wire_AddNum_v1_B1 at hF
  refine LR0 ?_
  refine Nif hF ?_ ?_ <;> intro hb hF
  ·refine zcb ?_
   obtain ⟨h1,hF⟩:=aE hF
   obtain ⟨v2,hv,hF⟩:=lS hF
   refine RJ (.a (.sealed) (.pN zan hv h1 .z)) ?_
   refine RJ (.g (by decide:(0:Int)≤7) .z) ?_
   exact Nrnq [(14,⟨0,true,true,false⟩)] hF ih1
  ·refine zbv rfl ?_
   have hF:=zaj hF dn1
   exact ze6 (v1.1,v1.2) [] hF
 ·intro v hF
  unfold wire_AddNum_v1_J1 at hF
  obtain ⟨h0,hF⟩:=aE hF
  refine RJ (.a (.sealed) (.p zan h0 .z)) ?_
  cases hF
  exact Wz [] hfin

/- wire.AddNum -/
def wire_AddNum_v2_J1 (v:List UInt8×Int):Option (List UInt8):=
 zaq (((v.1++([zd1 v.2]:List UInt8)).length:Int)*1≤140737488351232) <|
 some (v.1++([zd1 v.2]:List UInt8))
def wire_AddNum_v2_B1 (v1:List UInt8×Int):Option ((List UInt8×Int)⊕(List UInt8)):=
 if (decide (127<v1.2))=true then
  zaq (((v1.1++([zd1 (((BitVec.ofInt 8 ((zd1 v1.2).toNat:Int) ||| BitVec.ofInt 8 ((128:UInt8).toNat:Int)).toNat:Int))]:List UInt8)).length:Int)*1≤140737488351232) <|
  lt ((v1.1++([zd1 (((BitVec.ofInt 8 ((zd1 v1.2).toNat:Int) ||| BitVec.ofInt 8 ((128:UInt8).toNat:Int)).toNat:Int))]:List UInt8))) fun v2=>
  some (Sum.inl (v2,Int.fdiv v1.2 (2 ^ (min (7:Int).toNat 64))))
 else
  zem (wire_AddNum_v2_J1 (v1.1,v1.2))
def wire_AddNum_v2_L1 (v0:List UInt8×Int):Option (List UInt8):=
 zbc (fun y=>wire_AddNum_v2_B1 y) v0
def ze2 (num:Int) (row:List UInt8):Option (List UInt8):=
 wire_AddNum_v2_L1 (row,num)
theorem wire_AddNum_v2_ok (rk rc:Nat) (rn:Bool) {num row r} (hF:ze2 num row=some r):Pe Tryz.prog 122 (.w [(100000,.q 5 1 0 rk rc rn (row.map zan))]) [.row 100000 0,.i num] (.row 100000 2) (.w [(100000,.q 5 1 2 rk rc rn (r.map zan))]):=by
 refine PT 20 [.tmp 4] [22] Tryz.func122 ?_
 intro Q g hfin
 unfold ze2 at hF
 refine LR0 ?_
 refine NmQ (fun v=>wire_AddNum_v2_J1 v=some r) (fun v=>⟨[(0,.row 100000 1),(1,.i v.2)],[],[(100000,.q 5 1 1 rk rc rn (v.1.map zan))],[],[]⟩) ?_ ?_
 ·refine zcb ?_
  unfold wire_AddNum_v2_L1 at hF
  refine Nitr hF [(100000,⟨1,true,true,false⟩)] (fun v1=>⟨[(0,.row 100000 1),(1,.i v1.2)],[],[(100000,.q 5 1 1 rk rc rn (v1.1.map zan))],[],[]⟩) ?_
  intro n1 v1 y1 hF ih1 dn1
  unfold wire_AddNum_v2_B1 at hF
  refine LR0 ?_
  refine Nif hF ?_ ?_ <;> intro hb hF
  ·refine zcb ?_
   obtain ⟨h1,hF⟩:=aE hF
   obtain ⟨v2,hv,hF⟩:=lS hF
   refine RJ (.a (.sealed) (.pN zan hv h1 .z)) ?_
   refine RJ (.g (by decide:(0:Int)≤7) .z) ?_
   exact Nrnq [(100000,⟨1,true,true,false⟩)] hF ih1
  ·refine zbv rfl ?_
   have hF:=zaj hF dn1
   exact ze6 (v1.1,v1.2) [] hF
 ·intro v hF
  unfold wire_AddNum_v2_J1 at hF
  obtain ⟨h0,hF⟩:=aE hF
  refine RJ (.a (.sealed) (.p zan h0 .z)) ?_
  cases hF
  exact Wz [] hfin

/- wire.AddText -/
def zei (s0 row:List UInt8):Option (List UInt8):=
 ob (ze2 (s0.length:Int) row) fun x=>
 zaq (((x++s0).length:Int)*1≤140737488351232) <|
 some (x++s0)
theorem wire_AddText_v1_ok (rk rc:Nat) (rn:Bool) {s0 row r} (hF:zei s0 row=some r):Pe Tryz.prog 123 (.w [(100000,.q 5 1 0 rk rc rn (row.map zan))]) [.row 100000 0,.str s0] (.row 100000 3) (.w [(100000,.q 5 1 3 rk rc rn (r.map zan))]):=by
 refine PT 11 [.tmp 4] [22] Tryz.func123 ?_
 intro Q g hfin
 unfold zei at hF
 refine LR0 ?_
 obtain ⟨x,h0,hF⟩:=oE hF
 have p1:=(Pe.ren (wire_AddNum_v2_ok rk rc rn h0) ⟨[],[],[],[]⟩)
 obtain ⟨h2,hF⟩:=aE hF
 refine RJ (.e [] [100000] p1 (.p zan h2 .z)) ?_
 cases hF
 exact Wz [] hfin

/- cell.Add -/
def cell_Add_v1 (c:Cell) (row:List UInt8):Option (List UInt8):=
 ob (zei c.Row row) fun x=>
 ob (zei c.Col x) fun x1=>
 ob (
  if c.Gone=true then
   some (c,1)
  else
   some (c,0)) fun (v:Cell×Int)=>
 ob (ze2 v.1.Time x1) fun x2=>
 ob (ze2 v.2 x2) fun x3=>
 ob (zei v.1.Value x3) fun x4=>
 some x4
theorem cell_Add_v1_ok (rk rc:Nat) (rn:Bool) {c row r} (hF:cell_Add_v1 c row=some r):Pe Tryz.prog 144 (.w [(100000,.q 5 1 0 rk rc rn (row.map zan))]) [.row 100000 0,.agg (c_Cell c)] (.row 100000 13) (.w [(100000,.q 5 1 13 rk rc rn (r.map zan))]):=by
 refine PT 24 [.tmp 4] [22] Tryz.func144 ?_
 intro Q g hfin
 unfold cell_Add_v1 at hF
 refine LR0 ?_
 obtain ⟨x,h0,hF⟩:=oE hF
 have p1:=(Pe.ren (wire_AddText_v1_ok rk rc rn h0) ⟨[],[],[],[]⟩)
 obtain ⟨x1,h2,hF⟩:=oE hF
 have p3:=(Pe.ren (wire_AddText_v1_ok rk rc rn h2) ⟨[],[],[],[(100000,3)]⟩)
 refine DJ (.e [] [100000] p1 (.e [] [100000] p3 .z)) ?_
 refine LR0 ?_
 refine LR0 ?_
 obtain ⟨v,hv,hF⟩:=oE hF
 refine NmT (fun Z=>Z.up [0,3,5] [3] [100000] [] [(5,.i v.2)] [(3,(c_Cell v.1))] [] []) ?_ ?_
 ·have hF:=hv
  refine Nif hF ?_ ?_ <;> intro hb hF
  ·refine LR0 ?_
   cases hF
   exact met' []
  ·cases hF
   exact met' []
 ·obtain ⟨x2,h4,hF⟩:=oE hF
  have p5:=(Pe.ren (wire_AddNum_v2_ok rk rc rn h4) ⟨[],[],[],[(100000,6)]⟩)
  obtain ⟨x3,h6,hF⟩:=oE hF
  have p7:=(Pe.ren (wire_AddNum_v2_ok rk rc rn h6) ⟨[],[],[],[(100000,8)]⟩)
  obtain ⟨x4,h8,hF⟩:=oE hF
  have p9:=(Pe.ren (wire_AddText_v1_ok rk rc rn h8) ⟨[],[],[],[(100000,10)]⟩)
  refine DJ (.e [] [100000] p5 (.e [] [100000] p7 (.e [] [100000] p9 .z))) ?_
  cases hF
  exact Wz [] hfin

/- wal.bytes -/
def wal_bytes_J1 (v:List UInt8):Option (List UInt8):=
 some v
def wal_bytes_B1 (v1:List UInt8×List Cell×Int×Int):Option ((List UInt8×List Cell×Int×Int)⊕(List UInt8)):=
 if (decide (v1.2.2.2<v1.2.2.1))=true then
  zaq (0≤v1.2.2.2∧v1.2.2.2<(v1.2.1.length:Int)) <|
  ob (cell_Add_v1 (⟨(zaf v1.2.1 v1.2.2.2).Row,(zaf v1.2.1 v1.2.2.2).Col,(zaf v1.2.1 v1.2.2.2).Time,(zaf v1.2.1 v1.2.2.2).Gone,(zaf v1.2.1 v1.2.2.2).Value⟩:Cell) v1.1) fun x1=>
  some (Sum.inl (x1,v1.2.1,v1.2.2.1,w64 (v1.2.2.2+1)))
 else
  zem (wal_bytes_J1 v1.1)
def wal_bytes_L1 (v0:List UInt8×List Cell×Int×Int):Option (List UInt8):=
 zbc (fun y=>wal_bytes_B1 y) v0
def wal_bytes (num:Note):Option (List UInt8):=
 ob (wire_AddNum_v1 num.Seq) fun x=>
 wal_bytes_L1 (x,num.Cells,(num.Cells.length:Int),0)
theorem wal_bytes_ok {num r} (hF:wal_bytes num=some r):Pe Tryz.prog 113 (.w []) [.agg (c_Note num)] (.row 8 0) ⟨[],[],[(8,.z 5 1 0 (r.map zan))],[],[]⟩:=by
 refine PT 21 [.tmp 2] [22] Tryz.func113 ?_
 intro Q g hfin
 unfold wal_bytes at hF
 refine LR0 ?_
 obtain ⟨x,h0,hF⟩:=oE hF
 have p1:=(Pe.ren (wire_AddNum_v1_ok h0) ⟨[],[(14,8)],[],[]⟩)
 refine RJ (.a (.raw [0]) (.a (cE [] [] [] [] p1) (.g p1 .z))) ?_
 refine RJ (.l zac num.Cells .z) ?_
 refine NmQ (fun v=>wal_bytes_J1 v=some r) (fun v=>⟨[(3,.row 8 0)],[],[(8,.z 5 1 0 (v.map zan))],[],[]⟩) ?_ ?_
 ·refine zcb ?_
  unfold wal_bytes_L1 at hF
  refine Nitr hF [(8,⟨0,true,true,false⟩)] (fun v1=>⟨[(3,.row 8 0),(10,.sl 5 (v1.2.1.map zac)),(11,.i v1.2.2.1),(12,.i v1.2.2.2)],[],[(8,.z 5 1 0 (v1.1.map zan))],[],[]⟩) ?_
  intro n1 v1 y1 hF ih1 dn1
  unfold wal_bytes_B1 at hF
  refine LR0 ?_
  refine Nif hF ?_ ?_ <;> intro hb hF
  ·refine zcb ?_
   obtain ⟨h2,hF⟩:=aE hF
   refine RJ (.i zac h2 .z) ?_
   obtain ⟨x1,h3,hF⟩:=oE hF
   have p4:=(Pe.ren (cell_Add_v1_ok 0 0 true h3) ⟨[],[(100000,8)],[],[]⟩)
   refine RJ (.e [] [8] p4 .z) ?_
   refine LR0 ?_
   exact Nrnq [(8,⟨0,true,true,false⟩)] hF ih1
  ·refine zbv rfl ?_
   have hF:=zaj hF dn1
   exact ze6 v1.1 [] hF
 ·intro v hF
  unfold wal_bytes_J1 at hF
  refine LR0 ?_
  cases hF
  exact Wz [] hfin

/- wire.AddFrame -/
def wire_AddFrame_v1 (body:List UInt8):Option (List UInt8):=
 zaq ((([zd1 (Int.fdiv (body.length:Int) (2 ^ (min (8:Int).toNat 64))),zd1 (body.length:Int)]:List UInt8).length:Int)*1≤140737488351232) <|
 lt (([zd1 (Int.fdiv (body.length:Int) (2 ^ (min (8:Int).toNat 64))),zd1 (body.length:Int)]:List UInt8)) fun v=>
 zaq (((v++body).length:Int)*1≤140737488351232) <|
 zaq (0≤(0:Int)∧(0:Int)≤((v++body).length:Int)) <|
 ob (wire_Crc (zdu (v++body) 0)) fun x=>
 zaq ((((v++body)++([zd1 (Int.fdiv x (2 ^ (min (24:Int).toNat 32))),zd1 (Int.fdiv x (2 ^ (min (16:Int).toNat 32))),zd1 (Int.fdiv x (2 ^ (min (8:Int).toNat 32))),zd1 x]:List UInt8)).length:Int)*1≤140737488351232) <|
 lt (((v++body)++([zd1 (Int.fdiv x (2 ^ (min (24:Int).toNat 32))),zd1 (Int.fdiv x (2 ^ (min (16:Int).toNat 32))),zd1 (Int.fdiv x (2 ^ (min (8:Int).toNat 32))),zd1 x]:List UInt8))) fun v1=>
 some v1
theorem wire_AddFrame_v1_ok {body r} (hF:wire_AddFrame_v1 body=some r):Pe Tryz.prog 112 (.w []) [.nils,.sl 1 (body.map zan)] (.row 18 3) ⟨[],[],[(18,⟨5,1,3,(r.map zan).length,0,true,0,[],(r.map zan)⟩)],[],[]⟩:=by
 refine PT 40 [.tmp 4] [22] Tryz.func112 ?_
 intro Q g hfin
 unfold wire_AddFrame_v1 at hF
 refine LR0 ?_
 refine LR0 ?_
 obtain ⟨h0,hF⟩:=aE hF
 obtain ⟨v,hv,hF⟩:=lS hF
 refine RJ (.l zan body (.g (by decide:(0:Int)≤8) (.l zan body (.a (.sealed) (.p0N zan hv h0 .z))))) ?_
 obtain ⟨h1,hF⟩:=aE hF
 refine RJ (.p zan h1 .z) ?_
 obtain ⟨h2,hF⟩:=aE hF
 obtain ⟨x,h3,hF⟩:=oE hF
 refine RJ (.s10 zan h2 (.b (wire_Crc_ok h3) .z)) ?_
 obtain ⟨h4,hF⟩:=aE hF
 obtain ⟨v1,hv,hF⟩:=lS hF
 refine RJ (.g (by decide:(0:Int)≤24) (.g (by decide:(0:Int)≤16) (.g (by decide:(0:Int)≤8) (.a (.sealed) (.pN zan hv h4 .z))))) ?_
 cases hF
 exact Wz [(18,⟨3,true,true,true⟩)] hfin

/- wal.Frame -/
def wal_Frame_v1 (num:Note):Option (List UInt8):=
 ob (wal_bytes num) fun x=>
 ob (wire_AddFrame_v1 x) fun x1=>
 some x1
theorem wal_Frame_v1_ok {num r} (hF:wal_Frame_v1 num=some r):Pe Tryz.prog 67 (.w []) [.nils,.agg (c_Note num)] (.row 8 3) ⟨[],[],[(8,⟨5,1,3,(r.map zan).length,0,true,0,[],(r.map zan)⟩)],[],[]⟩:=by
 refine PT 9 [.tmp 4] [22] Tryz.func67 ?_
 intro Q g hfin
 unfold wal_Frame_v1 at hF
 refine LR0 ?_
 obtain ⟨x,h0,hF⟩:=oE hF
 have p1:=(Pe.ren (wal_bytes_ok h0) ⟨[],[(8,7)],[],[]⟩)
 obtain ⟨x1,h2,hF⟩:=oE hF
 have p3:=(Pe.ren (wire_AddFrame_v1_ok h2) ⟨[],[(18,8)],[],[]⟩)
 refine RJ (.e [] [] p1 (.a (.raw [0]) (.a (cE [] [] [] [] p3) (.g p3 .z)))) ?_
 cases hF
 exact Wz [] hfin

/- slices.Grow[[]byte,byte] -/
def zd0 (num:Int):Option (List UInt8):=
 ob (
  if (decide (num<0))=true then
   none
  else
   some ()) fun v=>
 ob (
  if (decide (0<(w64 (num - (w64 (0 - 0))))))=true then
   zaq (0≤(w64 (num - (w64 (0 - 0))))∧(w64 (num - (w64 (0 - 0)))).toNat*1≤140737488351232) <|
   zaq (0≤(0:Int)∧(0:Int)≤((List.replicate (w64 (num - (w64 (0 - 0)))).toNat ((0:UInt8):UInt8)).length:Int)) <|
   lt ((List.replicate (w64 (num - (w64 (0 - 0)))).toNat ((0:UInt8):UInt8))) fun v2=>
   zaq (((0:Int).toNat)≤v2.length) <|
   some (v2.take ((0:Int).toNat))
  else
   some ([]:List UInt8)) fun v1=>
 some v1
theorem slices_Grow_byte_byte_v1_ok {num r} (hF:zd0 num=some r):Pe Tryz.prog 142 (.w []) [.nils,.i num] (.row 22 0) ⟨[],[],[(22,.o 5 1 0 (r.map zan))],[],[]⟩:=by
 refine PT 27 [.tmp 4] [22] Tryz.func142 ?_
 intro Q g hfin
 unfold zd0 at hF
 refine LR0 ?_
 refine LR0 ?_
 obtain ⟨v,hv,hF⟩:=oE hF
 refine NmT (fun Z=>Z.up [0,1] [] [] [] [] [] [] []) ?_ ?_
 ·have hF:=hv
  refine Nif hF ?_ ?_ <;> intro hb hF
  ·cases hF
  ·cases hF
   exact met' []
 ·refine LR0 ?_
  refine NR [] [0,1,16] [] [] [(0,.nils),(1,.i (w64 (num - (w64 (0 - 0))))),(16,.bool (decide (0<(w64 (num - (w64 (0 - 0)))))))] .nil ?_
  obtain ⟨v1,hv,hF⟩:=oE hF
  refine Nmeet (⟨[(0,.row 22 0)],[],[(22,.o 5 1 0 (v1.map zan))],[],[]⟩:S) ?_ ?_
  ·have hF:=hv
   refine Nif hF ?_ ?_ <;> intro hb hF
   ·obtain ⟨h0,hF⟩:=aE hF
    obtain ⟨h1,hF⟩:=aE hF
    refine NRL ((List.replicate (w64 (num - (w64 (0 - 0)))).toNat ((0:UInt8):UInt8))) (fun v2:List UInt8=>([(0,.rowv 22 0 0 ((0:Int).toNat))],[],[(22,.z 5 1 0 (v2.map zan))],[])) [.xs ((List.replicate (w64 (num - (w64 (0 - 0)))).toNat ((0:UInt8):UInt8)).map zan),.vw ((0:Int).toNat)] [0] [] [22] [] (hc (rfl:(0:Int)=0) (hc h0 (hc (rep_ok zan (w64 (num - (w64 (0 - 0)))) ((0:UInt8):UInt8)) (hc (vw01_ok (cm:=0) zan h1) .nil)))) (fun v2 hv=>?_)
    have hF:=zev hF hv
    obtain ⟨h2,hF⟩:=aE hF
    refine Wk_truncL 0 22 0 ((0:Int).toNat) ((v2.take ((0:Int).toNat)).map zan) rfl rfl rfl rfl (tk_ok zan h2).1 (Nat.zero_le _) (List.map_take).symm ?_
    cases hF
    exact met' [(22,⟨0,false,true,false⟩)]
   ·refine zap 0 60000 5 1 rfl rfl rfl ?_
    refine zci (fs:=[0]) (bs:=[]) (rs:=[60000]) (ms:=[]) (aa:=[]) (nv:=[]) rfl ?_
    refine zat ⟨[],[(60000,22)],[],[]⟩ rfl ?_
    cases hF
    exact met' [(22,⟨0,true,false,false⟩)]
  ·refine LR0 ?_
   cases hF
   exact Wz [] hfin

/- slices.Concat[[]byte,byte] -/
def zd5 (v1:List UInt8):Option (List UInt8):=
 some v1
def zd9 (slices:List (List UInt8)) (v2:List UInt8×Int):Option ((List UInt8×Int)⊕(List UInt8)):=
 if (decide (v2.2<(slices.length:Int)))=true then
  zaq (0≤v2.2∧v2.2<(slices.length:Int)) <|
  zaq (((v2.1++(zaf slices v2.2)).length:Int)*1≤140737488351232) <|
  some (Sum.inl ((v2.1++(zaf slices v2.2)),w64 (v2.2+1)))
 else
  zem (zd5 v2.1)
def slices_Concat_byte_byte_L1 (slices:List (List UInt8)) (v0:List UInt8×Int):Option (List UInt8):=
 zbc (fun y=>zd9 slices y) v0
def zd6 (slices:List (List UInt8)) (v:Int):Option (List UInt8):=
 ob (zd0 v) fun x=>
 slices_Concat_byte_byte_L1 slices (x,0)
def zd8 (slices:List (List UInt8)) (v3:Int×Int):Option ((Int×Int)⊕(List UInt8)):=
 if (decide (v3.2<(slices.length:Int)))=true then
  zaq (0≤v3.2∧v3.2<(slices.length:Int)) <|
  ob (
   if (decide ((w64 (v3.1+((zaf slices v3.2).length:Int)))<0))=true then
    none
   else
    some ()) fun v4=>
  some (Sum.inl (w64 (v3.1+((zaf slices v3.2).length:Int)),w64 (v3.2+1)))
 else
  zem (zd6 slices v3.1)
def slices_Concat_byte_byte_L2 (slices:List (List UInt8)) (v0:Int×Int):Option (List UInt8):=
 zbc (fun y=>zd8 slices y) v0
def zex (slices:List (List UInt8)):Option (List UInt8):=
 slices_Concat_byte_byte_L2 slices (0,0)
theorem slices_Concat_byte_byte_ok {slices r} (hF:zex slices=some r):Pe Tryz.prog 111 (.w []) [.sl 1 (slices.map zag)] (.row 24 0) ⟨[],[],[(24,.o 5 1 0 (r.map zan))],[],[]⟩:=by
 refine PT 36 [.tmp 2] [22] Tryz.func111 ?_
 intro Q g hfin
 unfold zex at hF
 refine LR0 ?_
 refine LR0 ?_
 refine RJ (.l zag slices .z) ?_
 refine NmS (fun v=>zd6 slices v=some r) (fun Z v=>Z.up [0,3] [] [] [] [(3,.i v)] [] [] []) ?_ ?_
 ·refine zcb ?_
  unfold slices_Concat_byte_byte_L2 at hF
  refine Nits hF [] (fun Z v3=>Z.up [0,3,9,10,11] [] [] [] [(3,.i v3.1),(11,.i v3.2)] [] [] []) ?_
  intro n1 v3 y1 hF ih1 dn1
  unfold zd8 at hF
  refine LR0 ?_
  refine Nif hF ?_ ?_ <;> intro hb hF
  ·refine zcb ?_
   obtain ⟨h4,hF⟩:=aE hF
   refine RJ (.i zag h4 .z) ?_
   refine RJ (.l zan (zaf slices v3.2) .z) ?_
   refine LR0 ?_
   obtain ⟨v4,hv,hF⟩:=oE hF
   refine NmT (fun Z=>Z.up [0,3,9,10,11] [] [] [] [] [] [] []) ?_ ?_
   ·have hF:=hv
    refine Nif hF ?_ ?_ <;> intro hb hF
    ·cases hF
    ·cases hF
     exact met' []
   ·refine LR0 ?_
    exact Nrnq [] hF ih1
  ·refine zbv rfl ?_
   have hF:=zaj hF dn1
   exact ze6 v3.1 [] hF
 ·intro v hF
  unfold zd6 at hF
  obtain ⟨x,h0,hF⟩:=oE hF
  have p1:=(Pe.ren (slices_Grow_byte_byte_v1_ok h0) ⟨[],[(22,24)],[],[]⟩)
  refine RJ (.a (.raw [0]) (.a (cE [] [] [] [] p1) (.g p1 .z))) ?_
  refine RJ (.l zag slices .z) ?_
  refine NmS (fun v1=>zd5 v1=some r) (fun Z v1=>Z.up [6] [] [24] [] [] [] [(24,.o 5 1 0 (v1.map zan))] []) ?_ ?_
  ·refine zcb ?_
   unfold slices_Concat_byte_byte_L1 at hF
   refine Nits hF [] (fun Z v2=>Z.up [6,25,26,27] [] [24] [] [(27,.i v2.2)] [] [(24,.o 5 1 0 (v2.1.map zan))] []) ?_
   intro n1 v2 y1 hF ih1 dn1
   unfold zd9 at hF
   refine LR0 ?_
   refine Nif hF ?_ ?_ <;> intro hb hF
   ·refine zcb ?_
    obtain ⟨h2,hF⟩:=aE hF
    refine RJ (.i zag h2 .z) ?_
    obtain ⟨h3,hF⟩:=aE hF
    refine RJ (.p zan h3 .z) ?_
    refine LR0 ?_
    exact Nrnq [(24,⟨0,true,true,false⟩)] hF ih1
   ·refine zbv rfl ?_
    have hF:=zaj hF dn1
    exact ze6 v2.1 [] hF
  ·intro v1 hF
   unfold zd5 at hF
   refine LR0 ?_
   cases hF
   exact Wz [] hfin

/- disk.Append -/
def disk_Append (d:Disk) (b:List UInt8):Option (List UInt8×Int×Fault):=
 lt (disk_Check d) fun x=>
 if (!decide (x.Code=0))=true then
  some (([]:List UInt8),0,x)
 else
  if (decide (60000<(w64 ((d.Bytes.length:Int)+(b.length:Int)))))=true then
   lt (disk_fault 9 0) fun x1=>
   some (([]:List UInt8),0,x1)
  else
   ob (zex ([d.Bytes,b]:List (List UInt8))) fun x2=>
   some (x2,d.Kept,(⟨0,0⟩:Fault))
theorem disk_Append_ok {d b r} (hF:disk_Append d b=some r):Pe Tryz.prog 66 (.w []) [.agg (c_Disk d),.sl 1 (b.map zan)] (.tup [.agg [.row 27 0,.i r.2.1],.agg (zad r.2.2)]) ⟨[],[],[(27,.o 5 1 0 (r.1.map zan))],[],[]⟩:=by
 refine PT 32 [.cell 4 24,.cell 5 35] [24,35] Tryz.func66 ?_
 intro Q g hfin
 unfold disk_Append at hF
 refine LR0 ?_
 obtain ⟨x,h0,hF⟩:=lS hF
 refine RJ (.b (disk_Check_ok h0) .z) ?_
 refine LR0 ?_
 refine Nif hF ?_ ?_ <;> intro hb hF
 ·refine VD [] [4,5] [4,5] [] [] [(4,.ptr 4 0),(5,.ptr 5 0)] [(4,[.nils,.i 0]),(5,(zad x))] [] [] .nil ?_
  cases hF
  refine zar 4 0 60000 5 1 rfl rfl rfl rfl rfl ?_
  refine zat ⟨[],[(60000,27)],[],[]⟩ rfl ?_
  exact Wz [(27,⟨0,true,false,false⟩)] hfin
 ·refine RJ (.l zan d.Bytes (.l zan b .z)) ?_
  refine Nif hF ?_ ?_ <;> intro hb hF
  ·obtain ⟨x1,h1,hF⟩:=lS hF
   refine VR [.callB (.agg (zad x1))] [4,5] [4,5] [] [] [(4,.ptr 4 0),(5,.ptr 5 0)] [(4,[.nils,.i 0]),(5,(zad x1))] [] [] (hc (disk_fault_ok h1) .nil) ?_
   cases hF
   refine zar 4 0 60001 5 1 rfl rfl rfl rfl rfl ?_
   refine zat ⟨[],[(60001,27)],[],[]⟩ rfl ?_
   exact Wz [(27,⟨0,true,false,false⟩)] hfin
  ·obtain ⟨x2,h2,hF⟩:=oE hF
   have p3:=(Pe.ren (slices_Concat_byte_byte_ok h2) ⟨[],[(24,27)],[],[]⟩)
   refine DJ (.a (.sealed) (.e [] [] p3 .z)) ?_
   cases hF
   exact Wz [] hfin

/- (*tablet.tab).fill$1 -/
def tablet_tab_fill_1_v1 (num:Note) (box:Int) (box1:List (List UInt8)) (box2 box3 box4:Int) (row:List UInt8) (row1:List Note) (row2:List Cell) (row3:List (List Cell)):Bool:=
 decide (box2<num.Seq)
theorem tablet_tab_fill_1_v1_ok (rk rc:Nat) (rn:Bool) (rk1 rc1:Nat) (rn1:Bool) (rk2 rc2:Nat) (rn2:Bool) (rk3 rc3:Nat) (rn3:Bool) {num box box1 box2 box3 box4 row row1 row2 row3 r} (hF:tablet_tab_fill_1_v1 num box box1 box2 box3 box4 row row1 row2 row3=r):Pe Tryz.prog 115 ⟨[],[(100000,[.ptr 100001 0]),(100001,[.row 100000 0,.i box,.sl 1 (box1.map zag),.i box2,.i box3,.row 100001 0,.i box4,.row 100002 0,.row 100003 0])],[(100000,.q 5 1 0 rk rc rn (row.map zan)),(100001,.q 50 2 0 rk1 rc1 rn1 (row1.map zak)),(100002,.q 53 5 0 rk2 rc2 rn2 (row2.map zac)),(100003,.q 28 1 0 rk3 rc3 rn3 (row3.map zas))],[],[]⟩ [.agg (c_Note num),.ptr 100000 0] (.bool r) ⟨[],[(100000,[.ptr 100001 0]),(100001,[.row 100000 0,.i box,.sl 1 (box1.map zag),.i box2,.i box3,.row 100001 0,.i box4,.row 100002 0,.row 100003 0])],[(100000,.q 5 1 0 rk rc rn (row.map zan)),(100001,.q 50 2 0 rk1 rc1 rn1 (row1.map zak)),(100002,.q 53 5 0 rk2 rc2 rn2 (row2.map zac)),(100003,.q 28 1 0 rk3 rc3 rn3 (row3.map zas))],[],[]⟩:=by
 refine PT 12 [.tmp 3] [4] Tryz.func115 ?_
 intro Q g hfin
 unfold tablet_tab_fill_1_v1 at hF
 refine LR0 ?_
 refine LD0 ?_
 cases hF
 exact Wz [] hfin

/- slices.IndexFunc[[]api.Note,api.Note] -/
def zcz (v:Unit):Option Int:=
 some (-1)
def zec (box:Int) (box1:List (List UInt8)) (box2 box3 box4:Int) (row:List Note) (row1:List UInt8) (row2:List Cell) (row3:List (List Cell)) (v1:Int):Option (Int⊕Int):=
 if (decide (v1<(row.length:Int)))=true then
  zaq (0≤v1∧v1<(row.length:Int)) <|
  zaq (0≤v1∧v1<(row.length:Int)) <|
  lt (tablet_tab_fill_1_v1 (⟨(zaf row v1).Seq,(zaf row v1).Cells⟩:Note) box box1 box2 box3 box4 row1 row row2 row3) fun x=>
  if x=true then
   some (Sum.inr v1)
  else
   some (Sum.inl (w64 (v1+1)))
 else
  zem (zcz ())
def zed (box:Int) (box1:List (List UInt8)) (box2 box3 box4:Int) (row:List Note) (row1:List UInt8) (row2:List Cell) (row3:List (List Cell)) (v0:Int):Option Int:=
 zbc (fun y=>zec box box1 box2 box3 box4 row row1 row2 row3 y) v0
def zb8 (box:Int) (box1:List (List UInt8)) (box2 box3 box4:Int) (row:List Note) (row1:List UInt8) (row2:List Cell) (row3:List (List Cell)):Option Int:=
 zed box box1 box2 box3 box4 row row1 row2 row3 0
theorem slices_IndexFunc_api_Note_api_Note_v1_ok (rk rc:Nat) (rn:Bool) (rk1 rc1:Nat) (rn1:Bool) (rk2 rc2:Nat) (rn2:Bool) (rk3 rc3:Nat) (rn3:Bool) {box box1 box2 box3 box4 row row1 row2 row3 r} (hF:zb8 box box1 box2 box3 box4 row row1 row2 row3=some r):Pe Tryz.prog 114 ⟨[],[(100000,[.ptr 100001 0]),(100001,[.row 100001 0,.i box,.sl 1 (box1.map zag),.i box2,.i box3,.row 100000 0,.i box4,.row 100002 0,.row 100003 0])],[(100000,.q 50 2 0 rk rc rn (row.map zak)),(100001,.q 5 1 0 rk1 rc1 rn1 (row1.map zan)),(100002,.q 53 5 0 rk2 rc2 rn2 (row2.map zac)),(100003,.q 28 1 0 rk3 rc3 rn3 (row3.map zas))],[],[]⟩ [.row 100000 0,.fn 115 [.ptr 100000 0]] (.i r) ⟨[],[(100000,[.ptr 100001 0]),(100001,[.row 100001 0,.i box,.sl 1 (box1.map zag),.i box2,.i box3,.row 100000 0,.i box4,.row 100002 0,.row 100003 0])],[(100000,.q 50 2 0 rk rc rn (row.map zak)),(100001,.q 5 1 0 rk1 rc1 rn1 (row1.map zan)),(100002,.q 53 5 0 rk2 rc2 rn2 (row2.map zac)),(100003,.q 28 1 0 rk3 rc3 rn3 (row3.map zas))],[],[]⟩:=by
 refine PT 19 [.tmp 4] [3] Tryz.func114 ?_
 intro Q g hfin
 unfold zb8 at hF
 refine LR0 ?_
 refine RJ (.l zak row .z) ?_
 refine NmS (fun v=>zcz v=some r) (fun Z v=>Z.up [] [100000,100001] [100000,100001,100002,100003] [] [] [] [] []) ?_ ?_
 ·refine zcb ?_
  unfold zed at hF
  refine Nits hF [] (fun Z v1=>Z.up [0,1,7,8] [100000,100001] [100000,100001,100002,100003] [] [(8,.i v1)] [] [] []) ?_
  intro n1 v1 y1 hF ih1 dn1
  unfold zec at hF
  refine LR0 ?_
  refine Nif hF ?_ ?_ <;> intro hb hF
  ·refine zcb ?_
   refine LR0 ?_
   obtain ⟨h0,h1,hF⟩:=asrt2 hF
   obtain ⟨x,h2,hF⟩:=lS hF
   refine RJ (.x zak h0 (.r zak h1 (.q [100000,100001] [100001,100000,100002,100003] (Pe.ren (tablet_tab_fill_1_v1_ok rk1 rc1 rn1 rk rc rn rk2 rc2 rn2 rk3 rc3 rn3 h2) ⟨[],[(100000,100001)],[],[]⟩) .z))) ?_
   refine Nif hF ?_ ?_ <;> intro hb hF
   ·refine LR0 ?_
    have hF:=zc0 hF dn1
    cases hF
    exact Wz [] hfin
   ·refine LR0 ?_
    exact Nrnq [] hF ih1
  ·refine zbv rfl ?_
   have hF:=zaj hF dn1
   exact ze6 () [] hF
 ·intro v hF
  unfold zcz at hF
  refine LR0 ?_
  cases hF
  exact Wz [] hfin

/- (*tablet.tab).lists -/
def tablet_tab_lists_v1 (box:Int) (box1:List (List UInt8)) (box2 box3 box4:Int) (row:List UInt8) (row1:List Note) (row2:List Cell) (row3:List (List Cell)):Option (List (List Cell)×List Cell):=
 zaq (((([row2]:List (List Cell))++row3).length:Int)*24≤140737488351232) <|
 some ((([row2]:List (List Cell))++row3),row2)
theorem tablet_tab_lists_v1_ok (rk rc:Nat) (rn:Bool) (rk1 rc1:Nat) (rn1:Bool) (rk2 rc2:Nat) (rn2:Bool) (rk3 rc3:Nat) (rn3:Bool) {box box1 box2 box3 box4 row row1 row2 row3 r} (hF:tablet_tab_lists_v1 box box1 box2 box3 box4 row row1 row2 row3=some r):Pe Tryz.prog 132 ⟨[],[(100000,[.row 100000 0,.i box,.sl 1 (box1.map zag),.i box2,.i box3,.row 100001 0,.i box4,.row 100002 0,.row 100003 0])],[(100000,.q 5 1 0 rk rc rn (row.map zan)),(100001,.q 50 2 0 rk1 rc1 rn1 (row1.map zak)),(100002,.q 53 5 0 rk2 rc2 rn2 (row2.map zac)),(100003,.q 28 1 0 rk3 rc3 rn3 (row3.map zas))],[],[]⟩ [.ptr 100000 0] (.row 7 1) ⟨[],[(100000,[.row 100000 0,.i box,.sl 1 (box1.map zag),.i box2,.i box3,.row 100001 0,.i box4,.row 100002 0,.row 100003 0])],[(100000,.q 5 1 0 rk rc rn (row.map zan)),(100001,.q 50 2 0 rk1 rc1 rn1 (row1.map zak)),(100002,⟨53,5,0,(r.2.map zac).length,rc2,rn2,0,[],(r.2.map zac)⟩),(100003,.q 28 1 0 rk3 rc3 rn3 (row3.map zas)),(7,.z 28 1 1 (r.1.map zas))],[],[]⟩:=by
 refine PT 13 [.tmp 2] [42] Tryz.func132 ?_
 intro Q g hfin
 unfold tablet_tab_lists_v1 at hF
 refine LR0 ?_
 obtain ⟨h0,hF⟩:=aE hF
 refine DJ (.p zas h0 .z) ?_
 cases hF
 exact Wz [] hfin

/- (*tablet.tab).all -/
def tablet_tab_all_v1 (box:Int) (box1:List (List UInt8)) (box2 box3 box4:Int) (row:List UInt8) (row1:List Note) (row2:List Cell) (row3:List (List Cell)):Option (List Cell×List Cell):=
 ob (tablet_tab_lists_v1 box box1 box2 box3 box4 row row1 row2 row3) fun x=>
 ob (cell_Merge x.1) fun x1=>
 some (x1,x.2)
theorem tablet_tab_all_v1_ok (rk rc:Nat) (rn:Bool) (rk1 rc1:Nat) (rn1:Bool) (rk2 rc2:Nat) (rn2:Bool) (rk3 rc3:Nat) (rn3:Bool) {box box1 box2 box3 box4 row row1 row2 row3 r} (hF:tablet_tab_all_v1 box box1 box2 box3 box4 row row1 row2 row3=some r):Pe Tryz.prog 92 ⟨[],[(100000,[.row 100000 0,.i box,.sl 1 (box1.map zag),.i box2,.i box3,.row 100001 0,.i box4,.row 100002 0,.row 100003 0])],[(100000,.q 5 1 0 rk rc rn (row.map zan)),(100001,.q 50 2 0 rk1 rc1 rn1 (row1.map zak)),(100002,.q 53 5 0 rk2 rc2 rn2 (row2.map zac)),(100003,.q 28 1 0 rk3 rc3 rn3 (row3.map zas))],[],[]⟩ [.ptr 100000 0] (.row 5 1) ⟨[],[(100000,[.row 100000 0,.i box,.sl 1 (box1.map zag),.i box2,.i box3,.row 100001 0,.i box4,.row 100002 0,.row 100003 0])],[(100000,.q 5 1 0 rk rc rn (row.map zan)),(100001,.q 50 2 0 rk1 rc1 rn1 (row1.map zak)),(100002,⟨53,5,0,(r.2.map zac).length,rc2,rn2,0,[],(r.2.map zac)⟩),(100003,.q 28 1 0 rk3 rc3 rn3 (row3.map zas)),(5,.o 53 5 1 (r.1.map zac))],[],[]⟩:=by
 refine PT 6 [.tmp 2] [28] Tryz.func92 ?_
 intro Q g hfin
 unfold tablet_tab_all_v1 at hF
 refine LR0 ?_
 obtain ⟨x,h0,hF⟩:=oE hF
 have p1:=(Pe.ren (tablet_tab_lists_v1_ok rk rc rn rk1 rc1 rn1 rk2 rc2 rn2 rk3 rc3 rn3 h0) ⟨[],[(7,4)],[],[]⟩)
 obtain ⟨x1,h2,hF⟩:=oE hF
 have p3:=(Pe.ren (cell_Merge_ok h2) ⟨[],[],[],[]⟩)
 refine RJ (.e [100000] [100000,100001,100002,100003] p1 (.e [] [] p3 .z)) ?_
 cases hF
 exact Wz [] hfin

/- (*tablet.tab).fill -/
def tablet_tab_fill_v1 (box:Int) (box1:List (List UInt8)) (box2 box3 box4:Int) (row:List UInt8) (row1:List Note) (row2:List Cell) (row3:List (List Cell)):Option (Fault×Int×List (List UInt8)×Int×Int×List Note×Int×List Cell):=
 ob (zb8 box box1 box2 box3 box4 row1 row row2 row3) fun x=>
 ob (
  if (decide (0≤x))=true then
   zaq (0≤x∧x≤(row1.length:Int)) <|
   ob (wal_Put ([]:List Cell) (zdu row1 x)) fun x1=>
   some (x1,(⟨0,0⟩:Fault))
  else
   some (([]:List Cell),(⟨0,0⟩:Fault))) fun (v:List Cell×Fault)=>
 if (decide (500<(v.1.length:Int)))=true then
  lt (zc2 9 (-2)) fun x2=>
  some (x2,box,box1,box2,box3,row1,box4,v.1)
 else
  ob (tablet_tab_all_v1 box box1 box2 box3 box4 row row1 v.1 row3) fun x3=>
  if (decide (1000<(x3.1.length:Int)))=true then
   lt (zc2 9 (-1)) fun x4=>
   some (x4,box,box1,box2,box3,row1,box4,x3.2)
  else
   some ((⟨0,0⟩:Fault),box,box1,box2,box3,row1,box4,x3.2)
theorem tablet_tab_fill_v1_ok (rk rc:Nat) (rn:Bool) (rk1 rc1:Nat) (rn1:Bool) (rk2 rc2:Nat) (rn2:Bool) (rk3 rc3:Nat) (rn3:Bool) {box box1 box2 box3 box4 row row1 row2 row3 r} (hF:tablet_tab_fill_v1 box box1 box2 box3 box4 row row1 row2 row3=some r):Pe Tryz.prog 68 ⟨[],[(100000,[.row 100000 0,.i box,.sl 1 (box1.map zag),.i box2,.i box3,.row 100001 0,.i box4,.row 100002 0,.row 100003 0])],[(100000,.q 5 1 0 rk rc rn (row.map zan)),(100001,.q 50 2 0 rk1 rc1 rn1 (row1.map zak)),(100002,.q 53 5 0 rk2 rc2 rn2 (row2.map zac)),(100003,.q 28 1 0 rk3 rc3 rn3 (row3.map zas))],[],[]⟩ [.ptr 100000 0] (.agg (zad r.1)) ⟨[],[(100000,[.row 100000 0,.i r.2.1,.sl 1 (r.2.2.1.map zag),.i r.2.2.2.1,.i r.2.2.2.2.1,.row 100001 0,.i r.2.2.2.2.2.2.1,.row 22 0,.row 100003 0])],[(100000,.q 5 1 0 rk rc rn (row.map zan)),(100001,⟨50,2,0,(r.2.2.2.2.2.1.map zak).length,rc1,rn1,0,[],(r.2.2.2.2.2.1.map zak)⟩),(100002,.q 53 5 0 rk2 rc2 rn2 (row2.map zac)),(100003,.q 28 1 0 rk3 rc3 rn3 (row3.map zas)),(22,⟨53,5,0,(r.2.2.2.2.2.2.2.map zac).length,0,false,0,[],(r.2.2.2.2.2.2.2.map zac)⟩)],[],[]⟩:=by
 refine PT 38 [.cell 2 35] [35] Tryz.func68 ?_
 intro Q g hfin
 unfold tablet_tab_fill_v1 at hF
 refine LR0 ?_
 obtain ⟨x,h0,hF⟩:=oE hF
 refine RJ (.q [1,100000] [100001,100000,100002,100003] (Pe.ren (slices_IndexFunc_api_Note_api_Note_v1_ok rk1 rc1 rn1 rk rc rn rk2 rc2 rn2 rk3 rc3 rn3 h0) ⟨[(100000,1),(100001,100000)],[(100000,100001)],[],[]⟩) .z) ?_
 refine LR0 ?_
 refine VR [] [1,2,3,14] [1,2,100000] [100000,100001,100002,100003] [] [(1,.ptr 1 0),(2,.ptr 2 0),(3,.i x),(14,.bool (decide (0≤x)))] [(1,[.ptr 100000 0]),(2,[.i 0,.i 0]),(100000,[.row 100000 0,.i box,.sl 1 (box1.map zag),.i box2,.i box3,.row 100001 0,.i box4,.nils,.row 100003 0])] [(100000,.q 5 1 0 rk rc rn (row.map zan)),(100001,.q 50 2 0 rk1 rc1 rn1 (row1.map zak)),(100002,.q 53 5 0 rk2 rc2 rn2 (row2.map zac)),(100003,.q 28 1 0 rk3 rc3 rn3 (row3.map zas))] [] .nil ?_
 obtain ⟨v,hv,hF⟩:=oE hF
 refine NmT (fun Z=>Z.up [1,2] [1,2,100000] [22,100000,100001,100002,100003] [] [] [(2,(zad v.2)),(100000,[.row 100000 0,.i box,.sl 1 (box1.map zag),.i box2,.i box3,.row 100001 0,.i box4,.row 22 0,.row 100003 0])] [(22,.o 53 5 0 (v.1.map zac)),(100001,⟨50,2,0,(row1.map zak).length,rc1,rn1,0,[],(row1.map zak)⟩)] []) ?_ ?_
 ·have hF:=hv
  refine Nif hF ?_ ?_ <;> intro hb hF
  ·obtain ⟨h1,hF⟩:=aE hF
   obtain ⟨x1,h2,hF⟩:=oE hF
   have p3:=(Pe.ren (wal_Put_ok ([]:List Cell) (zdu row1 x) x1 h2) ⟨[],[(5,22)],[],[]⟩)
   refine DJ (.s10 zak h1 (.e [] [] p3 .z)) ?_
   cases hF
   exact met' [(22,⟨0,true,true,false⟩)]
  ·refine zar 100000 7 60000 53 5 rfl rfl rfl rfl rfl ?_
   refine zci (fs:=[1,2]) (bs:=[1,2,100000]) (rs:=[60000,100000,100001,100002,100003]) (ms:=[]) (aa:=[]) (nv:=[]) rfl ?_
   refine zat ⟨[],[(60000,22)],[],[]⟩ rfl ?_
   cases hF
   exact met' [(22,⟨0,true,false,false⟩),(100001,⟨0,true,true,true⟩)]
 ·refine RJ (.l zac v.1 .z) ?_
  refine Nif hF ?_ ?_ <;> intro hb hF
  ·obtain ⟨x2,h4,hF⟩:=lS hF
   refine RJ (.b (za9 h4) .z) ?_
   cases hF
   exact Wz [(22,⟨0,true,true,true⟩)] hfin
  ·obtain ⟨x3,h5,hF⟩:=oE hF
   have p6:=(Pe.ren (tablet_tab_all_v1_ok rk rc rn ((row1.map zak).length) rc1 rn1 0 0 false rk3 rc3 rn3 h5) ⟨[],[(100002,22),(5,33)],[],[]⟩)
   refine RJ (.e [100000] [100000,100001,22,100003] p6 (.l zac x3.1 .z)) ?_
   refine Nif hF ?_ ?_ <;> intro hb hF
   ·obtain ⟨x4,h7,hF⟩:=lS hF
    refine RJ (.b (za9 h7) .z) ?_
    cases hF
    exact Wz [(100001,⟨0,true,true,true⟩)] hfin
   ·refine LR0 ?_
    cases hF
    exact Wz [(100001,⟨0,true,true,true⟩)] hfin

end
end G
end Go.Proofs.YticbfakiihfgmaaGreat
