/- The program's functions as plain functions, and that they are these. Written by a program (dec2.py). -/
import Derived.Test.YtnibbgjoanbnmaaGf1
namespace Go.Proofs.Ytnibbgjoanbnmaa
open Go Go.Dm
set_option linter.unusedVariables false
set_option linter.unusedSimpArgs false
set_option maxRecDepth 100000
namespace G
noncomputable section
/- slices.symMergeCmpFunc[int] -/
def slices_symMergeCmpFunc_int_v1_J2 (v1:List Int):Option (List Int):=
 some v1
def slices_symMergeCmpFunc_int_v1_B1 (v:Int) (v2:List Int×Int):Option ((List Int×Int)⊕(List Int)):=
 if (decide (v2.2<(w64 (v - 1))))=true then
  asrt (0≤w64 (v2.2+1)∧w64 (v2.2+1)<(v2.1.length:Int)) <|
  asrt (0≤w64 (v2.2+1)∧w64 (v2.2+1)<(v2.1.length:Int)) <|
  asrt (0≤v2.2∧v2.2<(v2.1.length:Int)) <|
  asrt (0≤v2.2∧v2.2<(v2.1.length:Int)) <|
  asrt (0≤v2.2∧v2.2<(v2.1.length:Int)) <|
  asrt (0≤v2.2∧v2.2<(v2.1.length:Int)) <|
  asrt (0≤w64 (v2.2+1)∧w64 (v2.2+1)<((lset v2.1 v2.2 (lget v2.1 (w64 (v2.2+1)))).length:Int)) <|
  asrt (0≤w64 (v2.2+1)∧w64 (v2.2+1)<((lset v2.1 v2.2 (lget v2.1 (w64 (v2.2+1)))).length:Int)) <|
  lt ((lset (lset v2.1 v2.2 (lget v2.1 (w64 (v2.2+1)))) (w64 (v2.2+1)) (lget v2.1 v2.2))) fun v3=>
  some (Sum.inl (v3,w64 (v2.2+1)))
 else
  inrO (slices_symMergeCmpFunc_int_v1_J2 v2.1)
def slices_symMergeCmpFunc_int_v1_L1 (v:Int) (v0:List Int×Int):Option (List Int):=
 loopO (fun y=>slices_symMergeCmpFunc_int_v1_B1 v y) v0
def slices_symMergeCmpFunc_int_v1_J1 (a0:Int) (row:List Int) (v:Int):Option (List Int):=
 slices_symMergeCmpFunc_int_v1_L1 v (row,a0)
def slices_symMergeCmpFunc_int_v1_B2 (a0:Int) (box:List Span) (row:List Int) (v4:Int×Int):Option ((Int×Int)⊕(List Int)):=
 if (decide (v4.1<v4.2))=true then
  lt (w64 (Int.fdiv (IntKind.u64.wrap (w64 (v4.1+v4.2))) (2 ^ (min (1:Int).toNat 64)))) fun v5=>
  asrt (0≤v5∧v5<(row.length:Int)) <|
  asrt (0≤v5∧v5<(row.length:Int)) <|
  asrt (0≤a0∧a0<(row.length:Int)) <|
  asrt (0≤a0∧a0<(row.length:Int)) <|
  ob (history_Order_2 (lget row v5) (lget row a0) box) fun x=>
  if (decide (x<0))=true then
   some (Sum.inl (w64 (v5+1),v4.2))
  else
   some (Sum.inl (v4.1,v5))
 else
  inrO (slices_symMergeCmpFunc_int_v1_J1 a0 row v4.1)
def slices_symMergeCmpFunc_int_v1_L2 (a0:Int) (box:List Span) (row:List Int) (v0:Int×Int):Option (List Int):=
 loopO (fun y=>slices_symMergeCmpFunc_int_v1_B2 a0 box row y) v0
def slices_symMergeCmpFunc_int_v1_J4 (v7:List Int):Option (List Int):=
 some v7
def slices_symMergeCmpFunc_int_v1_B3 (v6:Int) (v8:List Int×Int):Option ((List Int×Int)⊕(List Int)):=
 if (decide (v6<v8.2))=true then
  asrt (0≤w64 (v8.2 - 1)∧w64 (v8.2 - 1)<(v8.1.length:Int)) <|
  asrt (0≤w64 (v8.2 - 1)∧w64 (v8.2 - 1)<(v8.1.length:Int)) <|
  asrt (0≤v8.2∧v8.2<(v8.1.length:Int)) <|
  asrt (0≤v8.2∧v8.2<(v8.1.length:Int)) <|
  asrt (0≤v8.2∧v8.2<(v8.1.length:Int)) <|
  asrt (0≤v8.2∧v8.2<(v8.1.length:Int)) <|
  asrt (0≤w64 (v8.2 - 1)∧w64 (v8.2 - 1)<((lset v8.1 v8.2 (lget v8.1 (w64 (v8.2 - 1)))).length:Int)) <|
  asrt (0≤w64 (v8.2 - 1)∧w64 (v8.2 - 1)<((lset v8.1 v8.2 (lget v8.1 (w64 (v8.2 - 1)))).length:Int)) <|
  lt ((lset (lset v8.1 v8.2 (lget v8.1 (w64 (v8.2 - 1)))) (w64 (v8.2 - 1)) (lget v8.1 v8.2))) fun v9=>
  some (Sum.inl (v9,w64 (v8.2 - 1)))
 else
  inrO (slices_symMergeCmpFunc_int_v1_J4 v8.1)
def slices_symMergeCmpFunc_int_v1_L3 (v6:Int) (v0:List Int×Int):Option (List Int):=
 loopO (fun y=>slices_symMergeCmpFunc_int_v1_B3 v6 y) v0
def slices_symMergeCmpFunc_int_v1_J3 (m:Int) (row:List Int) (v6:Int):Option (List Int):=
 slices_symMergeCmpFunc_int_v1_L3 v6 (row,m)
def slices_symMergeCmpFunc_int_v1_B4 (m:Int) (box:List Span) (row:List Int) (v10:Int×Int):Option ((Int×Int)⊕(List Int)):=
 if (decide (v10.1<v10.2))=true then
  lt (w64 (Int.fdiv (IntKind.u64.wrap (w64 (v10.1+v10.2))) (2 ^ (min (1:Int).toNat 64)))) fun v11=>
  asrt (0≤m∧m<(row.length:Int)) <|
  asrt (0≤m∧m<(row.length:Int)) <|
  asrt (0≤v11∧v11<(row.length:Int)) <|
  asrt (0≤v11∧v11<(row.length:Int)) <|
  ob (history_Order_2 (lget row m) (lget row v11) box) fun x1=>
  if (!(decide (x1<0)))=true then
   some (Sum.inl (w64 (v11+1),v10.2))
  else
   some (Sum.inl (v10.1,v11))
 else
  inrO (slices_symMergeCmpFunc_int_v1_J3 m row v10.1)
def slices_symMergeCmpFunc_int_v1_L4 (m:Int) (box:List Span) (row:List Int) (v0:Int×Int):Option (List Int):=
 loopO (fun y=>slices_symMergeCmpFunc_int_v1_B4 m box row y) v0
def slices_symMergeCmpFunc_int_v1_J5 (a0 m b:Int) (box:List Span) (row:List Int) (rec:(Int×Int×Int×List Span×List Int)→Option (List Int)) (v12 v14:Int):Option (List Int):=
 ob (
  if ((decide (v14<m))&&(decide (m<(w64 ((w64 (v12+m)) - v14)))))=true then
   ob (slices_rotateCmpFunc_int_v1 v14 m (w64 ((w64 (v12+m)) - v14)) box row) fun x2=>
   some x2
  else
   some row) fun v15=>
 ob (
  if ((decide (a0<v14))&&(decide (v14<v12)))=true then
   ob (rec (a0,v14,v12,box,v15)) fun x3=>
   some x3
  else
   some v15) fun v16=>
 if ((decide (v12<(w64 ((w64 (v12+m)) - v14))))&&(decide ((w64 ((w64 (v12+m)) - v14))<b)))=true then
  ob (rec (v12,w64 ((w64 (v12+m)) - v14),b,box,v16)) fun x4=>
  some x4
 else
  some v16
def slices_symMergeCmpFunc_int_v1_B5 (a0 m b:Int) (box:List Span) (row:List Int) (rec:(Int×Int×Int×List Span×List Int)→Option (List Int)) (v12:Int) (v17:Int×Int):Option ((Int×Int)⊕(List Int)):=
 if (decide (v17.1<v17.2))=true then
  lt (w64 (Int.fdiv (IntKind.u64.wrap (w64 (v17.1+v17.2))) (2 ^ (min (1:Int).toNat 64)))) fun v18=>
  asrt (0≤w64 ((w64 ((w64 (v12+m)) - 1)) - v18)∧w64 ((w64 ((w64 (v12+m)) - 1)) - v18)<(row.length:Int)) <|
  asrt (0≤w64 ((w64 ((w64 (v12+m)) - 1)) - v18)∧w64 ((w64 ((w64 (v12+m)) - 1)) - v18)<(row.length:Int)) <|
  asrt (0≤v18∧v18<(row.length:Int)) <|
  asrt (0≤v18∧v18<(row.length:Int)) <|
  ob (history_Order_2 (lget row (w64 ((w64 ((w64 (v12+m)) - 1)) - v18))) (lget row v18) box) fun x5=>
  if (!(decide (x5<0)))=true then
   some (Sum.inl (w64 (v18+1),v17.2))
  else
   some (Sum.inl (v17.1,v18))
 else
  inrO (slices_symMergeCmpFunc_int_v1_J5 a0 m b box row rec v12 v17.1)
def slices_symMergeCmpFunc_int_v1_L5 (a0 m b:Int) (box:List Span) (row:List Int) (rec:(Int×Int×Int×List Span×List Int)→Option (List Int)) (v12:Int) (v0:Int×Int):Option (List Int):=
 loopO (fun y=>slices_symMergeCmpFunc_int_v1_B5 a0 m b box row rec v12 y) v0
def slices_symMergeCmpFunc_int_v1_S (rec:(Int×Int×Int×List Span×List Int)→Option (List Int)) (a0 m b:Int) (box:List Span) (row:List Int):Option (List Int):=
 if (decide ((w64 (m - a0))=1))=true then
  slices_symMergeCmpFunc_int_v1_L2 a0 box row (m,b)
 else
  if (decide ((w64 (b - m))=1))=true then
   slices_symMergeCmpFunc_int_v1_L4 m box row (a0,m)
  else
   lt (w64 (Int.fdiv (IntKind.u64.wrap (w64 (a0+b))) (2 ^ (min (1:Int).toNat 64)))) fun v12=>
   ob (
    if (decide (v12<m))=true then
     some (w64 ((w64 (v12+m)) - b),v12)
    else
     some (a0,m)) fun v13=>
   slices_symMergeCmpFunc_int_v1_L5 a0 m b box row rec v12 (v13.1,v13.2)
def slices_symMergeCmpFunc_int_v1 (a0 m b:Int) (box:List Span) (row:List Int):Option (List Int):=recO (fun rec (x:Int×Int×Int×List Span×List Int)=>slices_symMergeCmpFunc_int_v1_S rec x.1 x.2.1 x.2.2.1 x.2.2.2.1 x.2.2.2.2) (a0,m,b,box,row)
theorem slices_symMergeCmpFunc_int_v1_ok (rk rc:Nat) (rn:Bool) {a0 m b box row r} (hF:slices_symMergeCmpFunc_int_v1 a0 m b box row=some r):Pe Try.prog 53 ⟨[],[(100000,[.sl 4 (box.map e_Span)])],[(100000,.q 3 1 0 0 rc rn (row.map e_i64))],[],[]⟩ [.row 100000 0,.i a0,.i m,.i b,.fn 35 [.ptr 100000 0]] (.tup []) ⟨[],[(100000,[.sl 4 (box.map e_Span)])],[(100000,.q 3 1 0 0 rc rn (r.map e_i64))],[],[]⟩:=by
 have key:∀ (k:Nat) (x:Int×Int×Int×List Span×List Int) (rk:Nat) (rc:Nat) (rn:Bool) (r:List Int),fuelO (fun rec (x:Int×Int×Int×List Span×List Int)=>slices_symMergeCmpFunc_int_v1_S rec x.1 x.2.1 x.2.2.1 x.2.2.2.1 x.2.2.2.2) k x=some r→Pe Try.prog 53 ⟨[],[(100000,[.sl 4 (x.2.2.2.1.map e_Span)])],[(100000,.q 3 1 0 0 rc rn (x.2.2.2.2.map e_i64))],[],[]⟩ [.row 100000 0,.i x.1,.i x.2.1,.i x.2.2.1,.fn 35 [.ptr 100000 0]] (.tup []) ⟨[],[(100000,[.sl 4 (x.2.2.2.1.map e_Span)])],[(100000,.q 3 1 0 0 rc rn (r.map e_i64))],[],[]⟩:=by
  intro k
  induction k with
  | zero=>intro x rk rc rn r hF; cases hF
  | succ k ih=>
   intro x rk rc rn r hF
   have hF:slices_symMergeCmpFunc_int_v1_S (fuelO (fun rec (x:Int×Int×Int×List Span×List Int)=>slices_symMergeCmpFunc_int_v1_S rec x.1 x.2.1 x.2.2.1 x.2.2.2.1 x.2.2.2.2) k) x.1 x.2.1 x.2.2.1 x.2.2.2.1 x.2.2.2.2=some r:=hF
   generalize fuelO (fun rec (x:Int×Int×Int×List Span×List Int)=>slices_symMergeCmpFunc_int_v1_S rec x.1 x.2.1 x.2.2.1 x.2.2.2.1 x.2.2.2.2) k=rec at ih hF
   obtain ⟨a0,m,b,box,row⟩:=x
   simp only at hF ⊢
   refine PT 220 [] [] Try.func53 ?_
   intro Q g hfin
   unfold slices_symMergeCmpFunc_int_v1_S at hF
   refine LR0 ?_
   refine Nif hF ?_ ?_ <;> intro hb hF
   ·refine LR0 ?_
    refine LR0 ?_
    refine NmS (fun v=>slices_symMergeCmpFunc_int_v1_J1 a0 row v=some r) (fun Z v=>Z.up [0,1,10] [100000] [100000] [] [(10,.i v)] [] [] []) ?_ ?_
    ·refine Nblk ?_
     unfold slices_symMergeCmpFunc_int_v1_L2 at hF
     refine Nits hF [] (fun Z v4=>Z.up [0,1,4,10,11] [100000] [100000] [] [(10,.i v4.1),(11,.i v4.2)] [] [] []) ?_
     intro n1 v4 y1 hF ih1 dn1
     unfold slices_symMergeCmpFunc_int_v1_B2 at hF
     refine LR0 ?_
     refine Nif hF ?_ ?_ <;> intro hb hF
     ·refine Nblk ?_
      refine NRL (w64 (Int.fdiv (IntKind.u64.wrap (w64 (v4.1+v4.2))) (2 ^ (min (1:Int).toNat 64)))) (fun v5:Int=>([(12,.i v5)],[],[],[])) [] [0,1,4,10,11,12] [100000] [100000] [] (hc (by decide:(0:Int)≤1) .nil) (fun v5 hv=>?_)
      have hF:=lt_elim hF hv
      obtain ⟨h8,h9,h10,h11,hF⟩:=asrt4 hF
      obtain ⟨x,h12,hF⟩:=oE hF
      refine DJ (.x e_i64 h8 (.r e_i64 h9 (.x e_i64 h10 (.r e_i64 h11 (.q [100000] [] (Pe.ren (history_Order_2_ok h12) ⟨[],[],[],[]⟩) .z))))) ?_
      refine Nif hF ?_ ?_ <;> intro hb hF
      ·refine LR0 ?_
       exact Nrnq [] hF ih1
      ·refine LR0 ?_
       exact Nrnq [] hF ih1
     ·refine Nexit rfl ?_
      have hF:=inrO_done hF dn1
      exact metQ v4.1 [] hF
    ·intro v hF
     unfold slices_symMergeCmpFunc_int_v1_J1 at hF
     refine LR0 ?_
     refine NmS (fun v1=>slices_symMergeCmpFunc_int_v1_J2 v1=some r) (fun Z v1=>Z.up [] [100000] [100000] [] [] [] [(100000,.q 3 1 0 0 rc rn (v1.map e_i64))] []) ?_ ?_
     ·refine Nblk ?_
      unfold slices_symMergeCmpFunc_int_v1_L1 at hF
      refine Nits hF [] (fun Z v2=>Z.up [0,10,13] [100000] [100000] [] [(13,.i v2.2)] [] [(100000,.q 3 1 0 0 rc rn (v2.1.map e_i64))] []) ?_
      intro n1 v2 y1 hF ih1 dn1
      unfold slices_symMergeCmpFunc_int_v1_B1 at hF
      refine LR0 ?_
      refine Nif hF ?_ ?_ <;> intro hb hF
      ·refine Nblk ?_
       obtain ⟨h0,h1,h2,h3,hF⟩:=asrt4 hF
       obtain ⟨h4,h5,h6,h7,hF⟩:=asrt4 hF
       obtain ⟨v3,hv,hF⟩:=lS hF
       refine DJ (.x e_i64 h0 (.r e_i64 h1 (.x e_i64 h2 (.r e_i64 h3 (.x e_i64 h4 (.w e_i64 h5 (lget v2.1 (w64 (v2.2+1))) (.x e_i64 h6 (.wN e_i64 h7 hv .z)))))))) ?_
       refine LR0 ?_
       exact Nrnq [] hF ih1
      ·refine Nexit rfl ?_
       have hF:=inrO_done hF dn1
       exact metQ v2.1 [] hF
     ·intro v1 hF
      unfold slices_symMergeCmpFunc_int_v1_J2 at hF
      cases hF
      exact Wz [] hfin
   ·refine LR0 ?_
    refine Nif hF ?_ ?_ <;> intro hb hF
    ·refine LR0 ?_
     refine LR0 ?_
     refine NmS (fun v6=>slices_symMergeCmpFunc_int_v1_J3 m row v6=some r) (fun Z v6=>Z.up [0,2,14] [100000] [100000] [] [(14,.i v6)] [] [] []) ?_ ?_
     ·refine Nblk ?_
      unfold slices_symMergeCmpFunc_int_v1_L4 at hF
      refine Nits hF [] (fun Z v10=>Z.up [0,2,4,14,15] [100000] [100000] [] [(14,.i v10.1),(15,.i v10.2)] [] [] []) ?_
      intro n1 v10 y1 hF ih1 dn1
      unfold slices_symMergeCmpFunc_int_v1_B4 at hF
      refine LR0 ?_
      refine Nif hF ?_ ?_ <;> intro hb hF
      ·refine Nblk ?_
       refine NRL (w64 (Int.fdiv (IntKind.u64.wrap (w64 (v10.1+v10.2))) (2 ^ (min (1:Int).toNat 64)))) (fun v11:Int=>([(16,.i v11)],[],[],[])) [] [0,2,4,14,15,16] [100000] [100000] [] (hc (by decide:(0:Int)≤1) .nil) (fun v11 hv=>?_)
       have hF:=lt_elim hF hv
       obtain ⟨h21,h22,h23,h24,hF⟩:=asrt4 hF
       obtain ⟨x1,h25,hF⟩:=oE hF
       refine DJ (.x e_i64 h21 (.r e_i64 h22 (.x e_i64 h23 (.r e_i64 h24 (.q [100000] [] (Pe.ren (history_Order_2_ok h25) ⟨[],[],[],[]⟩) .z))))) ?_
       refine Nif hF ?_ ?_ <;> intro hb hF
       ·refine LR0 ?_
        exact Nrnq [] hF ih1
       ·refine LR0 ?_
        exact Nrnq [] hF ih1
      ·refine Nexit rfl ?_
       have hF:=inrO_done hF dn1
       exact metQ v10.1 [] hF
     ·intro v6 hF
      unfold slices_symMergeCmpFunc_int_v1_J3 at hF
      refine LR0 ?_
      refine NmS (fun v7=>slices_symMergeCmpFunc_int_v1_J4 v7=some r) (fun Z v7=>Z.up [] [100000] [100000] [] [] [] [(100000,.q 3 1 0 0 rc rn (v7.map e_i64))] []) ?_ ?_
      ·refine Nblk ?_
       unfold slices_symMergeCmpFunc_int_v1_L3 at hF
       refine Nits hF [] (fun Z v8=>Z.up [0,14,17] [100000] [100000] [] [(17,.i v8.2)] [] [(100000,.q 3 1 0 0 rc rn (v8.1.map e_i64))] []) ?_
       intro n1 v8 y1 hF ih1 dn1
       unfold slices_symMergeCmpFunc_int_v1_B3 at hF
       refine LR0 ?_
       refine Nif hF ?_ ?_ <;> intro hb hF
       ·refine Nblk ?_
        obtain ⟨h13,h14,h15,h16,hF⟩:=asrt4 hF
        obtain ⟨h17,h18,h19,h20,hF⟩:=asrt4 hF
        obtain ⟨v9,hv,hF⟩:=lS hF
        refine DJ (.x e_i64 h13 (.r e_i64 h14 (.x e_i64 h15 (.r e_i64 h16 (.x e_i64 h17 (.w e_i64 h18 (lget v8.1 (w64 (v8.2 - 1))) (.x e_i64 h19 (.wN e_i64 h20 hv .z)))))))) ?_
        refine LR0 ?_
        exact Nrnq [] hF ih1
       ·refine Nexit rfl ?_
        have hF:=inrO_done hF dn1
        exact metQ v8.1 [] hF
      ·intro v7 hF
       unfold slices_symMergeCmpFunc_int_v1_J4 at hF
       cases hF
       exact Wz [] hfin
    ·refine NRL (w64 (Int.fdiv (IntKind.u64.wrap (w64 (a0+b))) (2 ^ (min (1:Int).toNat 64)))) (fun v12:Int=>([(18,.i v12)],[],[],[])) [] [0,1,2,3,4,18] [100000] [100000] [] (hc (by decide:(0:Int)≤1) .nil) (fun v12 hv=>?_)
     have hF:=lt_elim hF hv
     refine LR0 ?_
     refine LR0 ?_
     refine LR0 ?_
     obtain ⟨v13,hv,hF⟩:=oE hF
     refine NmT (fun Z=>Z.up [0,1,2,3,4,18,19,20,21] [100000] [100000] [] [(20,.i v13.1),(21,.i v13.2)] [] [] []) ?_ ?_
     ·have hF:=hv
      refine Nif hF ?_ ?_ <;> intro hb hF
      ·refine LR0 ?_
       refine LR0 ?_
       cases hF
       exact met' []
      ·refine LR0 ?_
       refine LR0 ?_
       cases hF
       exact met' []
     ·refine LR0 ?_
      refine NmS (fun v14=>slices_symMergeCmpFunc_int_v1_J5 a0 m b box row rec v12 v14=some r) (fun Z v14=>Z.up [0,1,2,3,4,18,19,20] [100000] [100000] [] [(20,.i v14)] [] [] []) ?_ ?_
      ·refine Nblk ?_
       unfold slices_symMergeCmpFunc_int_v1_L5 at hF
       refine Nits hF [] (fun Z v17=>Z.up [0,1,2,3,4,18,19,20,21,22] [100000] [100000] [] [(20,.i v17.1),(21,.i v17.2)] [] [] []) ?_
       intro n1 v17 y1 hF ih1 dn1
       unfold slices_symMergeCmpFunc_int_v1_B5 at hF
       refine LR0 ?_
       refine Nif hF ?_ ?_ <;> intro hb hF
       ·refine Nblk ?_
        refine NRL (w64 (Int.fdiv (IntKind.u64.wrap (w64 (v17.1+v17.2))) (2 ^ (min (1:Int).toNat 64)))) (fun v18:Int=>([(23,.i v18)],[],[],[])) [] [0,1,2,3,4,18,19,20,21,22,23] [100000] [100000] [] (hc (by decide:(0:Int)≤1) .nil) (fun v18 hv=>?_)
        have hF:=lt_elim hF hv
        obtain ⟨h32,h33,h34,h35,hF⟩:=asrt4 hF
        obtain ⟨x5,h36,hF⟩:=oE hF
        refine DJ (.x e_i64 h32 (.r e_i64 h33 (.x e_i64 h34 (.r e_i64 h35 (.q [100000] [] (Pe.ren (history_Order_2_ok h36) ⟨[],[],[],[]⟩) .z))))) ?_
        refine Nif hF ?_ ?_ <;> intro hb hF
        ·refine LR0 ?_
         exact Nrnq [] hF ih1
        ·refine LR0 ?_
         exact Nrnq [] hF ih1
       ·refine Nexit rfl ?_
        have hF:=inrO_done hF dn1
        exact metQ v17.1 [] hF
      ·intro v14 hF
       unfold slices_symMergeCmpFunc_int_v1_J5 at hF
       refine LR0 ?_
       refine LR0 ?_
       obtain ⟨v15,hv,hF⟩:=oE hF
       refine NmT (fun Z=>Z.up [0,1,3,4,18,20,24] [100000] [100000] [] [] [] [(100000,.q 3 1 0 0 rc rn (v15.map e_i64))] []) ?_ ?_
       ·have hF:=hv
        refine Nif hF ?_ ?_ <;> intro hb hF
        ·obtain ⟨x2,h26,hF⟩:=oE hF
         have p27:=(Pe.ren (slices_rotateCmpFunc_int_v1_ok 0 rc rn h26) ⟨[],[],[],[]⟩)
         refine RJ (.e [100000] [100000] p27 .z) ?_
         cases hF
         exact met' []
        ·cases hF
         exact met' []
       ·refine LR0 ?_
        obtain ⟨v16,hv,hF⟩:=oE hF
        refine NmT (fun Z=>Z.up [0,3,4,18,24] [100000] [100000] [] [] [] [(100000,.q 3 1 0 0 rc rn (v16.map e_i64))] []) ?_ ?_
        ·have hF:=hv
         refine Nif hF ?_ ?_ <;> intro hb hF
         ·obtain ⟨x3,h28,hF⟩:=oE hF
          have p29:=(Pe.ren (ih (a0,v14,v12,box,v15) 0 rc rn x3 h28) ⟨[],[],[],[]⟩)
          refine RJ (.e [100000] [100000] p29 .z) ?_
          cases hF
          exact met' []
         ·cases hF
          exact met' []
        ·refine LR0 ?_
         refine Nif hF ?_ ?_ <;> intro hb hF
         ·obtain ⟨x4,h30,hF⟩:=oE hF
          have p31:=(Pe.ren (ih (v12,w64 ((w64 (v12+m)) - v14),b,box,v16) 0 rc rn x4 h30) ⟨[],[],[],[]⟩)
          refine RJ (.e [100000] [100000] p31 .z) ?_
          cases hF
          exact Wk_end (hfin _ ⟨[100000],[100000],[100000],[],[],[],by kernel_rfl⟩)
         ·cases hF
          exact Wk_end (hfin _ ⟨[100000],[100000],[100000],[],[],[],by kernel_rfl⟩)
 obtain ⟨k,hF⟩:=recO_elim hF
 exact key k _ rk rc rn r hF

/- slices.stableCmpFunc[int] -/
def slices_stableCmpFunc_int_v1_J2 (v1:List Int):Option (List Int):=
 some v1
def slices_stableCmpFunc_int_v1_J3 (num:Int) (box:List Span) (v2 v3:List Int×Int):Option ((List Int×Int)⊕(List Int)):=
 ob (
  if (decide ((w64 (v3.2+v2.2))<num))=true then
   ob (slices_symMergeCmpFunc_int_v1 v3.2 (w64 (v3.2+v2.2)) num box v3.1) fun x1=>
   some x1
  else
   some v3.1) fun v4=>
 some (Sum.inl (v4,w64 (v2.2*2)))
def slices_stableCmpFunc_int_v1_B2 (num:Int) (box:List Span) (v2:List Int×Int) (v5:List Int×Int×Int):Option ((List Int×Int×Int)⊕((List Int×Int)⊕(List Int))):=
 if (decide (v5.2.2≤num))=true then
  ob (slices_symMergeCmpFunc_int_v1 v5.2.1 (w64 (v5.2.1+v2.2)) v5.2.2 box v5.1) fun x2=>
  some (Sum.inl (x2,v5.2.2,w64 (v5.2.2+(w64 (2*v2.2)))))
 else
  inrO (slices_stableCmpFunc_int_v1_J3 num box v2 (v5.1,v5.2.1))
def slices_stableCmpFunc_int_v1_L2 (num:Int) (box:List Span) (v2:List Int×Int) (v0:List Int×Int×Int):Option ((List Int×Int)⊕(List Int)):=
 loopO (fun y=>slices_stableCmpFunc_int_v1_B2 num box v2 y) v0
def slices_stableCmpFunc_int_v1_B1 (num:Int) (box:List Span) (v2:List Int×Int):Option ((List Int×Int)⊕(List Int)):=
 if (decide (v2.2<num))=true then
  slices_stableCmpFunc_int_v1_L2 num box v2 (v2.1,0,w64 (2*v2.2))
 else
  inrO (slices_stableCmpFunc_int_v1_J2 v2.1)
def slices_stableCmpFunc_int_v1_L1 (num:Int) (box:List Span) (v0:List Int×Int):Option (List Int):=
 loopO (fun y=>slices_stableCmpFunc_int_v1_B1 num box y) v0
def slices_stableCmpFunc_int_v1_J1 (num:Int) (box:List Span) (v:List Int×Int):Option (List Int):=
 ob (slices_insertionSortCmpFunc_int_v1 v.2 num box v.1) fun x=>
 slices_stableCmpFunc_int_v1_L1 num box (x,20)
def slices_stableCmpFunc_int_v1_B3 (num:Int) (box:List Span) (v6:List Int×Int×Int):Option ((List Int×Int×Int)⊕(List Int)):=
 if (decide (v6.2.2≤num))=true then
  ob (slices_insertionSortCmpFunc_int_v1 v6.2.1 v6.2.2 box v6.1) fun x3=>
  some (Sum.inl (x3,v6.2.2,w64 (v6.2.2+20)))
 else
  inrO (slices_stableCmpFunc_int_v1_J1 num box (v6.1,v6.2.1))
def slices_stableCmpFunc_int_v1_L3 (num:Int) (box:List Span) (v0:List Int×Int×Int):Option (List Int):=
 loopO (fun y=>slices_stableCmpFunc_int_v1_B3 num box y) v0
def slices_stableCmpFunc_int_v1 (num:Int) (box:List Span) (row:List Int):Option (List Int):=
 slices_stableCmpFunc_int_v1_L3 num box (row,0,20)
theorem slices_stableCmpFunc_int_v1_ok (rk rc:Nat) (rn:Bool) {num box row r} (hF:slices_stableCmpFunc_int_v1 num box row=some r):Pe Try.prog 45 ⟨[],[(100000,[.sl 4 (box.map e_Span)])],[(100000,.q 3 1 0 0 rc rn (row.map e_i64))],[],[]⟩ [.row 100000 0,.i num,.fn 35 [.ptr 100000 0]] (.tup []) ⟨[],[(100000,[.sl 4 (box.map e_Span)])],[(100000,.q 3 1 0 0 rc rn (r.map e_i64))],[],[]⟩:=by
 refine PT 63 [] [] Try.func45 ?_
 intro Q g hfin
 unfold slices_stableCmpFunc_int_v1 at hF
 refine LR0 ?_
 refine LR0 ?_
 refine NmS (fun v=>slices_stableCmpFunc_int_v1_J1 num box v=some r) (fun Z v=>Z.up [0,1,2,6,7] [100000] [100000] [] [(7,.i v.2)] [] [(100000,.q 3 1 0 0 rc rn (v.1.map e_i64))] []) ?_ ?_
 ·refine Nblk ?_
  unfold slices_stableCmpFunc_int_v1_L3 at hF
  refine Nits hF [] (fun Z v6=>Z.up [0,1,2,6,7,8] [100000] [100000] [] [(7,.i v6.2.1),(8,.i v6.2.2)] [] [(100000,.q 3 1 0 0 rc rn (v6.1.map e_i64))] []) ?_
  intro n1 v6 y1 hF ih1 dn1
  unfold slices_stableCmpFunc_int_v1_B3 at hF
  refine LR0 ?_
  refine Nif hF ?_ ?_ <;> intro hb hF
  ·refine Nblk ?_
   obtain ⟨x3,h6,hF⟩:=oE hF
   have p7:=(Pe.ren (slices_insertionSortCmpFunc_int_v1_ok 0 rc rn h6) ⟨[],[],[],[]⟩)
   refine RJ (.e [100000] [100000] p7 .z) ?_
   refine LR0 ?_
   refine LR0 ?_
   exact Nrnq [] hF ih1
  ·refine Nexit rfl ?_
   have hF:=inrO_done hF dn1
   exact metQ (v6.1,v6.2.1) [] hF
 ·intro v hF
  unfold slices_stableCmpFunc_int_v1_J1 at hF
  obtain ⟨x,h0,hF⟩:=oE hF
  have p1:=(Pe.ren (slices_insertionSortCmpFunc_int_v1_ok 0 rc rn h0) ⟨[],[],[],[]⟩)
  refine RJ (.e [100000] [100000] p1 .z) ?_
  refine NmS (fun v1=>slices_stableCmpFunc_int_v1_J2 v1=some r) (fun Z v1=>Z.up [] [100000] [100000] [] [] [] [(100000,.q 3 1 0 0 rc rn (v1.map e_i64))] []) ?_ ?_
  ·refine Nblk ?_
   unfold slices_stableCmpFunc_int_v1_L1 at hF
   refine Nits hF [] (fun Z v2=>Z.up [0,1,2,6] [100000] [100000] [] [(6,.i v2.2)] [] [(100000,.q 3 1 0 0 rc rn (v2.1.map e_i64))] []) ?_
   intro n1 v2 y1 hF ih1 dn1
   unfold slices_stableCmpFunc_int_v1_B1 at hF
   refine LR0 ?_
   refine Nif hF ?_ ?_ <;> intro hb hF
   ·refine Nblk ?_
    refine LR0 ?_
    refine NmS (fun v3=>slices_stableCmpFunc_int_v1_J3 num box v2 v3=some y1) (fun Z v3=>Z.up [0,1,2,6,7] [100000] [100000] [] [(7,.i v3.2)] [] [(100000,.q 3 1 0 0 rc rn (v3.1.map e_i64))] []) ?_ ?_
    ·refine Nblk ?_
     unfold slices_stableCmpFunc_int_v1_L2 at hF
     refine Nits hF [] (fun Z v5=>Z.up [0,1,2,6,7,8] [100000] [100000] [] [(7,.i v5.2.1),(8,.i v5.2.2)] [] [(100000,.q 3 1 0 0 rc rn (v5.1.map e_i64))] []) ?_
     intro n2 v5 y2 hF ih2 dn2
     unfold slices_stableCmpFunc_int_v1_B2 at hF
     refine LR0 ?_
     refine Nif hF ?_ ?_ <;> intro hb hF
     ·refine Nblk ?_
      obtain ⟨x2,h4,hF⟩:=oE hF
      have p5:=(Pe.ren (slices_symMergeCmpFunc_int_v1_ok 0 rc rn h4) ⟨[],[],[],[]⟩)
      refine RJ (.e [100000] [100000] p5 .z) ?_
      refine LR0 ?_
      refine LR0 ?_
      exact Nrnq [] hF ih2
     ·refine Nexit rfl ?_
      have hF:=inrO_done hF dn2
      exact metQ (v5.1,v5.2.1) [] hF
    ·intro v3 hF
     unfold slices_stableCmpFunc_int_v1_J3 at hF
     refine LR0 ?_
     refine LR0 ?_
     obtain ⟨v4,hv,hF⟩:=oE hF
     refine NmT (fun Z=>Z.up [0,1,2,6] [100000] [100000] [] [] [] [(100000,.q 3 1 0 0 rc rn (v4.map e_i64))] []) ?_ ?_
     ·have hF:=hv
      refine Nif hF ?_ ?_ <;> intro hb hF
      ·obtain ⟨x1,h2,hF⟩:=oE hF
       have p3:=(Pe.ren (slices_symMergeCmpFunc_int_v1_ok 0 rc rn h2) ⟨[],[],[],[]⟩)
       refine RJ (.e [100000] [100000] p3 .z) ?_
       cases hF
       exact met' []
      ·cases hF
       exact met' []
     ·refine LR0 ?_
      exact Nrnq [] hF ih1
   ·refine Nexit rfl ?_
    have hF:=inrO_done hF dn1
    exact metQ v2.1 [] hF
  ·intro v1 hF
   unfold slices_stableCmpFunc_int_v1_J2 at hF
   cases hF
   exact Wk_end (hfin _ ⟨[100000],[100000],[100000],[],[],[],by kernel_rfl⟩)

/- slices.SortStableFunc[[]int,int] -/
def slices_SortStableFunc_int_int_v1 (box:List Span) (row:List Int):Option (List Int):=
 ob (slices_stableCmpFunc_int_v1 (row.length:Int) box row) fun x=>
 some x
theorem slices_SortStableFunc_int_int_v1_ok (rk rc:Nat) (rn:Bool) {box row r} (hF:slices_SortStableFunc_int_int_v1 box row=some r):Pe Try.prog 34 ⟨[],[(100000,[.sl 4 (box.map e_Span)])],[(100000,.q 3 1 0 0 rc rn (row.map e_i64))],[],[]⟩ [.row 100000 0,.fn 35 [.ptr 100000 0]] (.tup []) ⟨[],[(100000,[.sl 4 (box.map e_Span)])],[(100000,.q 3 1 0 0 rc rn (r.map e_i64))],[],[]⟩:=by
 refine PT 9 [] [] Try.func34 ?_
 intro Q g hfin
 unfold slices_SortStableFunc_int_int_v1 at hF
 obtain ⟨x,h0,hF⟩:=oE hF
 have p1:=(Pe.ren (slices_stableCmpFunc_int_v1_ok 0 rc rn h0) ⟨[],[],[],[]⟩)
 refine RJ (.l e_i64 row (.e [100000] [100000] p1 .z)) ?_
 cases hF
 exact Wk_end (hfin _ ⟨[100000],[100000],[100000],[],[],[],by kernel_rfl⟩)

/- history.Order -/
def history_Order_v1_J1 (x:Bool×Fault) (v:List Int×List bunch):Option (List Int×Bool×Fault):=
 some (v.1,true,x.2)
def history_Order_v1_B1 (l:List Span) (x:Bool×Fault) (v1:List Nat×List Int×List bunch):Option ((List Nat×List Int×List bunch)⊕(List Int×Bool×Fault)):=
 if (decide (0<(v1.1.length:Int)))=true then
  ob (slices_IndexFunc_history_bunch_history_bunch v1.1 v1.2.2) fun x2=>
  asrt (0≤(max x2 0)∧(max x2 0)<(v1.1.length:Int)) <|
  asrt (0≤(max x2 0)∧(max x2 0)<(v1.1.length:Int)) <|
  ob (slices_Delete_history_bunch_history_bunch (max x2 0) (w64 ((max x2 0)+1)) v1.1 v1.2.2) fun x3=>
  asrt (0≤(((lget v1.1 (max x2 0)):Nat):Int)∧(((lget v1.1 (max x2 0)):Nat):Int)<(v1.2.2.length:Int)) <|
  ob (
   if (decide (0≤((lget v1.2.2 (((lget v1.1 (max x2 0)):Nat):Int)).write)))=true then
    asrt (0≤(((lget v1.1 (max x2 0)):Nat):Int)∧(((lget v1.1 (max x2 0)):Nat):Int)<(v1.2.2.length:Int)) <|
    asrt (((v1.2.1++([(lget v1.2.2 (((lget v1.1 (max x2 0)):Nat):Int)).write]:List Int)).length:Int)*8≤140737488351232) <|
    lt ((v1.2.1++([(lget v1.2.2 (((lget v1.1 (max x2 0)):Nat):Int)).write]:List Int))) fun v3=>
    some v3
   else
    some v1.2.1) fun v2=>
  asrt (0≤(((lget v1.1 (max x2 0)):Nat):Int)∧(((lget v1.1 (max x2 0)):Nat):Int)<(v1.2.2.length:Int)) <|
  ob (slices_SortStableFunc_int_int_v1 l ((lget v1.2.2 (((lget v1.1 (max x2 0)):Nat):Int)).reads)) fun x4=>
  asrt (0≤(((lget v1.1 (max x2 0)):Nat):Int)∧(((lget v1.1 (max x2 0)):Nat):Int)<((lset v1.2.2 (((lget v1.1 (max x2 0)):Nat):Int) (⟨(lget v1.2.2 (((lget v1.1 (max x2 0)):Nat):Int)).value,(lget v1.2.2 (((lget v1.1 (max x2 0)):Nat):Int)).write,x4,(lget v1.2.2 (((lget v1.1 (max x2 0)):Nat):Int)).first,(lget v1.2.2 (((lget v1.1 (max x2 0)):Nat):Int)).last⟩:bunch)).length:Int)) <|
  asrt (((v2++((lget (lset v1.2.2 (((lget v1.1 (max x2 0)):Nat):Int) (⟨(lget v1.2.2 (((lget v1.1 (max x2 0)):Nat):Int)).value,(lget v1.2.2 (((lget v1.1 (max x2 0)):Nat):Int)).write,x4,(lget v1.2.2 (((lget v1.1 (max x2 0)):Nat):Int)).first,(lget v1.2.2 (((lget v1.1 (max x2 0)):Nat):Int)).last⟩:bunch)) (((lget v1.1 (max x2 0)):Nat):Int)).reads)).length:Int)*8≤140737488351232) <|
  some (Sum.inl (x3,(v2++((lget (lset v1.2.2 (((lget v1.1 (max x2 0)):Nat):Int) (⟨(lget v1.2.2 (((lget v1.1 (max x2 0)):Nat):Int)).value,(lget v1.2.2 (((lget v1.1 (max x2 0)):Nat):Int)).write,x4,(lget v1.2.2 (((lget v1.1 (max x2 0)):Nat):Int)).first,(lget v1.2.2 (((lget v1.1 (max x2 0)):Nat):Int)).last⟩:bunch)) (((lget v1.1 (max x2 0)):Nat):Int)).reads)),(lset (lset v1.2.2 (((lget v1.1 (max x2 0)):Nat):Int) (⟨(lget v1.2.2 (((lget v1.1 (max x2 0)):Nat):Int)).value,(lget v1.2.2 (((lget v1.1 (max x2 0)):Nat):Int)).write,x4,(lget v1.2.2 (((lget v1.1 (max x2 0)):Nat):Int)).first,(lget v1.2.2 (((lget v1.1 (max x2 0)):Nat):Int)).last⟩:bunch)) (((lget v1.1 (max x2 0)):Nat):Int) (⟨(lget (lset v1.2.2 (((lget v1.1 (max x2 0)):Nat):Int) (⟨(lget v1.2.2 (((lget v1.1 (max x2 0)):Nat):Int)).value,(lget v1.2.2 (((lget v1.1 (max x2 0)):Nat):Int)).write,x4,(lget v1.2.2 (((lget v1.1 (max x2 0)):Nat):Int)).first,(lget v1.2.2 (((lget v1.1 (max x2 0)):Nat):Int)).last⟩:bunch)) (((lget v1.1 (max x2 0)):Nat):Int)).value,(lget (lset v1.2.2 (((lget v1.1 (max x2 0)):Nat):Int) (⟨(lget v1.2.2 (((lget v1.1 (max x2 0)):Nat):Int)).value,(lget v1.2.2 (((lget v1.1 (max x2 0)):Nat):Int)).write,x4,(lget v1.2.2 (((lget v1.1 (max x2 0)):Nat):Int)).first,(lget v1.2.2 (((lget v1.1 (max x2 0)):Nat):Int)).last⟩:bunch)) (((lget v1.1 (max x2 0)):Nat):Int)).write,(lget (lset v1.2.2 (((lget v1.1 (max x2 0)):Nat):Int) (⟨(lget v1.2.2 (((lget v1.1 (max x2 0)):Nat):Int)).value,(lget v1.2.2 (((lget v1.1 (max x2 0)):Nat):Int)).write,x4,(lget v1.2.2 (((lget v1.1 (max x2 0)):Nat):Int)).first,(lget v1.2.2 (((lget v1.1 (max x2 0)):Nat):Int)).last⟩:bunch)) (((lget v1.1 (max x2 0)):Nat):Int)).reads,(lget (lset v1.2.2 (((lget v1.1 (max x2 0)):Nat):Int) (⟨(lget v1.2.2 (((lget v1.1 (max x2 0)):Nat):Int)).value,(lget v1.2.2 (((lget v1.1 (max x2 0)):Nat):Int)).write,x4,(lget v1.2.2 (((lget v1.1 (max x2 0)):Nat):Int)).first,(lget v1.2.2 (((lget v1.1 (max x2 0)):Nat):Int)).last⟩:bunch)) (((lget v1.1 (max x2 0)):Nat):Int)).first,(lget (lset v1.2.2 (((lget v1.1 (max x2 0)):Nat):Int) (⟨(lget v1.2.2 (((lget v1.1 (max x2 0)):Nat):Int)).value,(lget v1.2.2 (((lget v1.1 (max x2 0)):Nat):Int)).write,x4,(lget v1.2.2 (((lget v1.1 (max x2 0)):Nat):Int)).first,(lget v1.2.2 (((lget v1.1 (max x2 0)):Nat):Int)).last⟩:bunch)) (((lget v1.1 (max x2 0)):Nat):Int)).last⟩:bunch))))
 else
  inrO (history_Order_v1_J1 x (v1.2.1,v1.2.2))
def history_Order_v1_L1 (l:List Span) (x:Bool×Fault) (v0:List Nat×List Int×List bunch):Option (List Int×Bool×Fault):=
 loopO (fun y=>history_Order_v1_B1 l x y) v0
def history_Order_v1 (l:List Span):Option (List Int×Bool×Fault):=
 ob (history_Linear l) fun x=>
 if (!x.1)=true then
  some (([]:List Int),false,x.2)
 else
  ob (history_bunches l ([]:List bunch)) fun x1=>
  history_Order_v1_L1 l x (x1.1,([]:List Int),x1.2)
theorem history_Order_v1_ok {l r} (hF:history_Order_v1 l=some r):Pe Try.prog 16 S.none [.sl 4 (l.map e_Span)] (.tup [.sl 1 (r.1.map e_i64),.bool r.2.1,.agg (c_Fault r.2.2)]) S.none:=by
 refine Pe_ghost 100000 51 5 rfl ?_
 refine PT 65 [.tmp 2,.tmp 3,.cell 4 26] [34,4,26] Try.func16 ?_
 intro Q g hfin
 unfold history_Order_v1 at hF
 refine NAR [] [1,4] [1,4] [] [] [100000] ⟨[(1,.ptr 1 0),(4,.ptr 4 0)],[(1,[.sl 4 (l.map e_Span)]),(4,[.i 0,.i 0])],[],[],[(100000,⟨51,5,[],([]:List bunch).map o_bunch⟩)]⟩ .nil ?_
 obtain ⟨x,h0,hF⟩:=oE hF
 refine NAR [.callB (.tup [.bool x.1,.agg (c_Fault x.2)])] [1,4,5,6] [1,4,6] [] [] [100000] ⟨[(1,.ptr 1 0),(4,.ptr 4 0),(5,.bool x.1),(6,.ptr 6 0)],[(1,[.sl 4 (l.map e_Span)]),(4,[.i 0,.i 0]),(6,(c_Fault x.2))],[],[],[(100000,⟨51,5,[],([]:List bunch).map o_bunch⟩)]⟩ (hc (history_Linear_ok h0) .nil) ?_
 refine NAR [] [1,4,6,17] [1,4,6] [] [] [100000] ⟨[(1,.ptr 1 0),(4,.ptr 4 0),(6,.ptr 6 0),(17,.bool (!x.1))],[(1,[.sl 4 (l.map e_Span)]),(4,[.i 0,.i 0]),(6,(c_Fault x.2))],[],[],[(100000,⟨51,5,[],([]:List bunch).map o_bunch⟩)]⟩ .nil ?_
 refine Nif hF ?_ ?_ <;> intro hb hF
 ·refine NAD [] [2,3,4] [4] [] [] [100000] ⟨[(2,.nils),(3,.bool false),(4,.ptr 4 0)],[(4,(c_Fault x.2))],[],[],[(100000,⟨51,5,[],([]:List bunch).map o_bunch⟩)]⟩ .nil ?_
  cases hF
  exact Wz [] hfin
 ·obtain ⟨x1,h1,hF⟩:=oE hF
  refine NAR [.callE [] [] [] [100000] (.row 20 0) ⟨[],[],[(20,⟨48,1,0,0,0,false,1,[100000],(x1.1.map ea)⟩)],[],[(100000,⟨51,5,[],x1.2.map o_bunch⟩)]⟩] [1,4,6,7] [1,4,6,7] [20] [] [100000] ⟨[(1,.ptr 1 0),(4,.ptr 4 0),(6,.ptr 6 0),(7,.ptr 7 0)],[(1,[.sl 4 (l.map e_Span)]),(4,[.i 0,.i 0]),(6,(c_Fault x.2)),(7,[.row 20 0])],[(20,⟨48,1,0,0,0,false,1,[100000],(x1.1.map ea)⟩)],[],[(100000,⟨51,5,[],x1.2.map o_bunch⟩)]⟩ (hc (Pe.ren (history_bunches_ok h1) ⟨[],[(12,20)],[],[]⟩) .nil) ?_
  refine NAR [] [1,4,6,7,8] [1,4,6,7] [20] [] [100000] ⟨[(1,.ptr 1 0),(4,.ptr 4 0),(6,.ptr 6 0),(7,.ptr 7 0),(8,.nils)],[(1,[.sl 4 (l.map e_Span)]),(4,[.i 0,.i 0]),(6,(c_Fault x.2)),(7,[.row 20 0])],[(20,⟨48,1,0,0,0,false,1,[100000],(x1.1.map ea)⟩)],[],[(100000,⟨51,5,[],x1.2.map o_bunch⟩)]⟩ .nil ?_
  refine NmQ (fun v=>history_Order_v1_J1 x v=some r) (fun v=>⟨[(4,.ptr 4 0),(6,.ptr 6 0),(8,.row 50 0)],[(4,[.i 0,.i 0]),(6,(c_Fault x.2))],[(50,.z 3 1 0 (v.1.map e_i64))],[],[(100000,⟨51,5,[],v.2.map o_bunch⟩)]⟩) ?_ ?_
  ·refine Nblk ?_
   unfold history_Order_v1_L1 at hF
   refine Wk_nilrow 8 60000 3 1 rfl rfl rfl ?_
   refine Wk_trim (fs:=[1,4,6,7,8]) (bs:=[1,4,6,7]) (rs:=[20,60000]) (ms:=[]) (aa:=[100000]) (nv:=[]) rfl ?_
   refine Wk_ren' ⟨[],[(60000,50)],[],[]⟩ rfl ?_
   refine Nitr hF [] (fun v1=>⟨[(1,.ptr 1 0),(4,.ptr 4 0),(6,.ptr 6 0),(7,.ptr 7 0),(8,.row 50 0)],[(1,[.sl 4 (l.map e_Span)]),(4,[.i 0,.i 0]),(6,(c_Fault x.2)),(7,[.row 20 0])],[(20,⟨48,1,0,0,0,false,1,[100000],(v1.1.map ea)⟩),(50,.z 3 1 0 (v1.2.1.map e_i64))],[],[(100000,⟨51,5,[],v1.2.2.map o_bunch⟩)]⟩) ?_
   intro n1 v1 y1 hF ih1 dn1
   unfold history_Order_v1_B1 at hF
   refine NAR [.nat (v1.1.length:Int)] [1,4,6,7,8,23] [1,4,6,7] [20,50] [] [100000] ⟨[(1,.ptr 1 0),(4,.ptr 4 0),(6,.ptr 6 0),(7,.ptr 7 0),(8,.row 50 0),(23,.bool (decide (0<(v1.1.length:Int))))],[(1,[.sl 4 (l.map e_Span)]),(4,[.i 0,.i 0]),(6,(c_Fault x.2)),(7,[.row 20 0])],[(20,⟨48,1,0,0,0,false,1,[100000],(v1.1.map ea)⟩),(50,.z 3 1 0 (v1.2.1.map e_i64))],[],[(100000,⟨51,5,[],v1.2.2.map o_bunch⟩)]⟩ (hc (len_ok ea v1.1) .nil) ?_
   refine Nif hF ?_ ?_ <;> intro hb hF
   ·refine Nblk ?_
    obtain ⟨x2,h2,hF⟩:=oE hF
    refine NAR [.callR [7] [20] [] [100000] (.i x2)] [1,4,6,7,8,9] [1,4,6,7] [20,50] [] [100000] ⟨[(1,.ptr 1 0),(4,.ptr 4 0),(6,.ptr 6 0),(7,.ptr 7 0),(8,.row 50 0),(9,.i x2)],[(1,[.sl 4 (l.map e_Span)]),(4,[.i 0,.i 0]),(6,(c_Fault x.2)),(7,[.row 20 0])],[(20,⟨48,1,0,0,0,false,1,[100000],(v1.1.map ea)⟩),(50,.z 3 1 0 (v1.2.1.map e_i64))],[],[(100000,⟨51,5,[],v1.2.2.map o_bunch⟩)]⟩ (hc (Pe.ren (slices_IndexFunc_history_bunch_history_bunch_ok 0 0 false h2) ⟨[(100000,7)],[(100000,20)],[],[]⟩) .nil) ?_
    obtain ⟨h3,h4,hF⟩:=asrt2 hF
    refine NAR [.av (ea (lget v1.1 (max x2 0)))] [1,4,6,7,8,9,10] [1,4,6,7] [20,50] [] [100000] ⟨[(1,.ptr 1 0),(4,.ptr 4 0),(6,.ptr 6 0),(7,.ptr 7 0),(8,.row 50 0),(9,.i x2),(10,.aptr 100000 (lget v1.1 (max x2 0)) 0)],[(1,[.sl 4 (l.map e_Span)]),(4,[.i 0,.i 0]),(6,(c_Fault x.2)),(7,[.row 20 0])],[(20,⟨48,1,0,0,0,false,1,[100000],(v1.1.map ea)⟩),(50,.z 3 1 0 (v1.2.1.map e_i64))],[],[(100000,⟨51,5,[],v1.2.2.map o_bunch⟩)]⟩ (hc (ixr_ok ea h3) (hc (ldr_ok ea h4) .nil)) ?_
    obtain ⟨x3,h5,hF⟩:=oE hF
    refine NAR [.callE [] [20] [] [100000] (.row 20 1) ⟨[],[],[(20,⟨48,1,1,0,0,false,1,[100000],(x3.map ea)⟩)],[],[(100000,⟨51,5,[],v1.2.2.map o_bunch⟩)]⟩] [1,4,6,7,8,10] [1,4,6,7] [20,50] [] [100000] ⟨[(1,.ptr 1 0),(4,.ptr 4 0),(6,.ptr 6 0),(7,.ptr 7 0),(8,.row 50 0),(10,.aptr 100000 (lget v1.1 (max x2 0)) 0)],[(1,[.sl 4 (l.map e_Span)]),(4,[.i 0,.i 0]),(6,(c_Fault x.2)),(7,[.row 20 1])],[(20,⟨48,1,1,0,0,false,1,[100000],(x3.map ea)⟩),(50,.z 3 1 0 (v1.2.1.map e_i64))],[],[(100000,⟨51,5,[],v1.2.2.map o_bunch⟩)]⟩ (hc (Pe.ren (slices_Delete_history_bunch_history_bunch_ok 0 0 false h5) ⟨[],[(100000,20)],[],[]⟩) .nil) ?_
    obtain ⟨h6,hF⟩:=aE hF
    refine NAR [.av (o_bunch (lget v1.2.2 (((lget v1.1 (max x2 0)):Nat):Int)))] [1,4,6,7,8,10,43] [1,4,6,7] [20,50] [] [100000] ⟨[(1,.ptr 1 0),(4,.ptr 4 0),(6,.ptr 6 0),(7,.ptr 7 0),(8,.row 50 0),(10,.aptr 100000 (lget v1.1 (max x2 0)) 0),(43,.bool (decide (0≤((lget v1.2.2 (((lget v1.1 (max x2 0)):Nat):Int)).write))))],[(1,[.sl 4 (l.map e_Span)]),(4,[.i 0,.i 0]),(6,(c_Fault x.2)),(7,[.row 20 1])],[(20,⟨48,1,1,0,0,false,1,[100000],(x3.map ea)⟩),(50,.z 3 1 0 (v1.2.1.map e_i64))],[],[(100000,⟨51,5,[],v1.2.2.map o_bunch⟩)]⟩ (hc (ldr_ok o_bunch h6) .nil) ?_
    obtain ⟨v2,hv,hF⟩:=oE hF
    refine Nmeet (⟨[(1,.ptr 1 0),(4,.ptr 4 0),(6,.ptr 6 0),(7,.ptr 7 0),(8,.row 50 0),(10,.aptr 100000 (lget v1.1 (max x2 0)) 0)],[(1,[.sl 4 (l.map e_Span)]),(4,[.i 0,.i 0]),(6,(c_Fault x.2)),(7,[.row 20 1])],[(20,⟨48,1,1,0,0,false,1,[100000],(x3.map ea)⟩),(50,.z 3 1 0 (v2.map e_i64))],[],[(100000,⟨51,5,[],v1.2.2.map o_bunch⟩)]⟩:S) ?_ ?_
    ·have hF:=hv
     refine Nif hF ?_ ?_ <;> intro hb hF
     ·obtain ⟨h7,hF⟩:=aE hF
      obtain ⟨h8,hF⟩:=aE hF
      refine NARL ((v1.2.1++([(lget v1.2.2 (((lget v1.1 (max x2 0)):Nat):Int)).write]:List Int))) (fun v3:List Int=>(⟨[(1,.ptr 1 0),(4,.ptr 4 0),(6,.ptr 6 0),(7,.ptr 7 0),(8,.row 50 1),(10,.aptr 100000 (lget v1.1 (max x2 0)) 0)],[(1,[.sl 4 (l.map e_Span)]),(4,[.i 0,.i 0]),(6,(c_Fault x.2)),(7,[.row 20 1])],[(20,⟨48,1,1,0,0,false,1,[100000],(x3.map ea)⟩),(50,.z 3 1 1 (v3.map e_i64))],[],[(100000,⟨51,5,[],v1.2.2.map o_bunch⟩)]⟩:S)) [.av (o_bunch (lget v1.2.2 (((lget v1.1 (max x2 0)):Nat):Int))),.sealed,.xs ((v1.2.1++([(lget v1.2.2 (((lget v1.1 (max x2 0)):Nat):Int)).write]:List Int)).map e_i64)] [1,4,6,7,8,10] [1,4,6,7] [20,50] [] [100000] (hc (ldr_ok o_bunch h7) (hc (app_ok e_i64 v1.2.1 ([(lget v1.2.2 (((lget v1.1 (max x2 0)):Nat):Int)).write]:List Int)) (hc (appl_ok e_i64 h8) .nil))) (fun v3 hv=>?_)
      have hF:=lt_elim hF hv
      cases hF
      exact met' [(50,⟨0,true,true,false⟩)]
     ·cases hF
      exact met' []
    ·obtain ⟨ht46,hF⟩:=aE hF
     obtain ⟨x4,h9,hF⟩:=oE hF
     have p10:=(Pe.ren (slices_SortStableFunc_int_int_v1_ok 0 0 false h9) ⟨[(100000,1)],[(100000,80047)],[],[]⟩)
     refine L_take 100000 (lget v1.1 (max x2 0)) 2 80046 80047 [10] (u:=o_bunch (lget v1.2.2 (((lget v1.1 (max x2 0)):Nat):Int))) (.cons (ldr_ok o_bunch ht46) (.cons (rfl:some (.aptr 100000 (lget v1.1 (max x2 0)) 0:AV)=some (.aptr 100000 (lget v1.1 (max x2 0)) 0:AV)) .nil)) (hk:=?_)
     refine LR [cE [1] [80047] [] [] p10] (hc p10 .nil) ?_
     refine L_put 100000 (lget v1.1 (max x2 0)) 2 80046 [10] [1,4,6,7,8] (zs:=((lset v1.2.2 (((lget v1.1 (max x2 0)):Nat):Int) (⟨(lget v1.2.2 (((lget v1.1 (max x2 0)):Nat):Int)).value,(lget v1.2.2 (((lget v1.1 (max x2 0)):Nat):Int)).write,x4,(lget v1.2.2 (((lget v1.1 (max x2 0)):Nat):Int)).first,(lget v1.2.2 (((lget v1.1 (max x2 0)):Nat):Int)).last⟩:bunch)).map o_bunch)) (.cons (hole_ok o_bunch v1.2.2 80046 4 ht46) (.cons (back_ok o_bunch v1.2.2 (lget v1.1 (max x2 0)) (⟨(lget v1.2.2 (((lget v1.1 (max x2 0)):Nat):Int)).value,(lget v1.2.2 (((lget v1.1 (max x2 0)):Nat):Int)).write,x4,(lget v1.2.2 (((lget v1.1 (max x2 0)):Nat):Int)).first,(lget v1.2.2 (((lget v1.1 (max x2 0)):Nat):Int)).last⟩:bunch) (hole 80046 4)) (.cons (nhL (f:=o_bunch) (fun _=>rfl) (lset v1.2.2 (((lget v1.1 (max x2 0)):Nat):Int) (⟨(lget v1.2.2 (((lget v1.1 (max x2 0)):Nat):Int)).value,(lget v1.2.2 (((lget v1.1 (max x2 0)):Nat):Int)).write,x4,(lget v1.2.2 (((lget v1.1 (max x2 0)):Nat):Int)).first,(lget v1.2.2 (((lget v1.1 (max x2 0)):Nat):Int)).last⟩:bunch))) (.cons (rfl:some (AV.ptr 80046 0)=some (AV.ptr 80046 0)) .nil)))) (hk:=?_)
     obtain ⟨ht48,hF⟩:=aE hF
     obtain ⟨h11,hF⟩:=aE hF
     refine L_take 100000 (lget v1.1 (max x2 0)) 2 80048 80049 [10] (u:=o_bunch (lget (lset v1.2.2 (((lget v1.1 (max x2 0)):Nat):Int) (⟨(lget v1.2.2 (((lget v1.1 (max x2 0)):Nat):Int)).value,(lget v1.2.2 (((lget v1.1 (max x2 0)):Nat):Int)).write,x4,(lget v1.2.2 (((lget v1.1 (max x2 0)):Nat):Int)).first,(lget v1.2.2 (((lget v1.1 (max x2 0)):Nat):Int)).last⟩:bunch)) (((lget v1.1 (max x2 0)):Nat):Int))) (.cons (ldr_ok o_bunch ht48) (.cons (rfl:some (.aptr 100000 (lget v1.1 (max x2 0)) 0:AV)=some (.aptr 100000 (lget v1.1 (max x2 0)) 0:AV)) .nil)) (hk:=?_)
     refine LR [.xs ((v2++((lget (lset v1.2.2 (((lget v1.1 (max x2 0)):Nat):Int) (⟨(lget v1.2.2 (((lget v1.1 (max x2 0)):Nat):Int)).value,(lget v1.2.2 (((lget v1.1 (max x2 0)):Nat):Int)).write,x4,(lget v1.2.2 (((lget v1.1 (max x2 0)):Nat):Int)).first,(lget v1.2.2 (((lget v1.1 (max x2 0)):Nat):Int)).last⟩:bunch)) (((lget v1.1 (max x2 0)):Nat):Int)).reads)).map e_i64)] (hc (app_ok e_i64 v2 ((lget (lset v1.2.2 (((lget v1.1 (max x2 0)):Nat):Int) (⟨(lget v1.2.2 (((lget v1.1 (max x2 0)):Nat):Int)).value,(lget v1.2.2 (((lget v1.1 (max x2 0)):Nat):Int)).write,x4,(lget v1.2.2 (((lget v1.1 (max x2 0)):Nat):Int)).first,(lget v1.2.2 (((lget v1.1 (max x2 0)):Nat):Int)).last⟩:bunch)) (((lget v1.1 (max x2 0)):Nat):Int)).reads)) (hc (appl_ok e_i64 h11) .nil)) ?_
     refine L_put 100000 (lget v1.1 (max x2 0)) 2 80048 [10] [1,4,6,7,8] (zs:=((lset (lset v1.2.2 (((lget v1.1 (max x2 0)):Nat):Int) (⟨(lget v1.2.2 (((lget v1.1 (max x2 0)):Nat):Int)).value,(lget v1.2.2 (((lget v1.1 (max x2 0)):Nat):Int)).write,x4,(lget v1.2.2 (((lget v1.1 (max x2 0)):Nat):Int)).first,(lget v1.2.2 (((lget v1.1 (max x2 0)):Nat):Int)).last⟩:bunch)) (((lget v1.1 (max x2 0)):Nat):Int) (⟨(lget (lset v1.2.2 (((lget v1.1 (max x2 0)):Nat):Int) (⟨(lget v1.2.2 (((lget v1.1 (max x2 0)):Nat):Int)).value,(lget v1.2.2 (((lget v1.1 (max x2 0)):Nat):Int)).write,x4,(lget v1.2.2 (((lget v1.1 (max x2 0)):Nat):Int)).first,(lget v1.2.2 (((lget v1.1 (max x2 0)):Nat):Int)).last⟩:bunch)) (((lget v1.1 (max x2 0)):Nat):Int)).value,(lget (lset v1.2.2 (((lget v1.1 (max x2 0)):Nat):Int) (⟨(lget v1.2.2 (((lget v1.1 (max x2 0)):Nat):Int)).value,(lget v1.2.2 (((lget v1.1 (max x2 0)):Nat):Int)).write,x4,(lget v1.2.2 (((lget v1.1 (max x2 0)):Nat):Int)).first,(lget v1.2.2 (((lget v1.1 (max x2 0)):Nat):Int)).last⟩:bunch)) (((lget v1.1 (max x2 0)):Nat):Int)).write,(lget (lset v1.2.2 (((lget v1.1 (max x2 0)):Nat):Int) (⟨(lget v1.2.2 (((lget v1.1 (max x2 0)):Nat):Int)).value,(lget v1.2.2 (((lget v1.1 (max x2 0)):Nat):Int)).write,x4,(lget v1.2.2 (((lget v1.1 (max x2 0)):Nat):Int)).first,(lget v1.2.2 (((lget v1.1 (max x2 0)):Nat):Int)).last⟩:bunch)) (((lget v1.1 (max x2 0)):Nat):Int)).reads,(lget (lset v1.2.2 (((lget v1.1 (max x2 0)):Nat):Int) (⟨(lget v1.2.2 (((lget v1.1 (max x2 0)):Nat):Int)).value,(lget v1.2.2 (((lget v1.1 (max x2 0)):Nat):Int)).write,x4,(lget v1.2.2 (((lget v1.1 (max x2 0)):Nat):Int)).first,(lget v1.2.2 (((lget v1.1 (max x2 0)):Nat):Int)).last⟩:bunch)) (((lget v1.1 (max x2 0)):Nat):Int)).first,(lget (lset v1.2.2 (((lget v1.1 (max x2 0)):Nat):Int) (⟨(lget v1.2.2 (((lget v1.1 (max x2 0)):Nat):Int)).value,(lget v1.2.2 (((lget v1.1 (max x2 0)):Nat):Int)).write,x4,(lget v1.2.2 (((lget v1.1 (max x2 0)):Nat):Int)).first,(lget v1.2.2 (((lget v1.1 (max x2 0)):Nat):Int)).last⟩:bunch)) (((lget v1.1 (max x2 0)):Nat):Int)).last⟩:bunch)).map o_bunch)) (.cons (hole_ok o_bunch (lset v1.2.2 (((lget v1.1 (max x2 0)):Nat):Int) (⟨(lget v1.2.2 (((lget v1.1 (max x2 0)):Nat):Int)).value,(lget v1.2.2 (((lget v1.1 (max x2 0)):Nat):Int)).write,x4,(lget v1.2.2 (((lget v1.1 (max x2 0)):Nat):Int)).first,(lget v1.2.2 (((lget v1.1 (max x2 0)):Nat):Int)).last⟩:bunch)) 80048 4 ht48) (.cons (back_ok o_bunch (lset v1.2.2 (((lget v1.1 (max x2 0)):Nat):Int) (⟨(lget v1.2.2 (((lget v1.1 (max x2 0)):Nat):Int)).value,(lget v1.2.2 (((lget v1.1 (max x2 0)):Nat):Int)).write,x4,(lget v1.2.2 (((lget v1.1 (max x2 0)):Nat):Int)).first,(lget v1.2.2 (((lget v1.1 (max x2 0)):Nat):Int)).last⟩:bunch)) (lget v1.1 (max x2 0)) (⟨(lget (lset v1.2.2 (((lget v1.1 (max x2 0)):Nat):Int) (⟨(lget v1.2.2 (((lget v1.1 (max x2 0)):Nat):Int)).value,(lget v1.2.2 (((lget v1.1 (max x2 0)):Nat):Int)).write,x4,(lget v1.2.2 (((lget v1.1 (max x2 0)):Nat):Int)).first,(lget v1.2.2 (((lget v1.1 (max x2 0)):Nat):Int)).last⟩:bunch)) (((lget v1.1 (max x2 0)):Nat):Int)).value,(lget (lset v1.2.2 (((lget v1.1 (max x2 0)):Nat):Int) (⟨(lget v1.2.2 (((lget v1.1 (max x2 0)):Nat):Int)).value,(lget v1.2.2 (((lget v1.1 (max x2 0)):Nat):Int)).write,x4,(lget v1.2.2 (((lget v1.1 (max x2 0)):Nat):Int)).first,(lget v1.2.2 (((lget v1.1 (max x2 0)):Nat):Int)).last⟩:bunch)) (((lget v1.1 (max x2 0)):Nat):Int)).write,(lget (lset v1.2.2 (((lget v1.1 (max x2 0)):Nat):Int) (⟨(lget v1.2.2 (((lget v1.1 (max x2 0)):Nat):Int)).value,(lget v1.2.2 (((lget v1.1 (max x2 0)):Nat):Int)).write,x4,(lget v1.2.2 (((lget v1.1 (max x2 0)):Nat):Int)).first,(lget v1.2.2 (((lget v1.1 (max x2 0)):Nat):Int)).last⟩:bunch)) (((lget v1.1 (max x2 0)):Nat):Int)).reads,(lget (lset v1.2.2 (((lget v1.1 (max x2 0)):Nat):Int) (⟨(lget v1.2.2 (((lget v1.1 (max x2 0)):Nat):Int)).value,(lget v1.2.2 (((lget v1.1 (max x2 0)):Nat):Int)).write,x4,(lget v1.2.2 (((lget v1.1 (max x2 0)):Nat):Int)).first,(lget v1.2.2 (((lget v1.1 (max x2 0)):Nat):Int)).last⟩:bunch)) (((lget v1.1 (max x2 0)):Nat):Int)).first,(lget (lset v1.2.2 (((lget v1.1 (max x2 0)):Nat):Int) (⟨(lget v1.2.2 (((lget v1.1 (max x2 0)):Nat):Int)).value,(lget v1.2.2 (((lget v1.1 (max x2 0)):Nat):Int)).write,x4,(lget v1.2.2 (((lget v1.1 (max x2 0)):Nat):Int)).first,(lget v1.2.2 (((lget v1.1 (max x2 0)):Nat):Int)).last⟩:bunch)) (((lget v1.1 (max x2 0)):Nat):Int)).last⟩:bunch) (hole 80048 4)) (.cons (nhL (f:=o_bunch) (fun _=>rfl) (lset (lset v1.2.2 (((lget v1.1 (max x2 0)):Nat):Int) (⟨(lget v1.2.2 (((lget v1.1 (max x2 0)):Nat):Int)).value,(lget v1.2.2 (((lget v1.1 (max x2 0)):Nat):Int)).write,x4,(lget v1.2.2 (((lget v1.1 (max x2 0)):Nat):Int)).first,(lget v1.2.2 (((lget v1.1 (max x2 0)):Nat):Int)).last⟩:bunch)) (((lget v1.1 (max x2 0)):Nat):Int) (⟨(lget (lset v1.2.2 (((lget v1.1 (max x2 0)):Nat):Int) (⟨(lget v1.2.2 (((lget v1.1 (max x2 0)):Nat):Int)).value,(lget v1.2.2 (((lget v1.1 (max x2 0)):Nat):Int)).write,x4,(lget v1.2.2 (((lget v1.1 (max x2 0)):Nat):Int)).first,(lget v1.2.2 (((lget v1.1 (max x2 0)):Nat):Int)).last⟩:bunch)) (((lget v1.1 (max x2 0)):Nat):Int)).value,(lget (lset v1.2.2 (((lget v1.1 (max x2 0)):Nat):Int) (⟨(lget v1.2.2 (((lget v1.1 (max x2 0)):Nat):Int)).value,(lget v1.2.2 (((lget v1.1 (max x2 0)):Nat):Int)).write,x4,(lget v1.2.2 (((lget v1.1 (max x2 0)):Nat):Int)).first,(lget v1.2.2 (((lget v1.1 (max x2 0)):Nat):Int)).last⟩:bunch)) (((lget v1.1 (max x2 0)):Nat):Int)).write,(lget (lset v1.2.2 (((lget v1.1 (max x2 0)):Nat):Int) (⟨(lget v1.2.2 (((lget v1.1 (max x2 0)):Nat):Int)).value,(lget v1.2.2 (((lget v1.1 (max x2 0)):Nat):Int)).write,x4,(lget v1.2.2 (((lget v1.1 (max x2 0)):Nat):Int)).first,(lget v1.2.2 (((lget v1.1 (max x2 0)):Nat):Int)).last⟩:bunch)) (((lget v1.1 (max x2 0)):Nat):Int)).reads,(lget (lset v1.2.2 (((lget v1.1 (max x2 0)):Nat):Int) (⟨(lget v1.2.2 (((lget v1.1 (max x2 0)):Nat):Int)).value,(lget v1.2.2 (((lget v1.1 (max x2 0)):Nat):Int)).write,x4,(lget v1.2.2 (((lget v1.1 (max x2 0)):Nat):Int)).first,(lget v1.2.2 (((lget v1.1 (max x2 0)):Nat):Int)).last⟩:bunch)) (((lget v1.1 (max x2 0)):Nat):Int)).first,(lget (lset v1.2.2 (((lget v1.1 (max x2 0)):Nat):Int) (⟨(lget v1.2.2 (((lget v1.1 (max x2 0)):Nat):Int)).value,(lget v1.2.2 (((lget v1.1 (max x2 0)):Nat):Int)).write,x4,(lget v1.2.2 (((lget v1.1 (max x2 0)):Nat):Int)).first,(lget v1.2.2 (((lget v1.1 (max x2 0)):Nat):Int)).last⟩:bunch)) (((lget v1.1 (max x2 0)):Nat):Int)).last⟩:bunch))) (.cons (rfl:some (AV.ptr 80048 0)=some (AV.ptr 80048 0)) .nil)))) (hk:=?_)
     exact Nrnq [(20,⟨0,true,true,false⟩),(50,⟨0,true,true,false⟩)] hF ih1
   ·refine Nexit rfl ?_
    have hF:=inrO_done hF dn1
    exact metQ (v1.2.1,v1.2.2) [] hF
  ·intro v hF
   unfold history_Order_v1_J1 at hF
   refine NAD [] [2,3,4] [4] [50] [] [100000] ⟨[(2,.row 50 0),(3,.bool true),(4,.ptr 4 0)],[(4,(c_Fault x.2))],[(50,.z 3 1 0 (v.1.map e_i64))],[],[(100000,⟨51,5,[],v.2.map o_bunch⟩)]⟩ .nil ?_
   cases hF
   exact Wz [] hfin

/- tabularyref.IsOrder -/
def R_IsOrder_J1 (v:Unit):Option Bool:=
 some true
def R_IsOrder_J3 (v1:Int×Int) (v3:Int):Option ((Int×Int)⊕Bool):=
 some (Sum.inl (v3,w64 (v1.2+1)))
def R_IsOrder_J2 (l:List Span) (order:List Int) (v1:Int×Int) (v2:Unit):Option ((Int×Int)⊕Bool):=
 if (decide (((lget l (lget order v1.2)).Kind)=1))=true then
  R_IsOrder_J3 v1 ((lget l (lget order v1.2)).Value)
 else
  if (!decide (((lget l (lget order v1.2)).Value)=v1.1))=true then
   some (Sum.inr false)
  else
   R_IsOrder_J3 v1 v1.1
def R_IsOrder_B2 (l:List Span) (order:List Int) (v1:Int×Int) (v4:Int):Option (Int⊕((Int×Int)⊕Bool)):=
 if (decide (v4<v1.2))=true then
  asrt (0≤v4∧v4<(order.length:Int)) <|
  asrt (0≤(lget order v4)∧(lget order v4)<(l.length:Int)) <|
  lt (R_SpanAhead (⟨(lget l (lget order v1.2)).Kind,(lget l (lget order v1.2)).Value,(lget l (lget order v1.2)).From,(lget l (lget order v1.2)).To⟩:Span) (⟨(lget l (lget order v4)).Kind,(lget l (lget order v4)).Value,(lget l (lget order v4)).From,(lget l (lget order v4)).To⟩:Span)) fun x3=>
  if x3=true then
   some (Sum.inr (Sum.inr false))
  else
   some (Sum.inl (w64 (v4+1)))
 else
  inrO (R_IsOrder_J2 l order v1 ())
def R_IsOrder_L2 (l:List Span) (order:List Int) (v1:Int×Int) (v0:Int):Option ((Int×Int)⊕Bool):=
 loopO (fun y=>R_IsOrder_B2 l order v1 y) v0
def R_IsOrder_B1 (l:List Span) (order x:List Int) (v1:Int×Int):Option ((Int×Int)⊕Bool):=
 if (decide (v1.2<(order.length:Int)))=true then
  asrt (0≤v1.2∧v1.2<(order.length:Int)) <|
  ob (R_Has x (lget order v1.2)) fun x1=>
  asrt ((!(!x1))=true→0≤v1.2∧v1.2≤(order.length:Int)) <|
  asrt ((!(!x1))=true→0≤v1.2∧v1.2<(order.length:Int)) <|
  ob (if (!(!x1))=true then (R_Has (ltake order v1.2) (lget order v1.2)) else some default) fun x2=>
  if ((!x1)||x2)=true then
   some (Sum.inr false)
  else
   asrt (0≤v1.2∧v1.2<(order.length:Int)) <|
   asrt (0≤(lget order v1.2)∧(lget order v1.2)<(l.length:Int)) <|
   R_IsOrder_L2 l order v1 0
 else
  inrO (R_IsOrder_J1 ())
def R_IsOrder_L1 (l:List Span) (order x:List Int) (v0:Int×Int):Option Bool:=
 loopO (fun y=>R_IsOrder_B1 l order x y) v0
def R_IsOrder (l:List Span) (order:List Int):Option Bool:=
 ob (R_Counting l) fun x=>
 if (!decide ((order.length:Int)=(x.length:Int)))=true then
  some false
 else
  R_IsOrder_L1 l order x (0,0)
theorem R_IsOrder_ok {l order r} (hF:R_IsOrder l order=some r):Pe Try.prog 17 S.none [.sl 4 (l.map e_Span),.sl 1 (order.map e_i64)] (.bool r) S.none:=by
 refine PT 70 [.tmp 4] [4] Try.func17 ?_
 intro Q g hfin
 unfold R_IsOrder at hF
 refine LR0 ?_
 obtain ⟨x,h0,hF⟩:=oE hF
 have p1:=(Pe.ren (R_Counting_ok h0) ⟨[],[(69,11)],[],[]⟩)
 refine RJ (.e [] [] p1 .z) ?_
 refine RJ (.l e_i64 order (.l e_i64 x .z)) ?_
 refine Nif hF ?_ ?_ <;> intro hb hF
 ·refine LR0 ?_
  cases hF
  exact Wz [] hfin
 ·refine LR0 ?_
  refine LR0 ?_
  refine NmQ (fun v=>R_IsOrder_J1 v=some r) (fun v=>(.w [])) ?_ ?_
  ·refine Nblk ?_
   unfold R_IsOrder_L1 at hF
   refine Nits hF [] (fun Z v1=>Z.up [0,1,5,6,7] [] [11] [] [(6,.i v1.1),(7,.i v1.2)] [] [] []) ?_
   intro n1 v1 y1 hF ih1 dn1
   unfold R_IsOrder_B1 at hF
   refine RJ (.l e_i64 order .z) ?_
   refine Nif hF ?_ ?_ <;> intro hb hF
   ·refine Nblk ?_
    obtain ⟨h2,hF⟩:=aE hF
    obtain ⟨x1,h3,hF⟩:=oE hF
    obtain ⟨h4,h5,hF⟩:=asrt2 hF
    obtain ⟨x2,h6,hF⟩:=oE hF
    refine DJ (.i e_i64 h2 (.b (R_Has_ok h3) (.a (.xs ((ltake order v1.2).map e_i64)) (.g (fun (ga0:(!(!x1))=true)=>(sl01_ok e_i64 (h4 ga0))) (.a (.av (e_i64 (lget order v1.2))) (.g (fun (ga0:(!(!x1))=true)=>(idx_ok e_i64 (h5 ga0))) (.a (.callB (.bool x2)) (.g (fun (ga0:(!(!x1))=true)=>(R_Has_ok (ite_t h6 ga0))) .z)))))))) ?_
    refine Nif hF ?_ ?_ <;> intro hb hF
    ·refine LR0 ?_
     have hF:=ret_done hF dn1
     cases hF
     exact Wz [] hfin
    ·obtain ⟨h7,hF⟩:=aE hF
     obtain ⟨h8,hF⟩:=aE hF
     refine RJ (.i e_i64 h7 (.i e_Span h8 .z)) ?_
     refine LR0 ?_
     refine NmS (fun v2=>R_IsOrder_J2 l order v1 v2=some y1) (fun Z v2=>Z.up [0,1,5,6,7,8] [8] [11] [] [] [] [] []) ?_ ?_
     ·refine Nblk ?_
      unfold R_IsOrder_L2 at hF
      refine Nits hF [] (fun Z v4=>Z.up [0,1,5,6,7,8,9] [8] [11] [] [(9,.i v4)] [] [] []) ?_
      intro n2 v4 y2 hF ih2 dn2
      unfold R_IsOrder_B2 at hF
      refine LR0 ?_
      refine Nif hF ?_ ?_ <;> intro hb hF
      ·refine Nblk ?_
       obtain ⟨h9,h10,hF⟩:=asrt2 hF
       obtain ⟨x3,h11,hF⟩:=lS hF
       refine DJ (.i e_i64 h9 (.i e_Span h10 (.b (R_SpanAhead_ok h11) .z))) ?_
       refine Nif hF ?_ ?_ <;> intro hb hF
       ·refine LR0 ?_
        have hF:=ret_done hF dn2
        have hF:=ret_done hF dn1
        cases hF
        exact Wz [] hfin
       ·refine LR0 ?_
        exact Nrnq [] hF ih2
      ·refine Nexit rfl ?_
       have hF:=inrO_done hF dn2
       exact metQ () [] hF
     ·intro v2 hF
      unfold R_IsOrder_J2 at hF
      refine LR0 ?_
      refine NmS (fun v3=>R_IsOrder_J3 v1 v3=some y1) (fun Z v3=>Z.up [0,1,5,6,7] [] [11] [] [(6,.i v3)] [] [] []) ?_ ?_
      ·refine Nif hF ?_ ?_ <;> intro hb hF
       ·refine LR0 ?_
        exact metQ ((lget l (lget order v1.2)).Value) [] hF
       ·refine LR0 ?_
        refine Nif hF ?_ ?_ <;> intro hb hF
        ·refine LR0 ?_
         have hF:=ret_done hF dn1
         cases hF
         exact Wz [] hfin
        ·exact metQ v1.1 [] hF
      ·intro v3 hF
       unfold R_IsOrder_J3 at hF
       refine LR0 ?_
       exact Nrnq [] hF ih1
   ·refine Nexit rfl ?_
    have hF:=inrO_done hF dn1
    exact metQ () [] hF
  ·intro v hF
   unfold R_IsOrder_J1 at hF
   refine LR0 ?_
   cases hF
   exact Wz [] hfin

/- tabularylaw.HistoryOrders -/
def law_HistoryOrders (l:List Span):Option Bool:=
 ob (law_historyBegun) fun x=>
 if (!x)=true then
  some false
 else
  if (((decide (60<(l.length:Int)))&&(decide ((l.length:Int)<201)))||(decide (400<(l.length:Int))))=true then
   some true
  else
   ob (law_ownSpans_v1 l) fun x1=>
   ob (history_Linear x1) fun x2=>
   ob (history_Order_v1 x1) fun x3=>
   ob (R_SpansFault l) fun x4=>
   ob (law_sameSpans x1 l) fun x5=>
   if (((!x5)||(!(decide (x2.2.Code=x4.Code)&&(decide (x2.2.At=x4.At)&&true))))||(!(decide (x3.2.2.Code=x4.Code)&&(decide (x3.2.2.At=x4.At)&&true))))=true then
    some false
   else
    if (!decide (x4.Code=0))=true then
     some (((!x2.1)&&(!x3.2.1))&&(decide ((x3.1.length:Int)=0)))
    else
     ob (R_Clashing l) fun x6=>
     if ((x2.1 == x6.2.2)||(!(x3.2.1 == x2.1)))=true then
      some false
     else
      if (!x3.2.1)=true then
       some (decide ((x3.1.length:Int)=0))
      else
       ob (R_IsOrder l x3.1) fun x7=>
       some x7
theorem law_HistoryOrders_ok {l r} (hF:law_HistoryOrders l=some r):Pe Try.prog 5 S.none [.sl 4 (l.map e_Span)] (.bool r) S.none:=by
 refine PT 93 [.tmp 2] [4] Try.func5 ?_
 intro Q g hfin
 unfold law_HistoryOrders at hF
 refine LR0 ?_
 obtain ⟨x,h0,hF⟩:=oE hF
 refine RJ (.b (law_historyBegun_ok h0) .z) ?_
 refine Nif hF ?_ ?_ <;> intro hb hF
 ·refine LR0 ?_
  cases hF
  exact Wz [] hfin
 ·refine RJ (.l e_Span l (.a (.nat (l.length:Int)) (.g (fun (_:(decide (60<(l.length:Int)))=true)=>(len_ok e_Span l)) (.a (.nat (l.length:Int)) (.g (fun (_:(!((decide (60<(l.length:Int)))&&(decide ((l.length:Int)<201))))=true)=>(len_ok e_Span l)) .z))))) ?_
  refine Nif hF ?_ ?_ <;> intro hb hF
  ·refine LR0 ?_
   cases hF
   exact Wz [] hfin
  ·obtain ⟨x1,h1,hF⟩:=oE hF
   refine RJ (.c (law_ownSpans_v1_ok h1) .z) ?_
   obtain ⟨x2,h2,hF⟩:=oE hF
   refine RJ (.b (history_Linear_ok h2) .z) ?_
   obtain ⟨x3,h3,hF⟩:=oE hF
   refine RJ (.c (history_Order_v1_ok h3) .z) ?_
   obtain ⟨x4,h4,hF⟩:=oE hF
   refine RJ (.b (R_SpansFault_ok h4) .z) ?_
   obtain ⟨x5,h5,hF⟩:=oE hF
   refine RJ (.b (law_sameSpans_ok h5) .z) ?_
   refine Nif hF ?_ ?_ <;> intro hb hF
   ·refine LR0 ?_
    cases hF
    exact Wz [] hfin
   ·refine LR0 ?_
    refine Nif hF ?_ ?_ <;> intro hb hF
    ·refine RJ (.a (.nat (x3.1.length:Int)) (.g (fun (_:((!x2.1)&&(!x3.2.1))=true)=>(len_ok e_i64 x3.1)) .z)) ?_
     cases hF
     exact Wz [] hfin
    ·obtain ⟨x6,h6,hF⟩:=oE hF
     refine RJ (.b (R_Clashing_ok h6) .z) ?_
     refine LR0 ?_
     refine Nif hF ?_ ?_ <;> intro hb hF
     ·refine LR0 ?_
      cases hF
      exact Wz [] hfin
     ·refine LR0 ?_
      refine Nif hF ?_ ?_ <;> intro hb hF
      ·refine RJ (.l e_i64 x3.1 .z) ?_
       cases hF
       exact Wz [] hfin
      ·obtain ⟨x7,h7,hF⟩:=oE hF
       refine RJ (.b (R_IsOrder_ok h7) .z) ?_
       cases hF
       exact Wz [] hfin

end
end G
end Go.Proofs.Ytnibbgjoanbnmaa
