/- The program's functions as plain functions, and that they are these. Written by a program (dec2.py). -/
import Derived.Test.YticbfakiihfgmaaGreatTys
namespace Go.Proofs.YticbfakiihfgmaaGreat
open Go Go.Dm
set_option linter.unusedVariables false
set_option linter.unusedSimpArgs false
set_option maxRecDepth 100000
namespace G
noncomputable section
/- tabularylaw.oneNote -/
def law_oneNote  : Note:=
 lt ([(⟨([114]:List UInt8),([99]:List UInt8),7,false,([97]:List UInt8)⟩:Cell)]) fun (v:List Cell)=>
 (⟨1,v⟩:Note)
theorem law_oneNote_ok { r} (hF:law_oneNote  = r):Pe Tryz.prog 59 S.none [] (.agg (c_Note r)) S.none:=by
 refine PT 4 [.cell 0 50] [50] Tryz.func59 ?_
 intro Q g hfin
 unfold law_oneNote at hF
 refine LR0 ?_
 refine NRL ([(⟨([114]:List UInt8),([99]:List UInt8),7,false,([97]:List UInt8)⟩:Cell)]) (fun v:List Cell=>([],[(0,[.i 1,.sl 5 (v.map zac)])],[],[])) [.sealed] [0] [0] [] [] .nil (fun v hv=>?_)
 have hF:=zev hF hv
 cases hF
 exact Wz [] hfin

/- tablet.fault -/
def zc2 (code at0:Int):Fault:=
 (⟨code,at0⟩:Fault)
theorem za9 {code at0 r} (hF:zc2 code at0=r):Pe Tryz.prog 65 S.none [.i code,.i at0] (.agg (zad r)) S.none:=by
 refine PT 8 [.cell 4 35] [35] Tryz.func65 ?_
 intro Q g hfin
 unfold zc2 at hF
 refine LR0 ?_
 refine LR0 ?_
 cases hF
 exact Wz [] hfin

/- disk.fault -/
def disk_fault (code at0:Int):Fault:=
 (⟨code,at0⟩:Fault)
theorem disk_fault_ok {code at0 r} (hF:disk_fault code at0=r):Pe Tryz.prog 110 S.none [.i code,.i at0] (.agg (zad r)) S.none:=by
 refine PT 8 [.cell 4 35] [35] Tryz.func110 ?_
 intro Q g hfin
 unfold disk_fault at hF
 refine LR0 ?_
 refine LR0 ?_
 cases hF
 exact Wz [] hfin

/- disk.Check -/
def disk_Check (d:Disk):Fault:=
 if (decide (60000<(d.Bytes.length:Int)))=true then
  lt (disk_fault 8 0) fun x=>
  x
 else
  if ((decide (d.Kept<0))||(decide ((d.Bytes.length:Int)<d.Kept)))=true then
   lt (disk_fault 3 0) fun x1=>
   x1
  else
   (⟨0,0⟩:Fault)
theorem disk_Check_ok {d r} (hF:disk_Check d=r):Pe Tryz.prog 109 S.none [.agg (c_Disk d)] (.agg (zad r)) S.none:=by
 refine PT 21 [.cell 2 35] [35] Tryz.func109 ?_
 intro Q g hfin
 unfold disk_Check at hF
 refine LR0 ?_
 refine RJ (.l zan d.Bytes .z) ?_
 refine Nif hF ?_ ?_ <;> intro hb hF
 ·obtain ⟨x,h0,hF⟩:=lS hF
  refine RJ (.b (disk_fault_ok h0) .z) ?_
  cases hF
  exact Wz [] hfin
 ·refine RJ (.a (.nat (d.Bytes.length:Int)) (.g (fun (_:(!(decide (d.Kept<0)))=true)=>(zdv zan d.Bytes)) .z)) ?_
  refine Nif hF ?_ ?_ <;> intro hb hF
  ·obtain ⟨x1,h1,hF⟩:=lS hF
   refine RJ (.b (disk_fault_ok h1) .z) ?_
   cases hF
   exact Wz [] hfin
  ·refine LR0 ?_
   cases hF
   exact Wz [] hfin

/- wire.Crc -/
def wire_Crc_J1 (v:Int):Option Int:=
 lt (bitsOp .xor .u32 (if IntKind.signed .u32=true then -1 else IntKind.max .u32) v) fun v1=>
 some v1
def wire_Crc_J2 (v2:Int×Int) (v3:Int):Option ((Int×Int)⊕Int):=
 some (Sum.inl (v3,w64 (v2.2+1)))
def wire_Crc_B2 (v2 v4:Int×Int):Option ((Int×Int)⊕((Int×Int)⊕Int)):=
 if (decide (v4.2<8))=true then
  ob (
   if (decide ((bitsOp .and .u32 v4.1 1)=1))=true then
    lt (bitsOp .xor .u32 (Int.fdiv v4.1 (2 ^ (min (1:Int).toNat 32))) 3988292384) fun v6=>
    some v6
   else
    some (Int.fdiv v4.1 (2 ^ (min (1:Int).toNat 32)))) fun v5=>
  some (Sum.inl (v5,w64 (v4.2+1)))
 else
  zem (wire_Crc_J2 v2 v4.1)
def wire_Crc_L2 (v2 v0:Int×Int):Option ((Int×Int)⊕Int):=
 zbc (fun y=>wire_Crc_B2 v2 y) v0
def wire_Crc_B1 (b:List UInt8) (v2:Int×Int):Option ((Int×Int)⊕Int):=
 if (decide (v2.2<(b.length:Int)))=true then
  zaq (0≤v2.2∧v2.2<(b.length:Int)) <|
  wire_Crc_L2 v2 (bitsOp .xor .u32 v2.1 (IntKind.u32.wrap ((zaf b v2.2).toNat:Int)),0)
 else
  zem (wire_Crc_J1 v2.1)
def wire_Crc_L1 (b:List UInt8) (v0:Int×Int):Option Int:=
 zbc (fun y=>wire_Crc_B1 b y) v0
def wire_Crc (b:List UInt8):Option Int:=
 wire_Crc_L1 b (4294967295,0)
theorem wire_Crc_ok {b r} (hF:wire_Crc b=some r):Pe Tryz.prog 143 S.none [.sl 1 (b.map zan)] (.int .u32 r) S.none:=by
 refine PT 31 [.tmp 2] [124] Tryz.func143 ?_
 intro Q g hfin
 unfold wire_Crc at hF
 refine LR0 ?_
 refine LR0 ?_
 refine RJ (.l zan b .z) ?_
 refine NmQ (fun v=>wire_Crc_J1 v=some r) (fun v=>⟨[(3,.int .u32 v)],[],[],[],[]⟩) ?_ ?_
 ·refine zcb ?_
  unfold wire_Crc_L1 at hF
  refine Nits hF [] (fun Z v2=>Z.up [3,7,8,9] [] [] [] [(3,.int .u32 v2.1),(9,.i v2.2)] [] [] []) ?_
  intro n1 v2 y1 hF ih1 dn1
  unfold wire_Crc_B1 at hF
  refine LR0 ?_
  refine Nif hF ?_ ?_ <;> intro hb hF
  ·refine zcb ?_
   obtain ⟨h0,hF⟩:=aE hF
   refine RJ (.i zan h0 .z) ?_
   refine LR0 ?_
   refine LR0 ?_
   refine NmS (fun v3=>wire_Crc_J2 v2 v3=some y1) (fun Z v3=>Z.up [3,7,8,9] [] [] [] [(3,.int .u32 v3)] [] [] []) ?_ ?_
   ·refine zcb ?_
    unfold wire_Crc_L2 at hF
    refine Nits hF [] (fun Z v4=>Z.up [3,7,8,9,17] [] [] [] [(3,.int .u32 v4.1),(17,.i v4.2)] [] [] []) ?_
    intro n2 v4 y2 hF ih2 dn2
    unfold wire_Crc_B2 at hF
    refine LR0 ?_
    refine Nif hF ?_ ?_ <;> intro hb hF
    ·refine zcb ?_
     refine LR0 ?_
     refine RJ (.g (by decide:(0:Int)≤1) .z) ?_
     refine LR0 ?_
     obtain ⟨v5,hv,hF⟩:=oE hF
     refine NmT (fun Z=>Z.up [3,7,8,9,17] [] [] [] [(3,.int .u32 v5)] [] [] []) ?_ ?_
     ·have hF:=hv
      refine Nif hF ?_ ?_ <;> intro hb hF
      ·refine NRL (bitsOp .xor .u32 (Int.fdiv v4.1 (2 ^ (min (1:Int).toNat 32))) 3988292384) (fun v6:Int=>([(3,.int .u32 v6)],[],[],[])) [] [3,7,8,9,17] [] [] [] .nil (fun v6 hv=>?_)
       have hF:=zev hF hv
       cases hF
       exact met' []
      ·cases hF
       exact met' []
     ·refine LR0 ?_
      exact Nrnq [] hF ih2
    ·refine zbv rfl ?_
     have hF:=zaj hF dn2
     exact ze6 v4.1 [] hF
   ·intro v3 hF
    unfold wire_Crc_J2 at hF
    refine LR0 ?_
    exact Nrnq [] hF ih1
  ·refine zbv rfl ?_
   have hF:=zaj hF dn1
   exact ze6 v2.1 [] hF
 ·intro v hF
  unfold wire_Crc_J1 at hF
  refine NRL (bitsOp .xor .u32 (if IntKind.signed .u32=true then -1 else IntKind.max .u32) v) (fun v1:Int=>([(2,.int .u32 v1)],[],[],[])) [] [2] [] [] [] .nil (fun v1 hv=>?_)
  have hF:=zev hF hv
  cases hF
  exact Wz [] hfin

/- slices.Equal[[]byte,byte] -/
def zee (v:Unit):Option Bool:=
 some true
def zdm (s1 s2:List UInt8) (v1:Int):Option (Int⊕Bool):=
 if (decide (v1<(s1.length:Int)))=true then
  zaq (0≤v1∧v1<(s1.length:Int)) <|
  zaq (0≤v1∧v1<(s2.length:Int)) <|
  if (!decide (((zaf s1 v1).toNat:Int)=((zaf s2 v1).toNat:Int)))=true then
   some (Sum.inr false)
  else
   some (Sum.inl (w64 (v1+1)))
 else
  zem (zee ())
def slices_Equal_byte_byte_L1 (s1 s2:List UInt8) (v0:Int):Option Bool:=
 zbc (fun y=>zdm s1 s2 y) v0
def zcx (s1 s2:List UInt8):Option Bool:=
 if (!decide ((s1.length:Int)=(s2.length:Int)))=true then
  some false
 else
  slices_Equal_byte_byte_L1 s1 s2 0
theorem slices_Equal_byte_byte_ok {s1 s2 r} (hF:zcx s1 s2=some r):Pe Tryz.prog 146 S.none [.sl 1 (s1.map zan),.sl 1 (s2.map zan)] (.bool r) S.none:=by
 refine PT 26 [.tmp 4] [4] Tryz.func146 ?_
 intro Q g hfin
 unfold zcx at hF
 refine LR0 ?_
 refine RJ (.l zan s1 (.l zan s2 .z)) ?_
 refine Nif hF ?_ ?_ <;> intro hb hF
 ·refine LR0 ?_
  cases hF
  exact Wz [] hfin
 ·refine RJ (.l zan s1 .z) ?_
  refine NmQ (fun v=>zee v=some r) (fun v=>(.w [])) ?_ ?_
  ·refine zcb ?_
   unfold slices_Equal_byte_byte_L1 at hF
   refine Nits hF [] (fun Z v1=>Z.up [0,1,12,13] [] [] [] [(13,.i v1)] [] [] []) ?_
   intro n1 v1 y1 hF ih1 dn1
   unfold zdm at hF
   refine LR0 ?_
   refine Nif hF ?_ ?_ <;> intro hb hF
   ·refine zcb ?_
    refine LR0 ?_
    obtain ⟨h0,h1,hF⟩:=asrt2 hF
    refine DJ (.i zan h0 (.i zan h1 .z)) ?_
    refine Nif hF ?_ ?_ <;> intro hb hF
    ·refine LR0 ?_
     have hF:=zc0 hF dn1
     cases hF
     exact Wz [] hfin
    ·refine LR0 ?_
     exact Nrnq [] hF ih1
   ·refine zbv rfl ?_
    have hF:=zaj hF dn1
    exact ze6 () [] hF
  ·intro v hF
   unfold zee at hF
   refine LR0 ?_
   cases hF
   exact Wz [] hfin

/- slices.Clone[[]byte,byte] -/
def zbu (s0:List UInt8):Option (List UInt8):=
 ubO (decide (s0.length=0)) (
  some ([]:List UInt8)) (
  zaq (((([]:List UInt8)++s0).length:Int)*1≤140737488351232) <|
  some (([]:List UInt8)++s0))
theorem zdq {s0 r} (hF:zbu s0=some r):Pe Tryz.prog 140 (.w []) [.sl 1 (s0.map zan)] (.row 5 0) ⟨[],[],[(5,.o 5 1 0 (r.map zan))],[],[]⟩:=by
 refine PT 8 [.tmp 2] [22] Tryz.func140 ?_
 intro Q g hfin
 unfold zbu at hF
 refine LR0 ?_
 refine NR [.bo (decide (s0.length=0))] [0,4] [] [] [(0,.sl 1 (s0.map zan)),(4,.ub (decide (s0.length=0)) true)] (hc (ubn_ok zan s0) .nil) ?_
 refine Wk_ub 4 rfl fun b hb1 hb2=>?_
 refine Nsplit rfl (fun hb=>?_) (fun hb=>?_)
 ·have hb:=hb1 hb
  have hF:=(ubO_elim hF).1 hb
  refine NR [] [2] [] [] [(2,.nils)] .nil ?_
  cases hF
  refine zap 2 60000 5 1 rfl rfl rfl ?_
  refine zat ⟨[],[(60000,5)],[],[]⟩ rfl ?_
  exact Wz [(5,⟨0,true,false,false⟩)] hfin
 ·have hF:=(ubO_elim hF).2
  obtain ⟨h0,hF⟩:=aE hF
  refine RJ (.p zan h0 .z) ?_
  cases hF
  exact Wz [(5,⟨0,true,true,false⟩)] hfin

/- wire.Opened -/
def wire_Opened_J1 (v:List (List UInt8)×Int):Option (List (List UInt8)×Int):=
 some (v.1,v.2)
def wire_Opened_B1 (b:List UInt8) (v1:List (List UInt8)×Int):Option ((List (List UInt8)×Int)⊕(List (List UInt8)×Int)):=
 if (decide (6≤(w64 ((b.length:Int) - v1.2))))=true then
  zaq (0≤v1.2∧v1.2<(b.length:Int)) <|
  zaq (0≤w64 (v1.2+1)∧w64 (v1.2+1)<(b.length:Int)) <|
  lt (bitsOp .or .i64 (w64 ((w64 ((zaf b v1.2).toNat:Int))*2 ^ (min (8:Int).toNat 64))) (w64 ((zaf b (w64 (v1.2+1))).toNat:Int))) fun v2=>
  if (decide ((b.length:Int)<(w64 ((w64 ((w64 (v1.2+2))+v2))+4))))=true then
   zem (wire_Opened_J1 (v1.1,v1.2))
  else
   zaq (0≤v1.2∧v1.2≤w64 ((w64 (v1.2+2))+v2)∧w64 ((w64 (v1.2+2))+v2)≤(b.length:Int)) <|
   ob (wire_Crc (zdu (zds b (w64 ((w64 (v1.2+2))+v2))) v1.2)) fun x=>
   zaq (0≤w64 ((w64 (v1.2+2))+v2)∧w64 ((w64 (v1.2+2))+v2)≤w64 ((w64 ((w64 (v1.2+2))+v2))+4)∧w64 ((w64 ((w64 (v1.2+2))+v2))+4)≤(b.length:Int)) <|
   ob (zcx (zdu (zds b (w64 ((w64 ((w64 (v1.2+2))+v2))+4))) (w64 ((w64 (v1.2+2))+v2))) ([zd1 (Int.fdiv x (2 ^ (min (24:Int).toNat 32))),zd1 (Int.fdiv x (2 ^ (min (16:Int).toNat 32))),zd1 (Int.fdiv x (2 ^ (min (8:Int).toNat 32))),zd1 x]:List UInt8)) fun x1=>
   if (!x1)=true then
    zem (wire_Opened_J1 (v1.1,v1.2))
   else
    zaq (0≤w64 (v1.2+2)∧w64 (v1.2+2)≤w64 ((w64 (v1.2+2))+v2)∧w64 ((w64 (v1.2+2))+v2)≤(b.length:Int)) <|
    ob (zbu (zdu (zds b (w64 ((w64 (v1.2+2))+v2))) (w64 (v1.2+2)))) fun x2=>
    zaq (((v1.1++([x2]:List (List UInt8))).length:Int)*24≤140737488351232) <|
    some (Sum.inl ((v1.1++([x2]:List (List UInt8))),w64 ((w64 ((w64 (v1.2+2))+v2))+4)))
 else
  zem (wire_Opened_J1 (v1.1,v1.2))
def wire_Opened_L1 (b:List UInt8) (v0:List (List UInt8)×Int):Option (List (List UInt8)×Int):=
 zbc (fun y=>wire_Opened_B1 b y) v0
def wire_Opened (b:List UInt8):Option (List (List UInt8)×Int):=
 wire_Opened_L1 b (([]:List (List UInt8)),0)
theorem wire_Opened_ok {b r} (hF:wire_Opened b=some r):Pe Tryz.prog 118 (.w []) [.sl 1 (b.map zan)] (.tup [.row 66 0,.i r.2]) ⟨[],[],[(66,.z 22 1 0 (r.1.map zag))],[],[]⟩:=by
 refine PT 71 [.tmp 2,.tmp 3] [25,3] Tryz.func118 ?_
 intro Q g hfin
 unfold wire_Opened at hF
 refine NR [] [0,2,3] [] [] [(0,.sl 1 (b.map zan)),(2,.nils),(3,.i 0)] .nil ?_
 refine NmQ (fun v=>wire_Opened_J1 v=some r) (fun v=>⟨[(2,.row 66 0),(3,.i v.2)],[],[(66,.z 22 1 0 (v.1.map zag))],[],[]⟩) ?_ ?_
 ·refine zcb ?_
  unfold wire_Opened_L1 at hF
  refine zap 2 60000 22 1 rfl rfl rfl ?_
  refine zci (fs:=[0,2,3]) (bs:=[]) (rs:=[60000]) (ms:=[]) (aa:=[]) (nv:=[]) rfl ?_
  refine zat ⟨[],[(60000,66)],[],[]⟩ rfl ?_
  refine Nitr hF [] (fun v1=>⟨[(0,.sl 1 (b.map zan)),(2,.row 66 0),(3,.i v1.2)],[],[(66,.z 22 1 0 (v1.1.map zag))],[],[]⟩) ?_
  intro n1 v1 y1 hF ih1 dn1
  unfold wire_Opened_B1 at hF
  refine RJ (.l zan b .z) ?_
  refine Nif hF ?_ ?_ <;> intro hb hF
  ·refine zcb ?_
   obtain ⟨h0,h1,hF⟩:=asrt2 hF
   refine NDL (bitsOp .or .i64 (w64 ((w64 ((zaf b v1.2).toNat:Int))*2 ^ (min (8:Int).toNat 64))) (w64 ((zaf b (w64 (v1.2+1))).toNat:Int))) (fun v2:Int=>([(4,.i v2)],[],[],[])) [.av (zan (zaf b v1.2)),.av (zan (zaf b (w64 (v1.2+1))))] [0,2,3,4] [] [66] [] (hc (idx_ok zan h0) (hc (by decide:(0:Int)≤8) (hc (idx_ok zan h1) .nil))) (fun v2 hv=>?_)
   have hF:=zev hF hv
   refine LR0 ?_
   refine RJ (.l zan b .z) ?_
   refine Nif hF ?_ ?_ <;> intro hb hF
   ·refine zbv rfl ?_
    have hF:=zaj hF dn1
    exact ze6 (v1.1,v1.2) [] hF
   ·obtain ⟨h2,hF⟩:=aE hF
    obtain ⟨x,h3,hF⟩:=oE hF
    refine RJ (.s11 zan h2 (.b (wire_Crc_ok h3) .z)) ?_
    obtain ⟨h4,hF⟩:=aE hF
    obtain ⟨x1,h5,hF⟩:=oE hF
    refine RJ (.s11 zan h4 (.g (by decide:(0:Int)≤24) (.g (by decide:(0:Int)≤16) (.g (by decide:(0:Int)≤8) (.a (.sealed) (.b (slices_Equal_byte_byte_ok h5) .z)))))) ?_
    refine Nif hF ?_ ?_ <;> intro hb hF
    ·refine zbv rfl ?_
     have hF:=zaj hF dn1
     exact ze6 (v1.1,v1.2) [] hF
    ·obtain ⟨h6,hF⟩:=aE hF
     obtain ⟨x2,h7,hF⟩:=oE hF
     have p8:=(Pe.ren (zdq h7) ⟨[],[(5,64)],[],[]⟩)
     obtain ⟨h9,hF⟩:=aE hF
     refine RJ (.s11 zan h6 (.e [] [] p8 (.a (.sealed) (.p zag h9 .z)))) ?_
     refine LR0 ?_
     exact Nrnq [(66,⟨0,true,true,false⟩)] hF ih1
  ·refine zbv rfl ?_
   have hF:=zaj hF dn1
   exact ze6 (v1.1,v1.2) [] hF
 ·intro v hF
  unfold wire_Opened_J1 at hF
  refine LR0 ?_
  cases hF
  exact Wz [] hfin

/- wal.fault -/
def wal_fault (code at0:Int):Fault:=
 (⟨code,at0⟩:Fault)
theorem wal_fault_ok {code at0 r} (hF:wal_fault code at0=r):Pe Tryz.prog 107 S.none [.i code,.i at0] (.agg (zad r)) S.none:=by
 refine PT 8 [.cell 4 35] [35] Tryz.func107 ?_
 intro Q g hfin
 unfold wal_fault at hF
 refine LR0 ?_
 refine LR0 ?_
 cases hF
 exact Wz [] hfin

/- wal.Read$1 -/
def wal_Read_1 (x:UInt8):Bool:=
 decide ((x.toNat:Int)<((128:UInt8).toNat:Int))
theorem wal_Read_1_ok {x r} (hF:wal_Read_1 x=r):Pe Tryz.prog 148 S.none [.int .u8 ((x).toNat:Int)] (.bool r) S.none:=by
 refine PT 5 [.tmp 2] [4] Tryz.func148 ?_
 intro Q g hfin
 unfold wal_Read_1 at hF
 refine LR0 ?_
 refine LR0 ?_
 cases hF
 exact Wz [] hfin

/- slices.IndexFunc[[]byte,byte] -/
def zeq (v:Unit):Option Int:=
 some (-1)
def zax (s0:List UInt8) (v1:Int):Option (Int⊕Int):=
 if (decide (v1<(s0.length:Int)))=true then
  zaq (0≤v1∧v1<(s0.length:Int)) <|
  lt (wal_Read_1 (zaf s0 v1)) fun x=>
  if x=true then
   some (Sum.inr v1)
  else
   some (Sum.inl (w64 (v1+1)))
 else
  zem (zeq ())
def slices_IndexFunc_byte_byte_L1 (s0:List UInt8) (v0:Int):Option Int:=
 zbc (fun y=>zax s0 y) v0
def zcf (s0:List UInt8):Option Int:=
 slices_IndexFunc_byte_byte_L1 s0 0
theorem slices_IndexFunc_byte_byte_ok {s0 r} (hF:zcf s0=some r):Pe Tryz.prog 147 S.none [.sl 1 (s0.map zan),.fn 148 []] (.i r) S.none:=by
 refine PT 19 [.tmp 4] [3] Tryz.func147 ?_
 intro Q g hfin
 unfold zcf at hF
 refine LR0 ?_
 refine RJ (.l zan s0 .z) ?_
 refine NmQ (fun v=>zeq v=some r) (fun v=>(.w [])) ?_ ?_
 ·refine zcb ?_
  unfold slices_IndexFunc_byte_byte_L1 at hF
  refine Nits hF [] (fun Z v1=>Z.up [0,1,7,8] [] [] [] [(8,.i v1)] [] [] []) ?_
  intro n1 v1 y1 hF ih1 dn1
  unfold zax at hF
  refine LR0 ?_
  refine Nif hF ?_ ?_ <;> intro hb hF
  ·refine zcb ?_
   refine LR0 ?_
   obtain ⟨h0,hF⟩:=aE hF
   obtain ⟨x,h1,hF⟩:=lS hF
   refine RJ (.i zan h0 (.b (wal_Read_1_ok h1) .z)) ?_
   refine Nif hF ?_ ?_ <;> intro hb hF
   ·refine LR0 ?_
    have hF:=zc0 hF dn1
    cases hF
    exact Wz [] hfin
   ·refine LR0 ?_
    exact Nrnq [] hF ih1
  ·refine zbv rfl ?_
   have hF:=zaj hF dn1
   exact ze6 () [] hF
 ·intro v hF
  unfold zeq at hF
  refine LR0 ?_
  cases hF
  exact Wz [] hfin

/- wire.Read -/
def wire_Read (b:List UInt8):Reader:=
 (⟨b,false⟩:Reader)
theorem wire_Read_ok {b r} (hF:wire_Read b=r):Pe Tryz.prog 149 (.w []) [.sl 1 (b.map zan)] (.ptr 5 0) ⟨[],[(5,(zef r))],[],[],[]⟩:=by
 refine PT 6 [.tmp 2] [171] Tryz.func149 ?_
 intro Q g hfin
 unfold wire_Read at hF
 refine LR0 ?_
 refine LR0 ?_
 cases hF
 exact Wz [] hfin

/- (*wire.Reader).Num -/
def zeo (v:Reader):Option (Int×Reader):=
 some (0,(⟨([]:List UInt8),true⟩:Reader))
def zdi (v1:Reader×Int×List UInt8×Int×Int):Option ((Reader×Int×List UInt8×Int×Int)⊕(Int×Reader)):=
 if (decide (v1.2.2.2.2<v1.2.2.2.1))=true then
  zaq (0≤v1.2.2.2.2∧v1.2.2.2.2<(v1.2.2.1.length:Int)) <|
  zaq (0≤(w64 (7*v1.2.2.2.2))) <|
  lt (bitsOp .or .i64 v1.2.1 (w64 ((w64 ((zd1 (((BitVec.ofInt 8 ((zaf v1.2.2.1 v1.2.2.2.2).toNat:Int) &&& BitVec.ofInt 8 ((127:UInt8).toNat:Int)).toNat:Int))).toNat:Int))*2 ^ (min (w64 (7*v1.2.2.2.2)).toNat 64)))) fun v2=>
  if ((decide (4<v1.2.2.2.2))||(decide (1000000000<v2)))=true then
   zem (zeo v1.1)
  else
   if (decide (((zaf v1.2.2.1 v1.2.2.2.2).toNat:Int)<((128:UInt8).toNat:Int)))=true then
    if ((decide (0<v1.2.2.2.2))&&(decide (((zaf v1.2.2.1 v1.2.2.2.2).toNat:Int)=((0:UInt8).toNat:Int))))=true then
     zem (zeo v1.1)
    else
     zaq (0≤w64 (v1.2.2.2.2+1)∧w64 (v1.2.2.2.2+1)≤(v1.1.b.length:Int)) <|
     some (Sum.inr (v2,(⟨(zdu v1.1.b (w64 (v1.2.2.2.2+1))),v1.1.bad⟩:Reader)))
   else
    some (Sum.inl (v1.1,v2,v1.2.2.1,v1.2.2.2.1,w64 (v1.2.2.2.2+1)))
 else
  zem (zeo v1.1)
def wire_Reader_Num_L1 (v0:Reader×Int×List UInt8×Int×Int):Option (Int×Reader):=
 zbc (fun y=>zdi y) v0
def zb1 (box:Reader):Option (Int×Reader):=
 wire_Reader_Num_L1 (box,0,box.b,(box.b.length:Int),0)
theorem wire_Reader_Num_ok {box r} (hF:zb1 box=some r):Pe Tryz.prog 150 ⟨[],[(100000,(zef box))],[],[],[]⟩ [.ptr 100000 0] (.i r.1) ⟨[],[(100000,(zef r.2))],[],[],[]⟩:=by
 refine PT 56 [.tmp 2] [3] Tryz.func150 ?_
 intro Q g hfin
 unfold zb1 at hF
 refine LR0 ?_
 refine LR0 ?_
 refine RJ (.l zan box.b .z) ?_
 refine NmS (fun v=>zeo v=some r) (fun Z v=>Z.up [0] [100000] [] [] [] [(100000,(zef v))] [] []) ?_ ?_
 ·refine zcb ?_
  unfold wire_Reader_Num_L1 at hF
  refine Nitr hF [] (fun v1=>⟨[(0,.ptr 100000 0),(3,.i v1.2.1),(9,.sl 1 (v1.2.2.1.map zan)),(10,.i v1.2.2.2.1),(11,.i v1.2.2.2.2)],[(100000,(zef v1.1))],[],[],[]⟩) ?_
  intro n1 v1 y1 hF ih1 dn1
  unfold zdi at hF
  refine LR0 ?_
  refine Nif hF ?_ ?_ <;> intro hb hF
  ·refine zcb ?_
   obtain ⟨h0,hF⟩:=aE hF
   refine RJ (.i zan h0 .z) ?_
   obtain ⟨h1,hF⟩:=aE hF
   refine NRL (bitsOp .or .i64 v1.2.1 (w64 ((w64 ((zd1 (((BitVec.ofInt 8 ((zaf v1.2.2.1 v1.2.2.2.2).toNat:Int) &&& BitVec.ofInt 8 ((127:UInt8).toNat:Int)).toNat:Int))).toNat:Int))*2 ^ (min (w64 (7*v1.2.2.2.2)).toNat 64)))) (fun v2:Int=>([(3,.i v2)],[],[],[])) [] [0,3,4,5,9,10,11] [100000] [] [] (hc h1 .nil) (fun v2 hv=>?_)
   have hF:=zev hF hv
   refine LR0 ?_
   refine Nif hF ?_ ?_ <;> intro hb hF
   ·refine zbv rfl ?_
    have hF:=zaj hF dn1
    exact ze6 v1.1 [] hF
   ·refine LR0 ?_
    refine Nif hF ?_ ?_ <;> intro hb hF
    ·refine LR0 ?_
     refine Nif hF ?_ ?_ <;> intro hb hF
     ·refine zbv rfl ?_
      have hF:=zaj hF dn1
      exact ze6 v1.1 [] hF
     ·obtain ⟨h2,hF⟩:=aE hF
      refine RJ (.s10 zan h2 .z) ?_
      refine LR0 ?_
      have hF:=zc0 hF dn1
      cases hF
      exact Wz [] hfin
    ·refine LR0 ?_
     exact Nrnq [] hF ih1
  ·refine zbv rfl ?_
   have hF:=zaj hF dn1
   exact ze6 v1.1 [] hF
 ·intro v hF
  unfold zeo at hF
  refine LR0 ?_
  refine VR [] [2] [100000] [] [] [(2,.i 0)] [(100000,[.nils,.bool true])] [] [] .nil ?_
  cases hF
  refine Wk_coeB 100000 [.sl 1 (([]:List UInt8).map zan),.bool true] rfl (.cons (CoeS.nils 1) (.cons (CoeS.refl _) .nil)) ?_
  exact Wz [] hfin

/- (*wire.Reader).Ok -/
def wire_Reader_Ok (box:Reader):Bool:=
 (!box.bad)&&(decide ((box.b.length:Int)=0))
theorem wire_Reader_Ok_ok {box r} (hF:wire_Reader_Ok box=r):Pe Tryz.prog 151 ⟨[],[(100000,(zef box))],[],[],[]⟩ [.ptr 100000 0] (.bool r) ⟨[],[(100000,(zef box))],[],[],[]⟩:=by
 refine PT 16 [.tmp 2] [4] Tryz.func151 ?_
 intro Q g hfin
 unfold wire_Reader_Ok at hF
 refine LR0 ?_
 refine RJ (.a (.nat (box.b.length:Int)) (.g (fun (_:(!box.bad)=true)=>(zdv zan box.b)) .z)) ?_
 cases hF
 exact Wz [] hfin

/- cell.fault -/
def cell_fault (code at0:Int):Fault:=
 (⟨code,at0⟩:Fault)
theorem cell_fault_ok {code at0 r} (hF:cell_fault code at0=r):Pe Tryz.prog 134 S.none [.i code,.i at0] (.agg (zad r)) S.none:=by
 refine PT 8 [.cell 4 35] [35] Tryz.func134 ?_
 intro Q g hfin
 unfold cell_fault at hF
 refine LR0 ?_
 refine LR0 ?_
 cases hF
 exact Wz [] hfin

/- (*wire.Reader).More -/
def wire_Reader_More (box:Reader):Bool:=
 decide (0<(box.b.length:Int))
theorem wire_Reader_More_ok {box r} (hF:wire_Reader_More box=r):Pe Tryz.prog 167 ⟨[],[(100000,(zef box))],[],[],[]⟩ [.ptr 100000 0] (.bool r) ⟨[],[(100000,(zef box))],[],[],[]⟩:=by
 refine PT 9 [.tmp 2] [4] Tryz.func167 ?_
 intro Q g hfin
 unfold wire_Reader_More at hF
 refine LR0 ?_
 refine RJ (.l zan box.b .z) ?_
 cases hF
 exact Wz [] hfin

/- (*wire.Reader).Text -/
def zca (box:Reader):Option (List UInt8×Reader):=
 ob (zb1 box) fun x=>
 if (x.2.bad||(decide ((x.2.b.length:Int)<x.1)))=true then
  some (([]:List UInt8),(⟨([]:List UInt8),true⟩:Reader))
 else
  zaq (0≤x.1∧x.1≤(x.2.b.length:Int)) <|
  zaq (0≤x.1∧x.1≤(x.2.b.length:Int)) <|
  some ((zds x.2.b x.1),(⟨(zdu x.2.b x.1),x.2.bad⟩:Reader))
theorem wire_Reader_Text_ok {box r} (hF:zca box=some r):Pe Tryz.prog 169 ⟨[],[(100000,(zef box))],[],[],[]⟩ [.ptr 100000 0] (.str r.1) ⟨[],[(100000,(zef r.2))],[],[],[]⟩:=by
 refine PT 43 [.tmp 2] [9] Tryz.func169 ?_
 intro Q g hfin
 unfold zca at hF
 refine LR0 ?_
 obtain ⟨x,h0,hF⟩:=oE hF
 have p1:=(Pe.ren (wire_Reader_Num_ok h0) ⟨[],[],[],[]⟩)
 refine RJ (.e [100000] [] p1 .z) ?_
 refine RJ (.a (.nat (x.2.b.length:Int)) (.g (fun (_:(!x.2.bad)=true)=>(zdv zan x.2.b)) .z)) ?_
 refine Nif hF ?_ ?_ <;> intro hb hF
 ·refine LR0 ?_
  refine VR [] [2] [100000] [] [] [(2,.str ([]:List UInt8))] [(100000,[.nils,.bool true])] [] [] .nil ?_
  cases hF
  refine Wk_coeB 100000 [.sl 1 (([]:List UInt8).map zan),.bool true] rfl (.cons (CoeS.nils 1) (.cons (CoeS.refl _) .nil)) ?_
  exact Wz [] hfin
 ·obtain ⟨h2,hF⟩:=aE hF
  refine RJ (.s01 zan h2 (.a (.str (zds x.2.b x.1)) (.g (u8s_ok (zds x.2.b x.1)) .z))) ?_
  obtain ⟨h3,hF⟩:=aE hF
  refine RJ (.s10 zan h3 .z) ?_
  refine LR0 ?_
  cases hF
  exact Wz [] hfin

/- (*wire.Reader).Fine -/
def zdt (box:Reader):Bool:=
 !box.bad
theorem wire_Reader_Fine_ok {box r} (hF:zdt box=r):Pe Tryz.prog 176 ⟨[],[(100000,(zef box))],[],[],[]⟩ [.ptr 100000 0] (.bool r) ⟨[],[(100000,(zef box))],[],[],[]⟩:=by
 refine PT 8 [.tmp 2] [4] Tryz.func176 ?_
 intro Q g hfin
 unfold zdt at hF
 refine LR0 ?_
 refine LR0 ?_
 cases hF
 exact Wz [] hfin

/- cell.code -/
def cell_code (c:Cell):Int:=
 if ((((decide (c.Row=([]:List UInt8)))||(decide (40<(c.Row.length:Int))))||(decide (40<(c.Col.length:Int))))||(decide (200<(c.Value.length:Int))))=true then
  8
 else
  if ((decide (c.Time<0))||(decide (1000000000<c.Time)))=true then
   3
  else
   if (c.Gone&&(!decide (c.Value=([]:List UInt8))))=true then
    5
   else
    0
theorem cell_code_ok {c r} (hF:cell_code c=r):Pe Tryz.prog 141 S.none [.agg (c_Cell c)] (.i r) S.none:=by
 refine PT 42 [.tmp 2] [3] Tryz.func141 ?_
 intro Q g hfin
 unfold cell_code at hF
 refine LR0 ?_
 refine zcb ?_
 refine LR0 ?_
 refine Nif hF ?_ ?_ <;> intro hb hF
 ·refine LR0 ?_
  cases hF
  exact Wz [] hfin
 ·refine LR0 ?_
  refine Nif hF ?_ ?_ <;> intro hb hF
  ·refine LR0 ?_
   cases hF
   exact Wz [] hfin
  ·refine LR0 ?_
   refine Nif hF ?_ ?_ <;> intro hb hF
   ·refine LR0 ?_
    cases hF
    exact Wz [] hfin
   ·refine LR0 ?_
    cases hF
    exact Wz [] hfin

/- cell.From -/
def cell_From (box:Reader):Option (Cell×Bool×Reader):=
 ob (zca box) fun x=>
 ob (zca x.2) fun x1=>
 ob (zb1 x1.2) fun x2=>
 ob (zb1 x2.2) fun x3=>
 ob (zca x3.2) fun x4=>
 lt (zdt x4.2) fun x5=>
 lt (cell_code (⟨x.1,x1.1,x2.1,decide (x3.1=1),x4.1⟩:Cell)) fun x6=>
 some ((⟨x.1,x1.1,x2.1,decide (x3.1=1),x4.1⟩:Cell),((decide (x3.1<2))&&x5)&&(decide (x6=0)),x4.2)
theorem cell_From_ok {box r} (hF:cell_From box=some r):Pe Tryz.prog 168 ⟨[],[(100000,(zef box))],[],[],[]⟩ [.ptr 100000 0] (.tup [.agg (c_Cell r.1),.bool r.2.1]) ⟨[],[(100000,(zef r.2.2))],[],[],[]⟩:=by
 refine PT 33 [.cell 2 53,.tmp 3] [53,4] Tryz.func168 ?_
 intro Q g hfin
 unfold cell_From at hF
 refine LR0 ?_
 obtain ⟨x,h0,hF⟩:=oE hF
 have p1:=(Pe.ren (wire_Reader_Text_ok h0) ⟨[],[],[],[]⟩)
 obtain ⟨x1,h2,hF⟩:=oE hF
 have p3:=(Pe.ren (wire_Reader_Text_ok h2) ⟨[],[],[],[]⟩)
 obtain ⟨x2,h4,hF⟩:=oE hF
 have p5:=(Pe.ren (wire_Reader_Num_ok h4) ⟨[],[],[],[]⟩)
 refine RJ (.e [100000] [] p1 (.e [100000] [] p3 (.e [100000] [] p5 .z))) ?_
 obtain ⟨x3,h6,hF⟩:=oE hF
 have p7:=(Pe.ren (wire_Reader_Num_ok h6) ⟨[],[],[],[]⟩)
 refine RJ (.e [100000] [] p7 .z) ?_
 obtain ⟨x4,h8,hF⟩:=oE hF
 have p9:=(Pe.ren (wire_Reader_Text_ok h8) ⟨[],[],[],[]⟩)
 refine RJ (.e [100000] [] p9 .z) ?_
 obtain ⟨x5,h10,hF⟩:=lS hF
 obtain ⟨x6,h11,hF⟩:=lS hF
 refine DJ (.a (.callR [100000] [] [] [] (.bool x5)) (.g (fun (ga0:(decide (x3.1<2))=true)=>(Pe.ren (wire_Reader_Fine_ok h10) ⟨[],[],[],[]⟩)) (.a (.callB (.i x6)) (.g (fun (ga0:((decide (x3.1<2))&&x5)=true)=>(cell_code_ok h11)) .z)))) ?_
 cases hF
 exact Wz [] hfin

/- cmp.isNaN[string] -/
def cmp_isNaN_string (x:List UInt8):Bool:=
 !decide (x=x)
theorem cmp_isNaN_string_ok {x r} (hF:cmp_isNaN_string x=r):Pe Tryz.prog 172 S.none [.str x] (.bool r) S.none:=by
 refine PT 6 [.tmp 2] [4] Tryz.func172 ?_
 intro Q g hfin
 unfold cmp_isNaN_string at hF
 refine LR0 ?_
 refine LR0 ?_
 cases hF
 exact Wz [] hfin

/- cmp.Compare[string] -/
def zep (x y0:List UInt8):Int:=
 lt (cmp_isNaN_string x) fun x1=>
 lt (cmp_isNaN_string y0) fun x2=>
 if x1=true then
  if x2=true then
   0
  else
   (-1)
 else
  if x2=true then
   1
  else
   if (Op.bytesLess x y0)=true then
    (-1)
   else
    if (Op.bytesLess y0 x)=true then
     1
    else
     0
theorem cmp_Compare_string_ok {x y0 r} (hF:zep x y0=r):Pe Tryz.prog 162 S.none [.str x,.str y0] (.i r) S.none:=by
 refine PT 20 [.tmp 4] [3] Tryz.func162 ?_
 intro Q g hfin
 unfold zep at hF
 refine LR0 ?_
 obtain ⟨x1,h0,hF⟩:=lS hF
 refine RJ (.b (cmp_isNaN_string_ok h0) .z) ?_
 obtain ⟨x2,h1,hF⟩:=lS hF
 refine RJ (.b (cmp_isNaN_string_ok h1) .z) ?_
 refine LR0 ?_
 refine Nif hF ?_ ?_ <;> intro hb hF
 ·refine LR0 ?_
  refine Nif hF ?_ ?_ <;> intro hb hF
  ·refine LR0 ?_
   cases hF
   exact Wz [] hfin
  ·refine LR0 ?_
   cases hF
   exact Wz [] hfin
 ·refine LR0 ?_
  refine Nif hF ?_ ?_ <;> intro hb hF
  ·refine LR0 ?_
   cases hF
   exact Wz [] hfin
  ·refine LR0 ?_
   refine Nif hF ?_ ?_ <;> intro hb hF
   ·refine LR0 ?_
    cases hF
    exact Wz [] hfin
   ·refine LR0 ?_
    refine Nif hF ?_ ?_ <;> intro hb hF
    ·refine LR0 ?_
     cases hF
     exact Wz [] hfin
    ·refine LR0 ?_
     cases hF
     exact Wz [] hfin

/- cmp.isNaN[int] -/
def cmp_isNaN_int (x:Int):Bool:=
 !decide (x=x)
theorem cmp_isNaN_int_ok {x r} (hF:cmp_isNaN_int x=r):Pe Tryz.prog 173 S.none [.i x] (.bool r) S.none:=by
 refine PT 6 [.tmp 2] [4] Tryz.func173 ?_
 intro Q g hfin
 unfold cmp_isNaN_int at hF
 refine LR0 ?_
 refine LR0 ?_
 cases hF
 exact Wz [] hfin

/- cmp.Compare[int] -/
def cmp_Compare_int (x y0:Int):Int:=
 lt (cmp_isNaN_int x) fun x1=>
 lt (cmp_isNaN_int y0) fun x2=>
 if x1=true then
  if x2=true then
   0
  else
   (-1)
 else
  if x2=true then
   1
  else
   if (decide (x<y0))=true then
    (-1)
   else
    if (decide (y0<x))=true then
     1
    else
     0
theorem cmp_Compare_int_ok {x y0 r} (hF:cmp_Compare_int x y0=r):Pe Tryz.prog 163 S.none [.i x,.i y0] (.i r) S.none:=by
 refine PT 20 [.tmp 4] [3] Tryz.func163 ?_
 intro Q g hfin
 unfold cmp_Compare_int at hF
 refine LR0 ?_
 obtain ⟨x1,h0,hF⟩:=lS hF
 refine RJ (.b (cmp_isNaN_int_ok h0) .z) ?_
 obtain ⟨x2,h1,hF⟩:=lS hF
 refine RJ (.b (cmp_isNaN_int_ok h1) .z) ?_
 refine LR0 ?_
 refine Nif hF ?_ ?_ <;> intro hb hF
 ·refine LR0 ?_
  refine Nif hF ?_ ?_ <;> intro hb hF
  ·refine LR0 ?_
   cases hF
   exact Wz [] hfin
  ·refine LR0 ?_
   cases hF
   exact Wz [] hfin
 ·refine LR0 ?_
  refine Nif hF ?_ ?_ <;> intro hb hF
  ·refine LR0 ?_
   cases hF
   exact Wz [] hfin
  ·refine LR0 ?_
   refine Nif hF ?_ ?_ <;> intro hb hF
   ·refine LR0 ?_
    cases hF
    exact Wz [] hfin
   ·refine LR0 ?_
    refine Nif hF ?_ ?_ <;> intro hb hF
    ·refine LR0 ?_
     cases hF
     exact Wz [] hfin
    ·refine LR0 ?_
     cases hF
     exact Wz [] hfin

/- cmp.Or[int] -/
def cmp_Or_int_J1 (v:Unit):Option Int:=
 some 0
def zeg (vals:List Int) (v1:Int):Option (Int⊕Int):=
 if (decide (v1<(vals.length:Int)))=true then
  zaq (0≤v1∧v1<(vals.length:Int)) <|
  if (!decide ((zaf vals v1)=0))=true then
   some (Sum.inr (zaf vals v1))
  else
   some (Sum.inl (w64 (v1+1)))
 else
  zem (cmp_Or_int_J1 ())
def cmp_Or_int_L1 (vals:List Int) (v0:Int):Option Int:=
 zbc (fun y=>zeg vals y) v0
def cmp_Or_int (vals:List Int):Option Int:=
 cmp_Or_int_L1 vals 0
theorem cmp_Or_int_ok {vals r} (hF:cmp_Or_int vals=some r):Pe Tryz.prog 161 S.none [.sl 1 (vals.map e_i64)] (.i r) S.none:=by
 refine PT 18 [.tmp 2] [3] Tryz.func161 ?_
 intro Q g hfin
 unfold cmp_Or_int at hF
 refine LR0 ?_
 refine LR0 ?_
 refine RJ (.l e_i64 vals .z) ?_
 refine NmS (fun v=>cmp_Or_int_J1 v=some r) (fun Z v=>Z.up [3] [] [] [] [] [] [] []) ?_ ?_
 ·refine zcb ?_
  unfold cmp_Or_int_L1 at hF
  refine Nits hF [] (fun Z v1=>Z.up [3,6,7,8] [] [] [] [(8,.i v1)] [] [] []) ?_
  intro n1 v1 y1 hF ih1 dn1
  unfold zeg at hF
  refine LR0 ?_
  refine Nif hF ?_ ?_ <;> intro hb hF
  ·refine zcb ?_
   obtain ⟨h0,hF⟩:=aE hF
   refine RJ (.i e_i64 h0 .z) ?_
   refine LR0 ?_
   refine Nif hF ?_ ?_ <;> intro hb hF
   ·refine LR0 ?_
    have hF:=zc0 hF dn1
    cases hF
    exact Wz [] hfin
   ·refine LR0 ?_
    exact Nrnq [] hF ih1
  ·refine zbv rfl ?_
   have hF:=zaj hF dn1
   exact ze6 () [] hF
 ·intro v hF
  unfold cmp_Or_int_J1 at hF
  refine LR0 ?_
  cases hF
  exact Wz [] hfin

/- cell.Order -/
def cell_Order (a0 b:Cell):Option Int:=
 lt (zep a0.Row b.Row) fun x=>
 lt (zep a0.Col b.Col) fun x1=>
 lt (cmp_Compare_int b.Time a0.Time) fun x2=>
 ob (cmp_Or_int ([x,x1,x2]:List Int)) fun x3=>
 some x3
theorem cell_Order_ok {a0 b r} (hF:cell_Order a0 b=some r):Pe Tryz.prog 136 S.none [.agg (c_Cell a0),.agg (c_Cell b)] (.i r) S.none:=by
 refine PT 22 [.tmp 4] [3] Tryz.func136 ?_
 intro Q g hfin
 unfold cell_Order at hF
 refine LR0 ?_
 obtain ⟨x,h0,hF⟩:=lS hF
 obtain ⟨x1,h1,hF⟩:=lS hF
 obtain ⟨x2,h2,hF⟩:=lS hF
 obtain ⟨x3,h3,hF⟩:=oE hF
 refine DJ (.b (cmp_Compare_string_ok h0) (.b (cmp_Compare_string_ok h1) (.b (cmp_Compare_int_ok h2) (.a (.sealed) (.b (cmp_Or_int_ok h3) .z))))) ?_
 cases hF
 exact Wz [] hfin

/- cell.Check -/
def cell_Check_J1 (v:Fault):Option Fault:=
 some (⟨0,0⟩:Fault)
def cell_Check_B1 (l:List Cell) (v1:Fault×Int):Option ((Fault×Int)⊕Fault):=
 if (decide (v1.2<(l.length:Int)))=true then
  zaq (0≤v1.2∧v1.2<(l.length:Int)) <|
  lt (cell_code (⟨(zaf l v1.2).Row,(zaf l v1.2).Col,(zaf l v1.2).Time,(zaf l v1.2).Gone,(zaf l v1.2).Value⟩:Cell)) fun x1=>
  if (!decide (x1=0))=true then
   lt (cell_fault x1 v1.2) fun x2=>
   some (Sum.inr x2)
  else
   zaq ((decide (0<v1.2))=true→0≤w64 (v1.2 - 1)∧w64 (v1.2 - 1)<(l.length:Int)) <|
   ob (if (decide (0<v1.2))=true then (cell_Order (⟨(zaf l (w64 (v1.2 - 1))).Row,(zaf l (w64 (v1.2 - 1))).Col,(zaf l (w64 (v1.2 - 1))).Time,(zaf l (w64 (v1.2 - 1))).Gone,(zaf l (w64 (v1.2 - 1))).Value⟩:Cell) (⟨(zaf l v1.2).Row,(zaf l v1.2).Col,(zaf l v1.2).Time,(zaf l v1.2).Gone,(zaf l v1.2).Value⟩:Cell)) else some default) fun x3=>
   if ((decide (0<v1.2))&&(decide (0≤x3)))=true then
    lt (cell_fault 10 v1.2) fun x4=>
    some (Sum.inr x4)
   else
    some (Sum.inl (v1.1,w64 (v1.2+1)))
 else
  zem (cell_Check_J1 v1.1)
def cell_Check_L1 (l:List Cell) (v0:Fault×Int):Option Fault:=
 zbc (fun y=>cell_Check_B1 l y) v0
def cell_Check (l:List Cell):Option Fault:=
 if (decide (1000<(l.length:Int)))=true then
  lt (cell_fault 2 0) fun x=>
  some x
 else
  cell_Check_L1 l ((⟨0,0⟩:Fault),0)
theorem cell_Check_ok {l r} (hF:cell_Check l=some r):Pe Tryz.prog 108 S.none [.sl 5 (l.map zac)] (.agg (zad r)) S.none:=by
 refine PT 40 [.cell 2 35] [35] Tryz.func108 ?_
 intro Q g hfin
 unfold cell_Check at hF
 refine LR0 ?_
 refine RJ (.l zac l .z) ?_
 refine Nif hF ?_ ?_ <;> intro hb hF
 ·obtain ⟨x,h0,hF⟩:=lS hF
  refine RJ (.b (cell_fault_ok h0) .z) ?_
  cases hF
  exact Wz [] hfin
 ·refine RJ (.l zac l .z) ?_
  refine NmS (fun v=>cell_Check_J1 v=some r) (fun Z v=>Z.up [2] [2] [] [] [] [(2,(zad v))] [] []) ?_ ?_
  ·refine zcb ?_
   unfold cell_Check_L1 at hF
   refine Nits hF [] (fun Z v1=>Z.up [0,2,10,11,12] [2] [] [] [(12,.i v1.2)] [(2,(zad v1.1))] [] []) ?_
   intro n1 v1 y1 hF ih1 dn1
   unfold cell_Check_B1 at hF
   refine LR0 ?_
   refine Nif hF ?_ ?_ <;> intro hb hF
   ·refine zcb ?_
    obtain ⟨h1,hF⟩:=aE hF
    refine RJ (.i zac h1 .z) ?_
    obtain ⟨x1,h2,hF⟩:=lS hF
    refine RJ (.b (cell_code_ok h2) .z) ?_
    refine LR0 ?_
    refine Nif hF ?_ ?_ <;> intro hb hF
    ·obtain ⟨x2,h3,hF⟩:=lS hF
     refine RJ (.b (cell_fault_ok h3) .z) ?_
     have hF:=zc0 hF dn1
     cases hF
     exact Wz [] hfin
    ·obtain ⟨h4,hF⟩:=aE hF
     obtain ⟨x3,h5,hF⟩:=oE hF
     refine DJ (.a (.av (zac (zaf l (w64 (v1.2 - 1))))) (.g (fun (ga0:(decide (0<v1.2))=true)=>(idx_ok zac (h4 ga0))) (.a (.callB (.i x3)) (.g (fun (ga0:(decide (0<v1.2))=true)=>(cell_Order_ok (ite_t h5 ga0))) .z)))) ?_
     refine Nif hF ?_ ?_ <;> intro hb hF
     ·obtain ⟨x4,h6,hF⟩:=lS hF
      refine RJ (.b (cell_fault_ok h6) .z) ?_
      have hF:=zc0 hF dn1
      cases hF
      exact Wz [] hfin
     ·refine LR0 ?_
      exact Nrnq [] hF ih1
   ·refine zbv rfl ?_
    have hF:=zaj hF dn1
    exact ze6 v1.1 [] hF
  ·intro v hF
   unfold cell_Check_J1 at hF
   refine LR0 ?_
   cases hF
   exact Wz [] hfin

/- cell.Read -/
def cell_Read_J1 (v:Fault×List Cell):Option (List Cell×Fault):=
 ob (cell_Check v.2) fun x2=>
 if (!decide (x2.Code=0))=true then
  some (([]:List Cell),x2)
 else
  some (v.2,(⟨0,0⟩:Fault))
def cell_Read_B1 (v1:Fault×List Cell×Reader):Option ((Fault×List Cell×Reader)⊕(List Cell×Fault)):=
 lt (wire_Reader_More v1.2.2) fun x3=>
 if x3=true then
  ob (cell_From v1.2.2) fun x4=>
  if (!x4.2.1)=true then
   lt (cell_fault 5 (v1.2.1.length:Int)) fun x5=>
   some (Sum.inr (([]:List Cell),x5))
  else
   zaq (((v1.2.1++[x4.1]).length:Int)*64≤140737488351232) <|
   some (Sum.inl (v1.1,(v1.2.1++[x4.1]),x4.2.2))
 else
  zem (cell_Read_J1 (v1.1,v1.2.1))
def cell_Read_L1 (v0:Fault×List Cell×Reader):Option (List Cell×Fault):=
 zbc (fun y=>cell_Read_B1 y) v0
def cell_Read (b:List UInt8):Option (List Cell×Fault):=
 if (decide (60000<(b.length:Int)))=true then
  lt (cell_fault 8 0) fun x=>
  some (([]:List Cell),x)
 else
  lt (wire_Read b) fun x1=>
  cell_Read_L1 ((⟨0,0⟩:Fault),([]:List Cell),x1)
theorem cell_Read_ok {b r} (hF:cell_Read b=some r):Pe Tryz.prog 152 (.w []) [.sl 1 (b.map zan)] (.tup [.row 30 0,.agg (zad r.2)]) ⟨[],[],[(30,.z 53 5 0 (r.1.map zac))],[],[]⟩:=by
 refine PT 39 [.tmp 2,.cell 3 35] [28,35] Tryz.func152 ?_
 intro Q g hfin
 unfold cell_Read at hF
 refine LR0 ?_
 refine RJ (.l zan b .z) ?_
 refine Nif hF ?_ ?_ <;> intro hb hF
 ·obtain ⟨x,h0,hF⟩:=lS hF
  refine VR [.callB (.agg (zad x))] [2,3] [3] [] [] [(2,.nils),(3,.ptr 3 0)] [(3,(zad x))] [] [] (hc (cell_fault_ok h0) .nil) ?_
  cases hF
  refine zap 2 60000 53 5 rfl rfl rfl ?_
  refine zat ⟨[],[(60000,30)],[],[]⟩ rfl ?_
  exact Wz [] hfin
 ·refine LR0 ?_
  obtain ⟨x1,h1,hF⟩:=lS hF
  have p2:=(Pe.ren (wire_Read_ok h1) ⟨[(5,14)],[],[],[]⟩)
  refine VR [cE [] [] [] [] p2] [3,4,5] [3,14] [] [] [(3,.ptr 3 0),(4,.nils),(5,.ptr 14 0)] [(3,[.i 0,.i 0]),(14,(zef x1))] [] [] (hc p2 .nil) ?_
  refine NmQ (fun v=>cell_Read_J1 v=some r) (fun v=>⟨[(3,.ptr 3 0),(4,.row 30 0)],[(3,(zad v.1))],[(30,.z 53 5 0 (v.2.map zac))],[],[]⟩) ?_ ?_
  ·refine zcb ?_
   unfold cell_Read_L1 at hF
   refine zap 4 60002 53 5 rfl rfl rfl ?_
   refine zci (fs:=[3,4,5]) (bs:=[3,14]) (rs:=[60002]) (ms:=[]) (aa:=[]) (nv:=[]) rfl ?_
   refine zat ⟨[],[(60002,30)],[],[]⟩ rfl ?_
   refine Nitr hF [] (fun v1=>⟨[(3,.ptr 3 0),(4,.row 30 0),(5,.ptr 14 0)],[(3,(zad v1.1)),(14,(zef v1.2.2))],[(30,.z 53 5 0 (v1.2.1.map zac))],[],[]⟩) ?_
   intro n1 v1 y1 hF ih1 dn1
   unfold cell_Read_B1 at hF
   obtain ⟨x3,h4,hF⟩:=lS hF
   refine RJ (.q [14] [] (Pe.ren (wire_Reader_More_ok h4) ⟨[(100000,14)],[],[],[]⟩) .z) ?_
   refine Nif hF ?_ ?_ <;> intro hb hF
   ·refine zcb ?_
    obtain ⟨x4,h5,hF⟩:=oE hF
    have p6:=(Pe.ren (cell_From_ok h5) ⟨[(100000,14)],[],[],[]⟩)
    refine RJ (.e [14] [] p6 .z) ?_
    refine LR0 ?_
    refine Nif hF ?_ ?_ <;> intro hb hF
    ·obtain ⟨x5,h7,hF⟩:=lS hF
     refine VR [.nat (v1.2.1.length:Int),.callB (.agg (zad x5))] [2,3] [3] [] [] [(2,.nils),(3,.ptr 3 0)] [(3,(zad x5))] [] [] (hc (zdv zac v1.2.1) (hc (cell_fault_ok h7) .nil)) ?_
     have hF:=zc0 hF dn1
     cases hF
     refine zap 2 60003 53 5 rfl rfl rfl ?_
     refine zat ⟨[],[(60003,30)],[],[]⟩ rfl ?_
     exact Wz [] hfin
    ·obtain ⟨h8,hF⟩:=aE hF
     refine RJ (.a (.sealed) (.p zac h8 .z)) ?_
     exact Nrnq [(30,⟨0,true,true,false⟩)] hF ih1
   ·refine zbv rfl ?_
    have hF:=zaj hF dn1
    exact ze6 (v1.1,v1.2.1) [] hF
  ·intro v hF
   unfold cell_Read_J1 at hF
   obtain ⟨x2,h3,hF⟩:=oE hF
   refine RJ (.b (cell_Check_ok h3) .z) ?_
   refine LR0 ?_
   refine Nif hF ?_ ?_ <;> intro hb hF
   ·refine VD [] [2,3] [3] [] [] [(2,.nils),(3,.ptr 3 0)] [(3,(zad x2))] [] [] .nil ?_
    cases hF
    refine zap 2 60001 53 5 rfl rfl rfl ?_
    refine zat ⟨[],[(60001,30)],[],[]⟩ rfl ?_
    exact Wz [] hfin
   ·refine LR0 ?_
    cases hF
    exact Wz [] hfin

/- wal.Check -/
def wal_Check (num:Note):Option Fault:=
 if ((decide (num.Seq<1))||(decide (1000000000<num.Seq)))=true then
  lt (wal_fault 3 (-1)) fun x=>
  some x
 else
  if ((decide ((num.Cells.length:Int)=0))||(decide (20<(num.Cells.length:Int))))=true then
   lt (wal_fault 2 (-1)) fun x1=>
   some x1
  else
   ob (cell_Check num.Cells) fun x2=>
   some x2
theorem wal_Check_ok {num r} (hF:wal_Check num=some r):Pe Tryz.prog 64 S.none [.agg (c_Note num)] (.agg (zad r)) S.none:=by
 refine PT 28 [.cell 2 35] [35] Tryz.func64 ?_
 intro Q g hfin
 unfold wal_Check at hF
 refine LR0 ?_
 refine zcb ?_
 refine LR0 ?_
 refine Nif hF ?_ ?_ <;> intro hb hF
 ·obtain ⟨x,h0,hF⟩:=lS hF
  refine RJ (.b (wal_fault_ok h0) .z) ?_
  cases hF
  exact Wz [] hfin
 ·refine RJ (.l zac num.Cells (.a (.nat (num.Cells.length:Int)) (.g (fun (_:(!(decide ((num.Cells.length:Int)=0)))=true)=>(zdv zac num.Cells)) .z))) ?_
  refine Nif hF ?_ ?_ <;> intro hb hF
  ·obtain ⟨x1,h1,hF⟩:=lS hF
   refine RJ (.b (wal_fault_ok h1) .z) ?_
   cases hF
   exact Wz [] hfin
  ·obtain ⟨x2,h2,hF⟩:=oE hF
   refine RJ (.b (cell_Check_ok h2) .z) ?_
   cases hF
   exact Wz [] hfin

/- wal.Read -/
def wal_Read (b:List UInt8):Option (Int×List Cell×Fault):=
 if (decide (60000<(b.length:Int)))=true then
  lt (wal_fault 8 0) fun x=>
  some (0,([]:List Cell),x)
 else
  ob (zcf b) fun x1=>
  zaq (0≤w64 (1+x1)∧w64 (1+x1)≤(b.length:Int)) <|
  lt (wire_Read (zds b (w64 (1+x1)))) fun x2=>
  ob (zb1 x2) fun x3=>
  lt (wire_Reader_Ok x3.2) fun x4=>
  if (!x4)=true then
   lt (wal_fault 5 (-1)) fun x5=>
   some (0,([]:List Cell),x5)
  else
   zaq (0≤w64 (1+x1)∧w64 (1+x1)≤(b.length:Int)) <|
   ob (cell_Read (zdu b (w64 (1+x1)))) fun x6=>
   if (!decide (x6.2.Code=0))=true then
    some (0,([]:List Cell),x6.2)
   else
    ob (wal_Check (⟨x3.1,x6.1⟩:Note)) fun x7=>
    if (!decide (x7.Code=0))=true then
     some (0,([]:List Cell),x7)
    else
     some (x3.1,x6.1,x7)
theorem wal_Read_ok {b r} (hF:wal_Read b=some r):Pe Tryz.prog 119 (.w []) [.sl 1 (b.map zan)] (.tup [.agg [.i r.1,.row 33 0],.agg (zad r.2.2)]) ⟨[],[],[(33,.z 53 5 0 (r.2.1.map zac))],[],[]⟩:=by
 refine PT 52 [.cell 2 50,.cell 3 35] [50,35] Tryz.func119 ?_
 intro Q g hfin
 unfold wal_Read at hF
 refine LR0 ?_
 refine RJ (.l zan b .z) ?_
 refine Nif hF ?_ ?_ <;> intro hb hF
 ·obtain ⟨x,h0,hF⟩:=lS hF
  refine VR [.callB (.agg (zad x))] [2,3] [2,3] [] [] [(2,.ptr 2 0),(3,.ptr 3 0)] [(2,[.i 0,.nils]),(3,(zad x))] [] [] (hc (wal_fault_ok h0) .nil) ?_
  cases hF
  refine zar 2 1 60000 53 5 rfl rfl rfl rfl rfl ?_
  refine zat ⟨[],[(60000,33)],[],[]⟩ rfl ?_
  exact Wz [] hfin
 ·obtain ⟨x1,h1,hF⟩:=oE hF
  refine RJ (.b (slices_IndexFunc_byte_byte_ok h1) .z) ?_
  obtain ⟨h2,hF⟩:=aE hF
  obtain ⟨x2,h3,hF⟩:=lS hF
  have p4:=(Pe.ren (wire_Read_ok h3) ⟨[(5,20)],[],[],[]⟩)
  refine RJ (.s01 zan h2 (.e [] [] p4 .z)) ?_
  obtain ⟨x3,h5,hF⟩:=oE hF
  have p6:=(Pe.ren (wire_Reader_Num_ok h5) ⟨[(100000,20)],[],[],[]⟩)
  refine RJ (.e [20] [] p6 .z) ?_
  obtain ⟨x4,h7,hF⟩:=lS hF
  refine RJ (.q [20] [] (Pe.ren (wire_Reader_Ok_ok h7) ⟨[(100000,20)],[],[],[]⟩) .z) ?_
  refine Nif hF ?_ ?_ <;> intro hb hF
  ·obtain ⟨x5,h8,hF⟩:=lS hF
   refine VR [.callB (.agg (zad x5))] [2,3] [2,3] [] [] [(2,.ptr 2 0),(3,.ptr 3 0)] [(2,[.i 0,.nils]),(3,(zad x5))] [] [] (hc (wal_fault_ok h8) .nil) ?_
   cases hF
   refine zar 2 1 60001 53 5 rfl rfl rfl rfl rfl ?_
   refine zat ⟨[],[(60001,33)],[],[]⟩ rfl ?_
   exact Wz [] hfin
  ·obtain ⟨h9,hF⟩:=aE hF
   obtain ⟨x6,h10,hF⟩:=oE hF
   have p11:=(Pe.ren (cell_Read_ok h10) ⟨[],[(30,33)],[],[]⟩)
   refine RJ (.s10 zan h9 (.e [] [] p11 .z)) ?_
   refine LR0 ?_
   refine Nif hF ?_ ?_ <;> intro hb hF
   ·refine VD [] [2,3] [2,3] [] [] [(2,.ptr 2 0),(3,.ptr 3 0)] [(2,[.i 0,.nils]),(3,(zad x6.2))] [] [] .nil ?_
    cases hF
    refine zar 2 1 60002 53 5 rfl rfl rfl rfl rfl ?_
    refine zat ⟨[],[(60002,33)],[],[]⟩ rfl ?_
    exact Wz [] hfin
   ·refine LR0 ?_
    obtain ⟨x7,h12,hF⟩:=oE hF
    refine RJ (.b (wal_Check_ok h12) .z) ?_
    refine LR0 ?_
    refine Nif hF ?_ ?_ <;> intro hb hF
    ·refine VD [] [2,3] [2,3] [] [] [(2,.ptr 2 0),(3,.ptr 3 0)] [(2,[.i 0,.nils]),(3,(zad x7))] [] [] .nil ?_
     cases hF
     refine zar 2 1 60003 53 5 rfl rfl rfl rfl rfl ?_
     refine zat ⟨[],[(60003,33)],[],[]⟩ rfl ?_
     exact Wz [] hfin
    ·refine LD0 ?_
     cases hF
     exact Wz [] hfin

/- wal.Notes -/
def wal_Notes_J1 (v:List Note×Int):Option (List Note×Int):=
 some (v.1,v.2)
def wal_Notes_B1 (x:List (List UInt8)×Int) (v1:List Note×Int×Int):Option ((List Note×Int×Int)⊕(List Note×Int)):=
 if (decide (v1.2.2<(x.1.length:Int)))=true then
  zaq (0≤v1.2.2∧v1.2.2<(x.1.length:Int)) <|
  zaq (0≤v1.2.2∧v1.2.2<(x.1.length:Int)) <|
  ob (wal_Read (zaf x.1 v1.2.2)) fun x1=>
  zaq ((decide (0<(v1.1.length:Int)))=true→(!(!decide (x1.2.2.Code=0)))=true→0≤w64 ((v1.1.length:Int) - 1)∧w64 ((v1.1.length:Int) - 1)<(v1.1.length:Int)) <|
  zaq ((decide (0<(v1.1.length:Int)))=true→(!(!decide (x1.2.2.Code=0)))=true→0≤w64 ((v1.1.length:Int) - 1)∧w64 ((v1.1.length:Int) - 1)<(v1.1.length:Int)) <|
  if ((!decide (x1.2.2.Code=0))||((decide (0<(v1.1.length:Int)))&&(!decide (x1.1=(w64 (((zaf v1.1 (w64 ((v1.1.length:Int) - 1))).Seq)+1))))))=true then
   zem (wal_Notes_J1 (v1.1,v1.2.1))
  else
   zaq (((v1.1++[(⟨x1.1,x1.2.1⟩:Note)]).length:Int)*32≤140737488351232) <|
   some (Sum.inl ((v1.1++[(⟨x1.1,x1.2.1⟩:Note)]),w64 (v1.2.1+(w64 (6+((zaf x.1 v1.2.2).length:Int)))),w64 (v1.2.2+1)))
 else
  zem (wal_Notes_J1 (v1.1,v1.2.1))
def wal_Notes_L1 (x:List (List UInt8)×Int) (v0:List Note×Int×Int):Option (List Note×Int):=
 zbc (fun y=>wal_Notes_B1 x y) v0
def wal_Notes (d:Disk):Option (List Note×Int):=
 ob (wire_Opened d.Bytes) fun x=>
 wal_Notes_L1 x (([]:List Note),0,0)
theorem wal_Notes_ok {d r} (hF:wal_Notes d=some r):Pe Tryz.prog 72 (.w []) [.agg (c_Disk d)] (.tup [.row 53 0,.i r.2]) ⟨[],[],[(53,.z 50 2 0 (r.1.map zak))],[],[]⟩:=by
 refine PT 62 [.tmp 2,.tmp 3] [41,3] Tryz.func72 ?_
 intro Q g hfin
 unfold wal_Notes at hF
 refine LR0 ?_
 obtain ⟨x,h0,hF⟩:=oE hF
 have p1:=(Pe.ren (wire_Opened_ok h0) ⟨[],[(66,15)],[],[]⟩)
 refine RJ (.e [] [] p1 .z) ?_
 refine LR0 ?_
 refine LR0 ?_
 refine VR [.nat (x.1.length:Int)] [6,7,18,19,20] [] [15] [] [(6,.nils),(7,.i 0),(18,.row 15 0),(19,.i (x.1.length:Int)),(20,.i 0)] [] [(15,.z 22 1 0 (x.1.map zag))] [] (hc (zdv zag x.1) .nil) ?_
 refine NmQ (fun v=>wal_Notes_J1 v=some r) (fun v=>⟨[(6,.row 53 0),(7,.i v.2)],[],[(53,.z 50 2 0 (v.1.map zak))],[],[]⟩) ?_ ?_
 ·refine zcb ?_
  unfold wal_Notes_L1 at hF
  refine zap 6 60000 50 2 rfl rfl rfl ?_
  refine zci (fs:=[6,7,18,19,20]) (bs:=[]) (rs:=[15,60000]) (ms:=[]) (aa:=[]) (nv:=[]) rfl ?_
  refine zat ⟨[],[(60000,53)],[],[]⟩ rfl ?_
  refine Nitr hF [] (fun v1=>⟨[(6,.row 53 0),(7,.i v1.2.1),(18,.row 15 0),(19,.i (x.1.length:Int)),(20,.i v1.2.2)],[],[(15,.z 22 1 0 (x.1.map zag)),(53,.z 50 2 0 (v1.1.map zak))],[],[]⟩) ?_
  intro n1 v1 y1 hF ih1 dn1
  unfold wal_Notes_B1 at hF
  refine LR0 ?_
  refine Nif hF ?_ ?_ <;> intro hb hF
  ·refine zcb ?_
   obtain ⟨h2,h3,hF⟩:=asrt2 hF
   refine RJ (.x zag h2 (.r zag h3 .z)) ?_
   obtain ⟨x1,h4,hF⟩:=oE hF
   have p5:=(Pe.ren (wal_Read_ok h4) ⟨[],[(33,26)],[],[]⟩)
   refine RJ (.e [] [] p5 .z) ?_
   obtain ⟨h6,h7,hF⟩:=asrt2 hF
   refine DJ (.a (.nat (v1.1.length:Int)) (.g (fun (_:(!(!decide (x1.2.2.Code=0)))=true)=>(zdv zak v1.1)) (.a (.nat (v1.1.length:Int)) (.g (fun (_:(decide (0<(v1.1.length:Int)))=true) (_:(!(!decide (x1.2.2.Code=0)))=true)=>(zdv zak v1.1)) (.g (fun (ga0:(decide (0<(v1.1.length:Int)))=true) (ga1:(!(!decide (x1.2.2.Code=0)))=true)=>(ixr_ok zak (h6 ga0 ga1))) (.a (.av (zak (zaf v1.1 (w64 ((v1.1.length:Int) - 1))))) (.g (fun (ga0:(decide (0<(v1.1.length:Int)))=true) (ga1:(!(!decide (x1.2.2.Code=0)))=true)=>(ldr_ok zak (h7 ga0 ga1))) .z))))))) ?_
   refine Nif hF ?_ ?_ <;> intro hb hF
   ·refine zbv rfl ?_
    have hF:=zaj hF dn1
    exact ze6 (v1.1,v1.2.1) [] hF
   ·obtain ⟨h8,hF⟩:=aE hF
    refine RJ (.a (.sealed) (.p zak h8 .z)) ?_
    refine RJ (.l zan (zaf x.1 v1.2.2) .z) ?_
    refine LR0 ?_
    exact Nrnq [(53,⟨0,true,true,false⟩)] hF ih1
  ·refine zbv rfl ?_
   have hF:=zaj hF dn1
   exact ze6 (v1.1,v1.2.1) [] hF
 ·intro v hF
  unfold wal_Notes_J1 at hF
  refine LR0 ?_
  cases hF
  exact Wz [] hfin

/- file.fault -/
def file_fault (code at0:Int):Fault:=
 (⟨code,at0⟩:Fault)
theorem zey {code at0 r} (hF:file_fault code at0=r):Pe Tryz.prog 120 S.none [.i code,.i at0] (.agg (zad r)) S.none:=by
 refine PT 8 [.cell 4 35] [35] Tryz.func120 ?_
 intro Q g hfin
 unfold file_fault at hF
 refine LR0 ?_
 refine LR0 ?_
 cases hF
 exact Wz [] hfin

/- wire.Opened -/
def wire_Opened_v1_J1 (v:List (List UInt8)×Int):Option (List (List UInt8)×Int):=
 some (v.1,v.2)
def ze5 (b:List UInt8) (v1:List (List UInt8)×Int):Option ((List (List UInt8)×Int)⊕(List (List UInt8)×Int)):=
 if (decide (6≤(w64 ((b.length:Int) - v1.2))))=true then
  zaq (0≤v1.2∧v1.2<(b.length:Int)) <|
  zaq (0≤w64 (v1.2+1)∧w64 (v1.2+1)<(b.length:Int)) <|
  lt (bitsOp .or .i64 (w64 ((w64 ((zaf b v1.2).toNat:Int))*2 ^ (min (8:Int).toNat 64))) (w64 ((zaf b (w64 (v1.2+1))).toNat:Int))) fun v2=>
  if (decide ((b.length:Int)<(w64 ((w64 ((w64 (v1.2+2))+v2))+4))))=true then
   zem (wire_Opened_v1_J1 (v1.1,v1.2))
  else
   zaq (0≤v1.2∧v1.2≤w64 ((w64 (v1.2+2))+v2)∧w64 ((w64 (v1.2+2))+v2)≤(b.length:Int)) <|
   ob (wire_Crc (zdu (zds b (w64 ((w64 (v1.2+2))+v2))) v1.2)) fun x=>
   zaq (0≤w64 ((w64 (v1.2+2))+v2)∧w64 ((w64 (v1.2+2))+v2)≤w64 ((w64 ((w64 (v1.2+2))+v2))+4)∧w64 ((w64 ((w64 (v1.2+2))+v2))+4)≤(b.length:Int)) <|
   ob (zcx (zdu (zds b (w64 ((w64 ((w64 (v1.2+2))+v2))+4))) (w64 ((w64 (v1.2+2))+v2))) ([zd1 (Int.fdiv x (2 ^ (min (24:Int).toNat 32))),zd1 (Int.fdiv x (2 ^ (min (16:Int).toNat 32))),zd1 (Int.fdiv x (2 ^ (min (8:Int).toNat 32))),zd1 x]:List UInt8)) fun x1=>
   if (!x1)=true then
    zem (wire_Opened_v1_J1 (v1.1,v1.2))
   else
    zaq (0≤w64 (v1.2+2)∧w64 (v1.2+2)≤w64 ((w64 (v1.2+2))+v2)∧w64 ((w64 (v1.2+2))+v2)≤(b.length:Int)) <|
    ob (zbu (zdu (zds b (w64 ((w64 (v1.2+2))+v2))) (w64 (v1.2+2)))) fun x2=>
    zaq (((v1.1++([x2]:List (List UInt8))).length:Int)*24≤140737488351232) <|
    some (Sum.inl ((v1.1++([x2]:List (List UInt8))),w64 ((w64 ((w64 (v1.2+2))+v2))+4)))
 else
  zem (wire_Opened_v1_J1 (v1.1,v1.2))
def wire_Opened_v1_L1 (b:List UInt8) (v0:List (List UInt8)×Int):Option (List (List UInt8)×Int):=
 zbc (fun y=>ze5 b y) v0
def wire_Opened_v1 (b:List UInt8):Option (List (List UInt8)×Int):=
 wire_Opened_v1_L1 b (([]:List (List UInt8)),0)
theorem wire_Opened_v1_ok {b r} (hF:wire_Opened_v1 b=some r):Pe Tryz.prog 118 S.none [.sl 1 (b.map zan)] (.tup [.sl 1 (r.1.map zag),.i r.2]) S.none:=by
 refine PT 71 [.tmp 2,.tmp 3] [25,3] Tryz.func118 ?_
 intro Q g hfin
 unfold wire_Opened_v1 at hF
 refine NR [] [0,2,3] [] [] [(0,.sl 1 (b.map zan)),(2,.nils),(3,.i 0)] .nil ?_
 refine NmQ (fun v=>wire_Opened_v1_J1 v=some r) (fun v=>⟨[(2,.row 66 0),(3,.i v.2)],[],[(66,.z 22 1 0 (v.1.map zag))],[],[]⟩) ?_ ?_
 ·refine zcb ?_
  unfold wire_Opened_v1_L1 at hF
  refine zap 2 60000 22 1 rfl rfl rfl ?_
  refine zci (fs:=[0,2,3]) (bs:=[]) (rs:=[60000]) (ms:=[]) (aa:=[]) (nv:=[]) rfl ?_
  refine zat ⟨[],[(60000,66)],[],[]⟩ rfl ?_
  refine Nitr hF [] (fun v1=>⟨[(0,.sl 1 (b.map zan)),(2,.row 66 0),(3,.i v1.2)],[],[(66,.z 22 1 0 (v1.1.map zag))],[],[]⟩) ?_
  intro n1 v1 y1 hF ih1 dn1
  unfold ze5 at hF
  refine RJ (.l zan b .z) ?_
  refine Nif hF ?_ ?_ <;> intro hb hF
  ·refine zcb ?_
   obtain ⟨h0,h1,hF⟩:=asrt2 hF
   refine NDL (bitsOp .or .i64 (w64 ((w64 ((zaf b v1.2).toNat:Int))*2 ^ (min (8:Int).toNat 64))) (w64 ((zaf b (w64 (v1.2+1))).toNat:Int))) (fun v2:Int=>([(4,.i v2)],[],[],[])) [.av (zan (zaf b v1.2)),.av (zan (zaf b (w64 (v1.2+1))))] [0,2,3,4] [] [66] [] (hc (idx_ok zan h0) (hc (by decide:(0:Int)≤8) (hc (idx_ok zan h1) .nil))) (fun v2 hv=>?_)
   have hF:=zev hF hv
   refine LR0 ?_
   refine RJ (.l zan b .z) ?_
   refine Nif hF ?_ ?_ <;> intro hb hF
   ·refine zbv rfl ?_
    have hF:=zaj hF dn1
    exact ze6 (v1.1,v1.2) [] hF
   ·obtain ⟨h2,hF⟩:=aE hF
    obtain ⟨x,h3,hF⟩:=oE hF
    refine RJ (.s11 zan h2 (.b (wire_Crc_ok h3) .z)) ?_
    obtain ⟨h4,hF⟩:=aE hF
    obtain ⟨x1,h5,hF⟩:=oE hF
    refine RJ (.s11 zan h4 (.g (by decide:(0:Int)≤24) (.g (by decide:(0:Int)≤16) (.g (by decide:(0:Int)≤8) (.a (.sealed) (.b (slices_Equal_byte_byte_ok h5) .z)))))) ?_
    refine Nif hF ?_ ?_ <;> intro hb hF
    ·refine zbv rfl ?_
     have hF:=zaj hF dn1
     exact ze6 (v1.1,v1.2) [] hF
    ·obtain ⟨h6,hF⟩:=aE hF
     obtain ⟨x2,h7,hF⟩:=oE hF
     have p8:=(Pe.ren (zdq h7) ⟨[],[(5,64)],[],[]⟩)
     obtain ⟨h9,hF⟩:=aE hF
     refine RJ (.s11 zan h6 (.e [] [] p8 (.a (.sealed) (.p zag h9 .z)))) ?_
     refine LR0 ?_
     exact Nrnq [(66,⟨0,true,true,false⟩)] hF ih1
  ·refine zbv rfl ?_
   have hF:=zaj hF dn1
   exact ze6 (v1.1,v1.2) [] hF
 ·intro v hF
  unfold wire_Opened_v1_J1 at hF
  refine LR0 ?_
  cases hF
  exact Wz [] hfin

/- wire.Read -/
def wire_Read_v1 (b:List UInt8):Reader:=
 (⟨b,false⟩:Reader)
theorem wire_Read_v1_ok {b r} (hF:wire_Read_v1 b=r):Pe Tryz.prog 149 (.w []) [.sl 1 (b.map zan)] (.ptr 5 0) ⟨[],[(5,(zef r))],[],[],[]⟩:=by
 refine PT 6 [.tmp 2] [171] Tryz.func149 ?_
 intro Q g hfin
 unfold wire_Read_v1 at hF
 refine LR0 ?_
 refine LR0 ?_
 cases hF
 exact Wz [] hfin

/- file.open -/
def file_open_J1 (x1:List (List UInt8)×Int) (v:List (List UInt8)×Reader):Option (Bool×opened×Fault):=
 lt (wire_Reader_Ok v.2) fun x4=>
 if (!x4)=true then
  lt (file_fault 5 1) fun x5=>
  some (false,default,x5)
 else
  some (true,(⟨(zds x1.1 (w64 ((x1.1.length:Int) - 2))),v.1,(zaf x1.1 (w64 ((w64 ((x1.1.length:Int) - 2))+1)))⟩:opened),(⟨0,0⟩:Fault))
def zcd (x1:List (List UInt8)×Int) (v1:List (List UInt8)×Reader×Int):Option ((List (List UInt8)×Reader×Int)⊕(Bool×opened×Fault)):=
 if (decide (v1.2.2<(w64 ((x1.1.length:Int) - 2))))=true then
  ob (zca v1.2.1) fun x6=>
  zaq (((v1.1++([x6.1]:List (List UInt8))).length:Int)*16≤140737488351232) <|
  ob (zb1 x6.2) fun x7=>
  zaq (0≤v1.2.2∧v1.2.2<(x1.1.length:Int)) <|
  if (!decide (x7.1=((zaf x1.1 v1.2.2).length:Int)))=true then
   lt (file_fault 5 1) fun x8=>
   some (Sum.inr (false,default,x8))
  else
   some (Sum.inl ((v1.1++([x6.1]:List (List UInt8))),x7.2,w64 (v1.2.2+1)))
 else
  zem (file_open_J1 x1 (v1.1,v1.2.1))
def file_open_L1 (x1:List (List UInt8)×Int) (v0:List (List UInt8)×Reader×Int):Option (Bool×opened×Fault):=
 zbc (fun y=>zcd x1 y) v0
def file_open (b:List UInt8):Option (Bool×opened×Fault):=
 if (decide (60000<(b.length:Int)))=true then
  lt (file_fault 8 0) fun x=>
  some (false,default,x)
 else
  ob (wire_Opened_v1 b) fun x1=>
  zaq ((!((!decide (x1.2=(b.length:Int)))||(decide ((w64 ((x1.1.length:Int) - 2))<0))))=true→0≤w64 ((w64 ((x1.1.length:Int) - 2))+1)∧w64 ((w64 ((x1.1.length:Int) - 2))+1)<(x1.1.length:Int)) <|
  if (((!decide (x1.2=(b.length:Int)))||(decide ((w64 ((x1.1.length:Int) - 2))<0)))||(decide (((zaf x1.1 (w64 ((w64 ((x1.1.length:Int) - 2))+1))).length:Int)=0)))=true then
   lt (file_fault 5 0) fun x2=>
   some (false,default,x2)
  else
   zaq (0≤w64 ((x1.1.length:Int) - 2)∧w64 ((x1.1.length:Int) - 2)≤(x1.1.length:Int)) <|
   zaq (0≤w64 ((w64 ((x1.1.length:Int) - 2))+1)∧w64 ((w64 ((x1.1.length:Int) - 2))+1)<(x1.1.length:Int)) <|
   zaq (0≤w64 ((x1.1.length:Int) - 2)∧w64 ((x1.1.length:Int) - 2)<(x1.1.length:Int)) <|
   lt (wire_Read_v1 (zaf x1.1 (w64 ((x1.1.length:Int) - 2)))) fun x3=>
   file_open_L1 x1 (([]:List (List UInt8)),x3,0)
theorem file_open_ok {b r} (hF:file_open b=some r):Pe Tryz.prog 155 S.none [.sl 1 (b.map zan)] (.tup [.popt r.1 (.rp (.agg (c_opened r.2.1))),.agg (zad r.2.2)]) S.none:=by
 refine PT 86 [.tmp 2,.cell 3 35] [179,35] Tryz.func155 ?_
 intro Q g hfin
 unfold file_open at hF
 refine LR0 ?_
 refine RJ (.l zan b .z) ?_
 refine Nif hF ?_ ?_ <;> intro hb hF
 ·obtain ⟨x,h0,hF⟩:=lS hF
  refine VR [.callB (.agg (zad x))] [2,3] [3] [] [] [(2,.nilp),(3,.ptr 3 0)] [(3,(zad x))] [] [] (hc (zey h0) .nil) ?_
  cases hF
  refine Wk_coe 2 (.popt false (.rp (.agg (c_opened default)))) rfl (.cell rfl (CoeS.popF _)) ?_
  exact Wz [] hfin
 ·obtain ⟨x1,h1,hF⟩:=oE hF
  refine RJ (.c (wire_Opened_v1_ok h1) .z) ?_
  refine RJ (.l zag x1.1 .z) ?_
  obtain ⟨h2,hF⟩:=aE hF
  refine RJ (.l zan b (.a (.av (zag (zaf x1.1 (w64 ((w64 ((x1.1.length:Int) - 2))+1))))) (.g (fun (ga0:(!((!decide (x1.2=(b.length:Int)))||(decide ((w64 ((x1.1.length:Int) - 2))<0))))=true)=>(idx_ok zag (h2 ga0))) (.a (.nat ((zaf x1.1 (w64 ((w64 ((x1.1.length:Int) - 2))+1))).length:Int)) (.g (fun (_:(!((!decide (x1.2=(b.length:Int)))||(decide ((w64 ((x1.1.length:Int) - 2))<0))))=true)=>(zdv zan (zaf x1.1 (w64 ((w64 ((x1.1.length:Int) - 2))+1))))) .z))))) ?_
  refine Nif hF ?_ ?_ <;> intro hb hF
  ·obtain ⟨x2,h3,hF⟩:=lS hF
   refine VR [.callB (.agg (zad x2))] [2,3] [3] [] [] [(2,.nilp),(3,.ptr 3 0)] [(3,(zad x2))] [] [] (hc (zey h3) .nil) ?_
   cases hF
   refine Wk_coe 2 (.popt false (.rp (.agg (c_opened default)))) rfl (.cell rfl (CoeS.popF _)) ?_
   exact Wz [] hfin
  ·obtain ⟨h4,hF⟩:=aE hF
   obtain ⟨h5,hF⟩:=aE hF
   refine DJ (.s01 zag h4 (.i zag h5 .z)) ?_
   obtain ⟨h6,hF⟩:=aE hF
   obtain ⟨x3,h7,hF⟩:=lS hF
   have p8:=(Pe.ren (wire_Read_v1_ok h7) ⟨[(5,54)],[],[],[]⟩)
   refine RJ (.i zag h6 (.e [] [] p8 .z)) ?_
   refine VR [] [3,4,7,8,55,56] [3,49,54] [] [] [(3,.ptr 3 0),(4,.sl 1 (x1.1.map zag)),(7,.ptr 49 0),(8,.ptr 54 0),(55,.i (w64 ((x1.1.length:Int) - 2))),(56,.i 0)] [(3,[.i 0,.i 0]),(49,[.sl 1 ((zds x1.1 (w64 ((x1.1.length:Int) - 2))).map zag),.nils,.sl 1 ((zaf x1.1 (w64 ((w64 ((x1.1.length:Int) - 2))+1))).map zan)]),(54,(zef x3))] [] [] .nil ?_
   refine NmS (fun v=>file_open_J1 x1 v=some r) (fun Z v=>Z.up [3,7,8] [3,49,54] [67] [] [] [(49,[.sl 1 ((zds x1.1 (w64 ((x1.1.length:Int) - 2))).map zag),.row 67 0,.sl 1 ((zaf x1.1 (w64 ((w64 ((x1.1.length:Int) - 2))+1))).map zan)]),(54,(zef v.2))] [(67,.z 9 1 0 (v.1.map zej))] []) ?_ ?_
   ·refine zcb ?_
    unfold file_open_L1 at hF
    refine zar 49 1 60000 9 1 rfl rfl rfl rfl rfl ?_
    refine zci (fs:=[3,4,7,8,55,56]) (bs:=[3,49,54]) (rs:=[60000]) (ms:=[]) (aa:=[]) (nv:=[]) rfl ?_
    refine zat ⟨[],[(60000,67)],[],[]⟩ rfl ?_
    refine Nitr hF [] (fun v1=>⟨[(3,.ptr 3 0),(4,.sl 1 (x1.1.map zag)),(7,.ptr 49 0),(8,.ptr 54 0),(55,.i (w64 ((x1.1.length:Int) - 2))),(56,.i v1.2.2)],[(3,[.i 0,.i 0]),(49,[.sl 1 ((zds x1.1 (w64 ((x1.1.length:Int) - 2))).map zag),.row 67 0,.sl 1 ((zaf x1.1 (w64 ((w64 ((x1.1.length:Int) - 2))+1))).map zan)]),(54,(zef v1.2.1))],[(67,.z 9 1 0 (v1.1.map zej))],[],[]⟩) ?_
    intro n1 v1 y1 hF ih1 dn1
    unfold zcd at hF
    refine LR0 ?_
    refine Nif hF ?_ ?_ <;> intro hb hF
    ·refine zcb ?_
     refine LR0 ?_
     obtain ⟨x6,h11,hF⟩:=oE hF
     have p12:=(Pe.ren (wire_Reader_Text_ok h11) ⟨[(100000,54)],[],[],[]⟩)
     obtain ⟨h13,hF⟩:=aE hF
     refine DJ (.e [54] [] p12 (.a (.sealed) (.p zej h13 .z))) ?_
     obtain ⟨x7,h14,hF⟩:=oE hF
     have p15:=(Pe.ren (wire_Reader_Num_ok h14) ⟨[(100000,54)],[],[],[]⟩)
     obtain ⟨h16,hF⟩:=aE hF
     refine DJ (.e [54] [] p15 (.i zag h16 (.l zan (zaf x1.1 v1.2.2) .z))) ?_
     refine Nif hF ?_ ?_ <;> intro hb hF
     ·obtain ⟨x8,h17,hF⟩:=lS hF
      refine VR [.callB (.agg (zad x8))] [2,3] [3] [] [] [(2,.nilp),(3,.ptr 3 0)] [(3,(zad x8))] [] [] (hc (zey h17) .nil) ?_
      have hF:=zc0 hF dn1
      cases hF
      refine Wk_coe 2 (.popt false (.rp (.agg (c_opened default)))) rfl (.cell rfl (CoeS.popF _)) ?_
      exact Wz [] hfin
     ·refine LR0 ?_
      exact Nrnq [(67,⟨0,true,true,false⟩)] hF ih1
    ·refine zbv rfl ?_
     have hF:=zaj hF dn1
     exact ze6 (v1.1,v1.2.1) [] hF
   ·intro v hF
    unfold file_open_J1 at hF
    obtain ⟨x4,h9,hF⟩:=lS hF
    refine RJ (.q [54] [] (Pe.ren (wire_Reader_Ok_ok h9) ⟨[(100000,54)],[],[],[]⟩) .z) ?_
    refine Nif hF ?_ ?_ <;> intro hb hF
    ·obtain ⟨x5,h10,hF⟩:=lS hF
     refine VR [.callB (.agg (zad x5))] [2,3] [3] [] [] [(2,.nilp),(3,.ptr 3 0)] [(3,(zad x5))] [] [] (hc (zey h10) .nil) ?_
     cases hF
     refine Wk_coe 2 (.popt false (.rp (.agg (c_opened default)))) rfl (.cell rfl (CoeS.popF _)) ?_
     exact Wz [] hfin
    ·refine VR [] [2,3] [3,49] [67] [] [(2,.ptr 49 0),(3,.ptr 3 0)] [(3,[.i 0,.i 0]),(49,[.sl 1 ((zds x1.1 (w64 ((x1.1.length:Int) - 2))).map zag),.row 67 0,.sl 1 ((zaf x1.1 (w64 ((w64 ((x1.1.length:Int) - 2))+1))).map zan)])] [(67,.z 9 1 0 (v.1.map zej))] [] .nil ?_
     refine Wk_sealBX [] 49 rfl rfl ?_
     refine Wk_rpBx 2 49 [3] [3] [] [] rfl rfl rfl rfl rfl rfl rfl (by kernel_rfl) rfl ?_
     cases hF
     refine Wk_coe 2 (.popt true (.rp (.agg [.sl 1 ((zds x1.1 (w64 ((x1.1.length:Int) - 2))).map zag),.sl 1 (v.1.map zej),.sl 1 ((zaf x1.1 (w64 ((w64 ((x1.1.length:Int) - 2))+1))).map zan)]))) rfl (.cell rfl (CoeS.popT _)) ?_
     exact Wz [] hfin

/- (*file.opened).cells -/
def zet (v:List Cell):Option (List Cell×Bool):=
 ob (cell_Check v) fun x=>
 some (v,decide (x.Code=0))
def zbw (to0:Int) (v1:opened×List Cell×Int):Option ((opened×List Cell×Int)⊕(List Cell×Bool)):=
 if (decide (v1.2.2<to0))=true then
  zaq (0≤v1.2.2∧v1.2.2<(v1.1.bodies.length:Int)) <|
  ob (cell_Read (zaf v1.1.bodies v1.2.2)) fun x1=>
  zaq ((!((!decide (x1.2.Code=0))||(decide ((x1.1.length:Int)=0))))=true→0≤(0:Int)∧0<(x1.1.length:Int)) <|
  zaq ((!((!decide (x1.2.Code=0))||(decide ((x1.1.length:Int)=0))))=true→0≤(0:Int)∧0<(x1.1.length:Int)) <|
  zaq ((!((!decide (x1.2.Code=0))||(decide ((x1.1.length:Int)=0))))=true→0≤v1.2.2∧v1.2.2<(v1.1.rows.length:Int)) <|
  if (((!decide (x1.2.Code=0))||(decide ((x1.1.length:Int)=0)))||(!decide (((zaf x1.1 0).Row)=(zaf v1.1.rows v1.2.2))))=true then
   some (Sum.inr (([]:List Cell),false))
  else
   zaq (((v1.2.1++x1.1).length:Int)*64≤140737488351232) <|
   some (Sum.inl (v1.1,(v1.2.1++x1.1),w64 (v1.2.2+1)))
 else
  zem (zet v1.2.1)
def file_opened_cells_L1 (to0:Int) (v0:opened×List Cell×Int):Option (List Cell×Bool):=
 zbc (fun y=>zbw to0 y) v0
def ze3 (o o1:List (List UInt8)) (o2:List UInt8) (from0 to0:Int):Option (List Cell×Bool):=
 file_opened_cells_L1 to0 ((⟨o,o1,o2⟩:opened),([]:List Cell),from0)
theorem file_opened_cells_ok {o o1 o2 from0 to0 r} (hF:ze3 o o1 o2 from0 to0=some r):Pe Tryz.prog 156 (.w []) [.rp (.agg [.sl 1 (o.map zag),.sl 1 (o1.map zej),.sl 1 (o2.map zan)]),.i from0,.i to0] (.tup [.row 53 0,.bool r.2]) ⟨[],[],[(53,.z 53 5 0 (r.1.map zac))],[],[]⟩:=by
 refine PT 59 [.tmp 6,.tmp 7] [28,4] Tryz.func156 ?_
 intro Q g hfin
 unfold ze3 at hF
 refine LR0 ?_
 refine LR0 ?_
 refine NR [] [0,2,8,9] [] [] [(0,.rp (.agg [.sl 1 (o.map zag),.sl 1 (o1.map zej),.sl 1 (o2.map zan)])),(2,.i to0),(8,.nils),(9,.i from0)] .nil ?_
 refine NmQ (fun v=>zet v=some r) (fun v=>⟨[(8,.row 53 0)],[],[(53,.z 53 5 0 (v.map zac))],[],[]⟩) ?_ ?_
 ·refine zcb ?_
  unfold file_opened_cells_L1 at hF
  refine zap 8 60000 53 5 rfl rfl rfl ?_
  refine zci (fs:=[0,2,8,9]) (bs:=[]) (rs:=[60000]) (ms:=[]) (aa:=[]) (nv:=[]) rfl ?_
  refine zat ⟨[],[(60000,53)],[],[]⟩ rfl ?_
  refine Nitr hF [] (fun v1=>⟨[(0,.rp (.agg (c_opened v1.1))),(2,.i to0),(8,.row 53 0),(9,.i v1.2.2)],[],[(53,.z 53 5 0 (v1.2.1.map zac))],[],[]⟩) ?_
  intro n1 v1 y1 hF ih1 dn1
  unfold zbw at hF
  refine LR0 ?_
  refine Nif hF ?_ ?_ <;> intro hb hF
  ·refine zcb ?_
   obtain ⟨h1,hF⟩:=aE hF
   obtain ⟨x1,h2,hF⟩:=oE hF
   have p3:=(Pe.ren (cell_Read_ok h2) ⟨[],[(30,26)],[],[]⟩)
   refine RJ (.i zag h1 (.e [] [] p3 .z)) ?_
   obtain ⟨h4,h5,hF⟩:=asrt2 hF
   obtain ⟨h6,hF⟩:=aE hF
   refine DJ (.a (.nat (x1.1.length:Int)) (.g (fun (_:(!(!decide (x1.2.Code=0)))=true)=>(zdv zac x1.1)) (.g (fun (ga0:(!((!decide (x1.2.Code=0))||(decide ((x1.1.length:Int)=0))))=true)=>(ixr_ok zac (h4 ga0))) (.a (.av (zac (zaf x1.1 0))) (.g (fun (ga0:(!((!decide (x1.2.Code=0))||(decide ((x1.1.length:Int)=0))))=true)=>(ldr_ok zac (h5 ga0))) (.a (.av (zej (zaf v1.1.rows v1.2.2))) (.g (fun (ga0:(!((!decide (x1.2.Code=0))||(decide ((x1.1.length:Int)=0))))=true)=>(idx_ok zej (h6 ga0))) .z))))))) ?_
   refine Nif hF ?_ ?_ <;> intro hb hF
   ·refine NR [] [6,7] [] [] [(6,.nils),(7,.bool false)] .nil ?_
    have hF:=zc0 hF dn1
    cases hF
    refine zap 6 60001 53 5 rfl rfl rfl ?_
    refine zat ⟨[],[(60001,53)],[],[]⟩ rfl ?_
    exact Wz [] hfin
   ·obtain ⟨h7,hF⟩:=aE hF
    refine RJ (.p zac h7 .z) ?_
    refine LR0 ?_
    exact Nrnq [(53,⟨0,true,true,false⟩)] hF ih1
  ·refine zbv rfl ?_
   have hF:=zaj hF dn1
   exact ze6 v1.2.1 [] hF
 ·intro v hF
  unfold zet at hF
  obtain ⟨x,h0,hF⟩:=oE hF
  refine RJ (.b (cell_Check_ok h0) .z) ?_
  cases hF
  exact Wz [] hfin

/- file.spots -/
def file_spots_J1 (v:Arr3_3×Arr3_3):Option Arr3_3:=
 some v.2
def file_spots (row:List UInt8) (bits:Int):Option Arr3_3:=
 zaq ((row.length:Int)≤140737488351232) <|
 ob (wire_Crc row) fun x=>
 zaq (bits≠0) <|
 lt (Int.tmod (w64 ((Int.tmod (w64 x) 65536)+(w64 (0*(w64 (Int.tdiv (w64 x) 65536)))))) bits) fun v1=>
 zaq (bits≠0) <|
 lt (Int.tmod (w64 ((Int.tmod (w64 x) 65536)+(w64 (1*(w64 (Int.tdiv (w64 x) 65536)))))) bits) fun v2=>
 zaq (bits≠0) <|
 lt (Int.tmod (w64 ((Int.tmod (w64 x) 65536)+(w64 (2*(w64 (Int.tdiv (w64 x) 65536)))))) bits) fun v3=>
 file_spots_J1 ((⟨0,0,0⟩:Arr3_3),(⟨v1,v2,v3⟩:Arr3_3))
theorem file_spots_ok {row bits r} (hF:file_spots row bits=some r):Pe Tryz.prog 153 S.none [.str row,.i bits] (.agg (c_Arr3_3 r)) S.none:=by
 refine PT 28 [.cell 4 174] [174] Tryz.func153 ?_
 intro Q g hfin
 unfold file_spots at hF
 refine LR0 ?_
 obtain ⟨h0,hF⟩:=aE hF
 obtain ⟨x,h1,hF⟩:=oE hF
 refine RJ (.g (bof_ok h0) (.b (wire_Crc_ok h1) .z)) ?_
 refine LR0 ?_
 refine LR0 ?_
 refine NmS (fun v=>file_spots_J1 v=some r) (fun Z v=>Z.up [4,6] [4,6] [] [] [] [(4,(c_Arr3_3 v.1)),(6,(c_Arr3_3 v.2))] [] []) ?_ ?_
 ·refine zcb ?_
  refine Wk_unroll 9 ?_
  refine Nagain ?_
  refine LR0 ?_
  refine Ntrue (by kernel_rfl) ?_
  refine zcb ?_
  refine LR0 ?_
  obtain ⟨h2,hF⟩:=aE hF
  refine NRL (Int.tmod (w64 ((Int.tmod (w64 x) 65536)+(w64 (0*(w64 (Int.tdiv (w64 x) 65536)))))) bits) (fun v1:Int=>([],[(6,[.i v1,.i 0,.i 0])],[],[])) [] [1,4,5,6,12] [4,6] [] [] (hc (by decide:(65536:Int)≠0) (hc (by decide:(65536:Int)≠0) (hc h2 (hc (⟨by decide,by decide⟩:(0:Int)≤0∧(0:Int)<((3:Nat):Int)) .nil)))) (fun v1 hv=>?_)
  have hF:=zev hF hv
  refine LR0 ?_
  refine Nagain ?_
  refine LR0 ?_
  refine Ntrue (by kernel_rfl) ?_
  refine zcb ?_
  refine LR0 ?_
  obtain ⟨h3,hF⟩:=aE hF
  refine NRL (Int.tmod (w64 ((Int.tmod (w64 x) 65536)+(w64 (1*(w64 (Int.tdiv (w64 x) 65536)))))) bits) (fun v2:Int=>([],[(6,[.i v1,.i v2,.i 0])],[],[])) [] [1,4,5,6,12] [4,6] [] [] (hc (by decide:(65536:Int)≠0) (hc (by decide:(65536:Int)≠0) (hc h3 (hc (⟨by decide,by decide⟩:(0:Int)≤1∧(1:Int)<((3:Nat):Int)) .nil)))) (fun v2 hv=>?_)
  have hF:=zev hF hv
  refine LR0 ?_
  refine Nagain ?_
  refine LR0 ?_
  refine Ntrue (by kernel_rfl) ?_
  refine zcb ?_
  refine LR0 ?_
  obtain ⟨h4,hF⟩:=aE hF
  refine NRL (Int.tmod (w64 ((Int.tmod (w64 x) 65536)+(w64 (2*(w64 (Int.tdiv (w64 x) 65536)))))) bits) (fun v3:Int=>([],[(6,[.i v1,.i v2,.i v3])],[],[])) [] [1,4,5,6,12] [4,6] [] [] (hc (by decide:(65536:Int)≠0) (hc (by decide:(65536:Int)≠0) (hc h4 (hc (⟨by decide,by decide⟩:(0:Int)≤2∧(2:Int)<((3:Nat):Int)) .nil)))) (fun v3 hv=>?_)
  have hF:=zev hF hv
  refine LR0 ?_
  refine Nagain ?_
  refine LR0 ?_
  refine Nfalse (by kernel_rfl) ?_
  refine zbv rfl ?_
  exact ze6 ((⟨0,0,0⟩:Arr3_3),(⟨v1,v2,v3⟩:Arr3_3)) [] hF
 ·intro v hF
  unfold file_spots_J1 at hF
  refine LR0 ?_
  cases hF
  exact Wz [] hfin

/- file.filter -/
def file_filter_J2 (v1:List UInt8):Option (List UInt8):=
 some v1
def file_filter_J3 (v2:List UInt8×Int) (v3:List UInt8):Option ((List UInt8×Int)⊕(List UInt8)):=
 some (Sum.inl (v3,w64 (v2.2+1)))
def ze1 (l:List Cell) (v2:List UInt8×Int):Option ((List UInt8×Int)⊕(List UInt8)):=
 if (decide (v2.2<(l.length:Int)))=true then
  zaq (0≤v2.2∧v2.2<(l.length:Int)) <|
  ob (file_spots ((zaf l v2.2).Row) (w64 (8*(v2.1.length:Int)))) fun x=>
  zaq (0≤w64 (Int.tdiv x.p0 8)∧w64 (Int.tdiv x.p0 8)<(v2.1.length:Int)) <|
  zaq (0≤w64 (Int.tdiv x.p0 8)∧w64 (Int.tdiv x.p0 8)<(v2.1.length:Int)) <|
  zaq (0≤(Int.tmod x.p0 8)) <|
  zaq (0≤w64 (Int.tdiv x.p0 8)∧w64 (Int.tdiv x.p0 8)<(v2.1.length:Int)) <|
  zaq (0≤w64 (Int.tdiv x.p0 8)∧w64 (Int.tdiv x.p0 8)<(v2.1.length:Int)) <|
  lt ((lset v2.1 (w64 (Int.tdiv x.p0 8)) (zd1 (((BitVec.ofInt 8 ((zaf v2.1 (w64 (Int.tdiv x.p0 8))).toNat:Int) ||| BitVec.ofInt 8 ((zd1 (((1:UInt8).toNat:Int)*2 ^ (min (Int.tmod x.p0 8).toNat 8))).toNat:Int)).toNat:Int))))) fun v4=>
  zaq (0≤w64 (Int.tdiv x.p1 8)∧w64 (Int.tdiv x.p1 8)<(v4.length:Int)) <|
  zaq (0≤w64 (Int.tdiv x.p1 8)∧w64 (Int.tdiv x.p1 8)<(v4.length:Int)) <|
  zaq (0≤(Int.tmod x.p1 8)) <|
  zaq (0≤w64 (Int.tdiv x.p1 8)∧w64 (Int.tdiv x.p1 8)<(v4.length:Int)) <|
  zaq (0≤w64 (Int.tdiv x.p1 8)∧w64 (Int.tdiv x.p1 8)<(v4.length:Int)) <|
  lt ((lset v4 (w64 (Int.tdiv x.p1 8)) (zd1 (((BitVec.ofInt 8 ((zaf v4 (w64 (Int.tdiv x.p1 8))).toNat:Int) ||| BitVec.ofInt 8 ((zd1 (((1:UInt8).toNat:Int)*2 ^ (min (Int.tmod x.p1 8).toNat 8))).toNat:Int)).toNat:Int))))) fun v5=>
  zaq (0≤w64 (Int.tdiv x.p2 8)∧w64 (Int.tdiv x.p2 8)<(v5.length:Int)) <|
  zaq (0≤w64 (Int.tdiv x.p2 8)∧w64 (Int.tdiv x.p2 8)<(v5.length:Int)) <|
  zaq (0≤(Int.tmod x.p2 8)) <|
  zaq (0≤w64 (Int.tdiv x.p2 8)∧w64 (Int.tdiv x.p2 8)<(v5.length:Int)) <|
  zaq (0≤w64 (Int.tdiv x.p2 8)∧w64 (Int.tdiv x.p2 8)<(v5.length:Int)) <|
  lt ((lset v5 (w64 (Int.tdiv x.p2 8)) (zd1 (((BitVec.ofInt 8 ((zaf v5 (w64 (Int.tdiv x.p2 8))).toNat:Int) ||| BitVec.ofInt 8 ((zd1 (((1:UInt8).toNat:Int)*2 ^ (min (Int.tmod x.p2 8).toNat 8))).toNat:Int)).toNat:Int))))) fun v6=>
  file_filter_J3 v2 v6
 else
  zem (file_filter_J2 v2.1)
def file_filter_L1 (l:List Cell) (v0:List UInt8×Int):Option (List UInt8):=
 zbc (fun y=>ze1 l y) v0
def file_filter_J1 (l:List Cell) (v:Int):Option (List UInt8):=
 zaq (0≤((max 1 v):Int)∧(max 1 v)≤(max 1 v)∧(max 1 v)*1≤140737488351232) <|
 file_filter_L1 l ((List.replicate (max 1 v).toNat ((0:UInt8):UInt8)),0)
def file_filter_B2 (l:List Cell) (v7:Int×Int):Option ((Int×Int)⊕(List UInt8)):=
 if (decide (v7.2<(l.length:Int)))=true then
  zaq (0≤v7.2∧v7.2<(l.length:Int)) <|
  zaq ((!(decide (v7.2=0)))=true→0≤w64 (v7.2 - 1)∧w64 (v7.2 - 1)<(l.length:Int)) <|
  ob (
   if ((decide (v7.2=0))||(!decide (((zaf l v7.2).Row)=((zaf l (w64 (v7.2 - 1))).Row))))=true then
    some (w64 (v7.1+1))
   else
    some v7.1) fun v8=>
  some (Sum.inl (v8,w64 (v7.2+1)))
 else
  zem (file_filter_J1 l v7.1)
def file_filter_L2 (l:List Cell) (v0:Int×Int):Option (List UInt8):=
 zbc (fun y=>file_filter_B2 l y) v0
def file_filter (l:List Cell):Option (List UInt8):=
 file_filter_L2 l (0,0)
theorem file_filter_ok {l r} (hF:file_filter l=some r):Pe Tryz.prog 124 (.w []) [.sl 5 (l.map zac)] (.row 36 0) ⟨[],[],[(36,.o 5 1 0 (r.map zan))],[],[]⟩:=by
 refine PT 65 [.tmp 2] [22] Tryz.func124 ?_
 intro Q g hfin
 unfold file_filter at hF
 refine LR0 ?_
 refine LR0 ?_
 refine RJ (.l zac l .z) ?_
 refine NmS (fun v=>file_filter_J1 l v=some r) (fun Z v=>Z.up [0,3] [] [] [] [(3,.i v)] [] [] []) ?_ ?_
 ·refine zcb ?_
  unfold file_filter_L2 at hF
  refine Nits hF [] (fun Z v7=>Z.up [0,3,11,12,13] [] [] [] [(3,.i v7.1),(13,.i v7.2)] [] [] []) ?_
  intro n1 v7 y1 hF ih1 dn1
  unfold file_filter_B2 at hF
  refine LR0 ?_
  refine Nif hF ?_ ?_ <;> intro hb hF
  ·refine zcb ?_
   obtain ⟨h18,hF⟩:=aE hF
   refine RJ (.i zac h18 .z) ?_
   obtain ⟨h19,hF⟩:=aE hF
   refine DJ (.a (.av (zac (zaf l (w64 (v7.2 - 1))))) (.g (fun (ga0:(!(decide (v7.2=0)))=true)=>(idx_ok zac (h19 ga0))) .z)) ?_
   obtain ⟨v8,hv,hF⟩:=oE hF
   refine NmT (fun Z=>Z.up [0,3,11,12,13] [] [] [] [(3,.i v8)] [] [] []) ?_ ?_
   ·have hF:=hv
    refine Nif hF ?_ ?_ <;> intro hb hF
    ·refine LR0 ?_
     cases hF
     exact met' []
    ·cases hF
     exact met' []
   ·refine LR0 ?_
    exact Nrnq [] hF ih1
  ·refine zbv rfl ?_
   have hF:=zaj hF dn1
   exact ze6 v7.1 [] hF
 ·intro v hF
  unfold file_filter_J1 at hF
  obtain ⟨h0,hF⟩:=aE hF
  refine RJ (.a (.xs ((List.replicate (max 1 v).toNat ((0:UInt8):UInt8)).map zan)) (.g (mk_ok h0) (.g (rep_ok zan (max 1 v) ((0:UInt8):UInt8)) .z))) ?_
  refine RJ (.l zac l .z) ?_
  refine NmS (fun v1=>file_filter_J2 v1=some r) (fun Z v1=>Z.up [6] [] [36] [] [] [] [(36,.o 5 1 0 (v1.map zan))] []) ?_ ?_
  ·refine zcb ?_
   unfold file_filter_L1 at hF
   refine Nits hF [] (fun Z v2=>Z.up [6,37,38,39] [] [36] [] [(39,.i v2.2)] [] [(36,.o 5 1 0 (v2.1.map zan))] []) ?_
   intro n1 v2 y1 hF ih1 dn1
   unfold ze1 at hF
   refine LR0 ?_
   refine Nif hF ?_ ?_ <;> intro hb hF
   ·refine zcb ?_
    obtain ⟨h1,hF⟩:=aE hF
    refine RJ (.i zac h1 .z) ?_
    obtain ⟨x,h2,hF⟩:=oE hF
    refine RJ (.l zan v2.1 (.b (file_spots_ok h2) .z)) ?_
    refine NmS (fun v3=>file_filter_J3 v2 v3=some y1) (fun Z v3=>Z.up [6,37,38,39] [] [36] [] [] [] [(36,.o 5 1 0 (v3.map zan))] []) ?_ ?_
    ·refine zcb ?_
     refine Wk_unroll 9 ?_
     refine Nagain ?_
     refine LR0 ?_
     refine Ntrue (by kernel_rfl) ?_
     refine zcb ?_
     refine RJ (.g (⟨by decide,by decide⟩:(0:Int)≤0∧(0:Int)<((3:Nat):Int)) .z) ?_
     obtain ⟨h3,h4,h5,h6,hF⟩:=asrt4 hF
     obtain ⟨h7,hF⟩:=aE hF
     obtain ⟨v4,hv,hF⟩:=lS hF
     refine DJ (.g (by decide:(8:Int)≠0) (.x zan h3 (.r zan h4 (.g (by decide:(8:Int)≠0) (.g h5 (.x zan h6 (.wN zan h7 hv .z))))))) ?_
     refine LR0 ?_
     refine Nagain ?_
     refine LR0 ?_
     refine Ntrue (by kernel_rfl) ?_
     refine zcb ?_
     refine RJ (.g (⟨by decide,by decide⟩:(0:Int)≤1∧(1:Int)<((3:Nat):Int)) .z) ?_
     obtain ⟨h8,h9,h10,h11,hF⟩:=asrt4 hF
     obtain ⟨h12,hF⟩:=aE hF
     obtain ⟨v5,hv,hF⟩:=lS hF
     refine DJ (.g (by decide:(8:Int)≠0) (.x zan h8 (.r zan h9 (.g (by decide:(8:Int)≠0) (.g h10 (.x zan h11 (.wN zan h12 hv .z))))))) ?_
     refine LR0 ?_
     refine Nagain ?_
     refine LR0 ?_
     refine Ntrue (by kernel_rfl) ?_
     refine zcb ?_
     refine RJ (.g (⟨by decide,by decide⟩:(0:Int)≤2∧(2:Int)<((3:Nat):Int)) .z) ?_
     obtain ⟨h13,h14,h15,h16,hF⟩:=asrt4 hF
     obtain ⟨h17,hF⟩:=aE hF
     obtain ⟨v6,hv,hF⟩:=lS hF
     refine DJ (.g (by decide:(8:Int)≠0) (.x zan h13 (.r zan h14 (.g (by decide:(8:Int)≠0) (.g h15 (.x zan h16 (.wN zan h17 hv .z))))))) ?_
     refine LR0 ?_
     refine Nagain ?_
     refine LR0 ?_
     refine Nfalse (by kernel_rfl) ?_
     refine zbv rfl ?_
     exact ze6 v6 [] hF
    ·intro v3 hF
     unfold file_filter_J3 at hF
     refine LR0 ?_
     exact Nrnq [] hF ih1
   ·refine zbv rfl ?_
    have hF:=zaj hF dn1
    exact ze6 v2.1 [] hF
  ·intro v1 hF
   unfold file_filter_J2 at hF
   refine LR0 ?_
   cases hF
   exact Wz [] hfin

/- file.Open -/
def file_Open (b:List UInt8):Option (List Cell×Fault):=
 ob (file_open b) fun x=>
 if (!decide (x.2.2.Code=0))=true then
  some (([]:List Cell),x.2.2)
 else
  zaq (x.1=true) <|
  ob (ze3 x.2.1.bodies x.2.1.rows x.2.1.filter 0 (x.2.1.bodies.length:Int)) fun x1=>
  if ((!x1.2)||(decide (500<(x1.1.length:Int))))=true then
   lt (file_fault 5 2) fun x2=>
   some (([]:List Cell),x2)
  else
   ob (file_filter x1.1) fun x3=>
   ob (zcx x3 x.2.1.filter) fun x4=>
   if (!x4)=true then
    lt (file_fault 5 3) fun x5=>
    some (([]:List Cell),x5)
   else
    some (x1.1,x.2.2)
theorem file_Open_ok {b r} (hF:file_Open b=some r):Pe Tryz.prog 130 (.w []) [.sl 1 (b.map zan)] (.tup [.row 24 0,.agg (zad r.2)]) ⟨[],[],[(24,⟨53,5,0,(r.1.map zac).length,0,true,0,[],(r.1.map zac)⟩)],[],[]⟩:=by
 refine PT 46 [.tmp 2,.cell 3 35] [28,35] Tryz.func130 ?_
 intro Q g hfin
 unfold file_Open at hF
 refine LR0 ?_
 obtain ⟨x,h0,hF⟩:=oE hF
 refine RJ (.c (file_open_ok h0) .z) ?_
 refine VR [] [3,4,5,15] [3,5] [] [] [(3,.ptr 3 0),(4,.popt x.1 (.rp (.agg (c_opened x.2.1)))),(5,.ptr 5 0),(15,.bool (!decide (x.2.2.Code=0)))] [(3,[.i 0,.i 0]),(5,(zad x.2.2))] [] [] .nil ?_
 refine Nif hF ?_ ?_ <;> intro hb hF
 ·refine VD [] [2,3] [3] [] [] [(2,.nils),(3,.ptr 3 0)] [(3,(zad x.2.2))] [] [] .nil ?_
  cases hF
  refine zap 2 60000 53 5 rfl rfl rfl ?_
  refine zat ⟨[],[(60000,24)],[],[]⟩ rfl ?_
  exact Wz [(24,⟨0,true,true,true⟩)] hfin
 ·obtain ⟨h1,hF⟩:=aE hF
  refine Wk_coe 4 (.rp (.agg (c_opened x.2.1))) rfl (.cell rfl (CoeS.unp h1)) ?_
  obtain ⟨x1,h2,hF⟩:=oE hF
  have p3:=(Pe.ren (file_opened_cells_ok h2) ⟨[],[(53,24)],[],[]⟩)
  refine RJ (.l zag x.2.1.bodies (.e [] [] p3 .z)) ?_
  refine RJ (.a (.nat (x1.1.length:Int)) (.g (fun (_:(!(!x1.2))=true)=>(zdv zac x1.1)) .z)) ?_
  refine Nif hF ?_ ?_ <;> intro hb hF
  ·obtain ⟨x2,h4,hF⟩:=lS hF
   refine VR [.callB (.agg (zad x2))] [2,3] [3] [] [] [(2,.nils),(3,.ptr 3 0)] [(3,(zad x2))] [] [] (hc (zey h4) .nil) ?_
   cases hF
   refine zap 2 60001 53 5 rfl rfl rfl ?_
   refine zat ⟨[],[(60001,24)],[],[]⟩ rfl ?_
   exact Wz [(24,⟨0,true,true,true⟩)] hfin
  ·obtain ⟨x3,h5,hF⟩:=oE hF
   have p6:=(Pe.ren (file_filter_ok h5) ⟨[],[],[],[]⟩)
   obtain ⟨x4,h7,hF⟩:=oE hF
   refine DJ (.e [] [] p6 (.b (slices_Equal_byte_byte_ok h7) .z)) ?_
   refine Nif hF ?_ ?_ <;> intro hb hF
   ·obtain ⟨x5,h8,hF⟩:=lS hF
    refine VR [.callB (.agg (zad x5))] [2,3] [3] [] [] [(2,.nils),(3,.ptr 3 0)] [(3,(zad x5))] [] [] (hc (zey h8) .nil) ?_
    cases hF
    refine zap 2 60002 53 5 rfl rfl rfl ?_
    refine zat ⟨[],[(60002,24)],[],[]⟩ rfl ?_
    exact Wz [(24,⟨0,true,true,true⟩)] hfin
   ·refine LD0 ?_
    cases hF
    exact Wz [] hfin

/- (*tablet.tab).fill$1 -/
def tablet_tab_fill_1 (num:Note) (box:List UInt8) (box1:Int) (box2:List (List UInt8)) (box3 box4 box5:Int) (row:List Note) (row1:List (List Cell)):Bool:=
 decide (box3<num.Seq)
theorem tablet_tab_fill_1_ok (rk rc:Nat) (rn:Bool) (rk1 rc1:Nat) (rn1:Bool) {num box box1 box2 box3 box4 box5 row row1 r} (hF:tablet_tab_fill_1 num box box1 box2 box3 box4 box5 row row1=r):Pe Tryz.prog 115 ⟨[],[(100000,[.ptr 100001 0]),(100001,[.sl 1 (box.map zan),.i box1,.sl 1 (box2.map zag),.i box3,.i box4,.row 100000 0,.i box5,.nils,.row 100001 0])],[(100000,.q 50 2 0 rk rc rn (row.map zak)),(100001,.q 28 1 0 rk1 rc1 rn1 (row1.map zas))],[],[]⟩ [.agg (c_Note num),.ptr 100000 0] (.bool r) ⟨[],[(100000,[.ptr 100001 0]),(100001,[.sl 1 (box.map zan),.i box1,.sl 1 (box2.map zag),.i box3,.i box4,.row 100000 0,.i box5,.nils,.row 100001 0])],[(100000,.q 50 2 0 rk rc rn (row.map zak)),(100001,.q 28 1 0 rk1 rc1 rn1 (row1.map zas))],[],[]⟩:=by
 refine PT 12 [.tmp 3] [4] Tryz.func115 ?_
 intro Q g hfin
 unfold tablet_tab_fill_1 at hF
 refine LR0 ?_
 refine LD0 ?_
 cases hF
 exact Wz [] hfin

/- slices.IndexFunc[[]api.Note,api.Note] -/
def zdb (v:Unit):Option Int:=
 some (-1)
def zbf (box:List UInt8) (box1:Int) (box2:List (List UInt8)) (box3 box4 box5:Int) (row:List Note) (row1:List (List Cell)) (v1:Int):Option (Int⊕Int):=
 if (decide (v1<(row.length:Int)))=true then
  zaq (0≤v1∧v1<(row.length:Int)) <|
  zaq (0≤v1∧v1<(row.length:Int)) <|
  lt (tablet_tab_fill_1 (⟨(zaf row v1).Seq,(zaf row v1).Cells⟩:Note) box box1 box2 box3 box4 box5 row row1) fun x=>
  if x=true then
   some (Sum.inr v1)
  else
   some (Sum.inl (w64 (v1+1)))
 else
  zem (zdb ())
def zdf (box:List UInt8) (box1:Int) (box2:List (List UInt8)) (box3 box4 box5:Int) (row:List Note) (row1:List (List Cell)) (v0:Int):Option Int:=
 zbc (fun y=>zbf box box1 box2 box3 box4 box5 row row1 y) v0
def zcu (box:List UInt8) (box1:Int) (box2:List (List UInt8)) (box3 box4 box5:Int) (row:List Note) (row1:List (List Cell)):Option Int:=
 zdf box box1 box2 box3 box4 box5 row row1 0
theorem slices_IndexFunc_api_Note_api_Note_ok (rk rc:Nat) (rn:Bool) (rk1 rc1:Nat) (rn1:Bool) {box box1 box2 box3 box4 box5 row row1 r} (hF:zcu box box1 box2 box3 box4 box5 row row1=some r):Pe Tryz.prog 114 ⟨[],[(100000,[.ptr 100001 0]),(100001,[.sl 1 (box.map zan),.i box1,.sl 1 (box2.map zag),.i box3,.i box4,.row 100000 0,.i box5,.nils,.row 100001 0])],[(100000,.q 50 2 0 rk rc rn (row.map zak)),(100001,.q 28 1 0 rk1 rc1 rn1 (row1.map zas))],[],[]⟩ [.row 100000 0,.fn 115 [.ptr 100000 0]] (.i r) ⟨[],[(100000,[.ptr 100001 0]),(100001,[.sl 1 (box.map zan),.i box1,.sl 1 (box2.map zag),.i box3,.i box4,.row 100000 0,.i box5,.nils,.row 100001 0])],[(100000,.q 50 2 0 rk rc rn (row.map zak)),(100001,.q 28 1 0 rk1 rc1 rn1 (row1.map zas))],[],[]⟩:=by
 refine PT 19 [.tmp 4] [3] Tryz.func114 ?_
 intro Q g hfin
 unfold zcu at hF
 refine LR0 ?_
 refine RJ (.l zak row .z) ?_
 refine NmS (fun v=>zdb v=some r) (fun Z v=>Z.up [] [100000,100001] [100000,100001] [] [] [] [] []) ?_ ?_
 ·refine zcb ?_
  unfold zdf at hF
  refine Nits hF [] (fun Z v1=>Z.up [0,1,7,8] [100000,100001] [100000,100001] [] [(8,.i v1)] [] [] []) ?_
  intro n1 v1 y1 hF ih1 dn1
  unfold zbf at hF
  refine LR0 ?_
  refine Nif hF ?_ ?_ <;> intro hb hF
  ·refine zcb ?_
   refine LR0 ?_
   obtain ⟨h0,h1,hF⟩:=asrt2 hF
   obtain ⟨x,h2,hF⟩:=lS hF
   refine RJ (.x zak h0 (.r zak h1 (.q [100000,100001] [100000,100001] (Pe.ren (tablet_tab_fill_1_ok rk rc rn rk1 rc1 rn1 h2) ⟨[],[],[],[]⟩) .z))) ?_
   refine Nif hF ?_ ?_ <;> intro hb hF
   ·refine LR0 ?_
    have hF:=zc0 hF dn1
    cases hF
    exact Wz [] hfin
   ·refine LR0 ?_
    exact Nrnq [] hF ih1
  ·refine zbv rfl ?_
   have hF:=zaj hF dn1
   exact ze6 () [] hF
 ·intro v hF
  unfold zdb at hF
  refine LR0 ?_
  cases hF
  exact Wz [] hfin

/- slices.Grow[[]api.Cell,api.Cell] -/
def zb6 (num:Int):Option (List Cell):=
 ob (
  if (decide (num<0))=true then
   none
  else
   some ()) fun v=>
 ob (
  if (decide (0<(w64 (num - (w64 (0 - 0))))))=true then
   zaq (0≤(w64 (num - (w64 (0 - 0))))∧(w64 (num - (w64 (0 - 0)))).toNat*64≤140737488351232) <|
   zaq (0≤(0:Int)∧(0:Int)≤((List.replicate (w64 (num - (w64 (0 - 0)))).toNat ((⟨([]:List UInt8),([]:List UInt8),0,false,([]:List UInt8)⟩:Cell):Cell)).length:Int)) <|
   lt ((List.replicate (w64 (num - (w64 (0 - 0)))).toNat ((⟨([]:List UInt8),([]:List UInt8),0,false,([]:List UInt8)⟩:Cell):Cell))) fun (v2:List Cell)=>
   zaq (((0:Int).toNat)≤v2.length) <|
   some (v2.take ((0:Int).toNat))
  else
   some ([]:List Cell)) fun (v1:List Cell)=>
 some v1
theorem slices_Grow_api_Cell_api_Cell_v1_ok {num r} (hF:zb6 num=some r):Pe Tryz.prog 170 (.w []) [.nils,.i num] (.row 22 0) ⟨[],[],[(22,.o 53 5 0 (r.map zac))],[],[]⟩:=by
 refine PT 27 [.tmp 4] [28] Tryz.func170 ?_
 intro Q g hfin
 unfold zb6 at hF
 refine LR0 ?_
 refine LR0 ?_
 obtain ⟨v,hv,hF⟩:=oE hF
 refine NmT (fun Z=>Z.up [0,1] [] [] [] [] [] [] []) ?_ ?_
 ·have hF:=hv
  refine Nif hF ?_ ?_ <;> intro hb hF
  ·cases hF
  ·cases hF
   exact met' []
 ·refine LR0 ?_
  refine NR [] [0,1,16] [] [] [(0,.nils),(1,.i (w64 (num - (w64 (0 - 0))))),(16,.bool (decide (0<(w64 (num - (w64 (0 - 0)))))))] .nil ?_
  obtain ⟨v1,hv,hF⟩:=oE hF
  refine Nmeet (⟨[(0,.row 22 0)],[],[(22,.o 53 5 0 (v1.map zac))],[],[]⟩:S) ?_ ?_
  ·have hF:=hv
   refine Nif hF ?_ ?_ <;> intro hb hF
   ·obtain ⟨h0,hF⟩:=aE hF
    obtain ⟨h1,hF⟩:=aE hF
    refine NRL ((List.replicate (w64 (num - (w64 (0 - 0)))).toNat ((⟨([]:List UInt8),([]:List UInt8),0,false,([]:List UInt8)⟩:Cell):Cell))) (fun v2:List Cell=>([(0,.rowv 22 0 0 ((0:Int).toNat))],[],[(22,.z 53 5 0 (v2.map zac))],[])) [.xs ((List.replicate (w64 (num - (w64 (0 - 0)))).toNat ((⟨([]:List UInt8),([]:List UInt8),0,false,([]:List UInt8)⟩:Cell):Cell)).map zac),.vw ((0:Int).toNat)] [0] [] [22] [] (hc (rfl:(0:Int)=0) (hc h0 (hc (rep_ok zac (w64 (num - (w64 (0 - 0)))) ((⟨([]:List UInt8),([]:List UInt8),0,false,([]:List UInt8)⟩:Cell):Cell)) (hc (vw01_ok (cm:=0) zac h1) .nil)))) (fun v2 hv=>?_)
    have hF:=zev hF hv
    obtain ⟨h2,hF⟩:=aE hF
    refine Wk_truncL 0 22 0 ((0:Int).toNat) ((v2.take ((0:Int).toNat)).map zac) rfl rfl rfl rfl (tk_ok zac h2).1 (Nat.zero_le _) (List.map_take).symm ?_
    cases hF
    exact met' [(22,⟨0,false,true,false⟩)]
   ·refine zap 0 60000 53 5 rfl rfl rfl ?_
    refine zci (fs:=[0]) (bs:=[]) (rs:=[60000]) (ms:=[]) (aa:=[]) (nv:=[]) rfl ?_
    refine zat ⟨[],[(60000,22)],[],[]⟩ rfl ?_
    cases hF
    exact met' [(22,⟨0,true,false,false⟩)]
  ·refine LR0 ?_
   cases hF
   exact Wz [] hfin

/- slices.Concat[[]api.Cell,api.Cell] -/
def zcr (v1:List Cell):Option (List Cell):=
 some v1
def zcv (slices:List (List Cell)) (v2:List Cell×Int):Option ((List Cell×Int)⊕(List Cell)):=
 if (decide (v2.2<(slices.length:Int)))=true then
  zaq (0≤v2.2∧v2.2<(slices.length:Int)) <|
  zaq (((v2.1++(zaf slices v2.2)).length:Int)*64≤140737488351232) <|
  some (Sum.inl ((v2.1++(zaf slices v2.2)),w64 (v2.2+1)))
 else
  zem (zcr v2.1)
def zct (slices:List (List Cell)) (v0:List Cell×Int):Option (List Cell):=
 zbc (fun y=>zcv slices y) v0
def zcs (slices:List (List Cell)) (v:Int):Option (List Cell):=
 ob (zb6 v) fun x=>
 zct slices (x,0)
def zbx (slices:List (List Cell)) (v3:Int×Int):Option ((Int×Int)⊕(List Cell)):=
 if (decide (v3.2<(slices.length:Int)))=true then
  zaq (0≤v3.2∧v3.2<(slices.length:Int)) <|
  ob (
   if (decide ((w64 (v3.1+((zaf slices v3.2).length:Int)))<0))=true then
    none
   else
    some ()) fun v4=>
  some (Sum.inl (w64 (v3.1+((zaf slices v3.2).length:Int)),w64 (v3.2+1)))
 else
  zem (zcs slices v3.1)
def zd2 (slices:List (List Cell)) (v0:Int×Int):Option (List Cell):=
 zbc (fun y=>zbx slices y) v0
def zc6 (slices:List (List Cell)):Option (List Cell):=
 zd2 slices (0,0)
theorem slices_Concat_api_Cell_api_Cell_ok {slices r} (hF:zc6 slices=some r):Pe Tryz.prog 157 (.w []) [.sl 1 (slices.map zas)] (.row 24 0) ⟨[],[],[(24,.o 53 5 0 (r.map zac))],[],[]⟩:=by
 refine PT 36 [.tmp 2] [28] Tryz.func157 ?_
 intro Q g hfin
 unfold zc6 at hF
 refine LR0 ?_
 refine LR0 ?_
 refine RJ (.l zas slices .z) ?_
 refine NmS (fun v=>zcs slices v=some r) (fun Z v=>Z.up [0,3] [] [] [] [(3,.i v)] [] [] []) ?_ ?_
 ·refine zcb ?_
  unfold zd2 at hF
  refine Nits hF [] (fun Z v3=>Z.up [0,3,9,10,11] [] [] [] [(3,.i v3.1),(11,.i v3.2)] [] [] []) ?_
  intro n1 v3 y1 hF ih1 dn1
  unfold zbx at hF
  refine LR0 ?_
  refine Nif hF ?_ ?_ <;> intro hb hF
  ·refine zcb ?_
   obtain ⟨h4,hF⟩:=aE hF
   refine RJ (.i zas h4 .z) ?_
   refine RJ (.l zac (zaf slices v3.2) .z) ?_
   refine LR0 ?_
   obtain ⟨v4,hv,hF⟩:=oE hF
   refine NmT (fun Z=>Z.up [0,3,9,10,11] [] [] [] [] [] [] []) ?_ ?_
   ·have hF:=hv
    refine Nif hF ?_ ?_ <;> intro hb hF
    ·cases hF
    ·cases hF
     exact met' []
   ·refine LR0 ?_
    exact Nrnq [] hF ih1
  ·refine zbv rfl ?_
   have hF:=zaj hF dn1
   exact ze6 v3.1 [] hF
 ·intro v hF
  unfold zcs at hF
  obtain ⟨x,h0,hF⟩:=oE hF
  have p1:=(Pe.ren (slices_Grow_api_Cell_api_Cell_v1_ok h0) ⟨[],[(22,24)],[],[]⟩)
  refine RJ (.a (.raw [0]) (.a (cE [] [] [] [] p1) (.g p1 .z))) ?_
  refine RJ (.l zas slices .z) ?_
  refine NmS (fun v1=>zcr v1=some r) (fun Z v1=>Z.up [6] [] [24] [] [] [] [(24,.o 53 5 0 (v1.map zac))] []) ?_ ?_
  ·refine zcb ?_
   unfold zct at hF
   refine Nits hF [] (fun Z v2=>Z.up [6,25,26,27] [] [24] [] [(27,.i v2.2)] [] [(24,.o 53 5 0 (v2.1.map zac))] []) ?_
   intro n1 v2 y1 hF ih1 dn1
   unfold zcv at hF
   refine LR0 ?_
   refine Nif hF ?_ ?_ <;> intro hb hF
   ·refine zcb ?_
    obtain ⟨h2,hF⟩:=aE hF
    refine RJ (.i zas h2 .z) ?_
    obtain ⟨h3,hF⟩:=aE hF
    refine RJ (.p zac h3 .z) ?_
    refine LR0 ?_
    exact Nrnq [(24,⟨0,true,true,false⟩)] hF ih1
   ·refine zbv rfl ?_
    have hF:=zaj hF dn1
    exact ze6 v2.1 [] hF
  ·intro v1 hF
   unfold zcr at hF
   refine LR0 ?_
   cases hF
   exact Wz [] hfin

/- slices.insertionSortCmpFunc[api.Cell] -/
def zcq (v:List Cell):Option (List Cell):=
 some v
def zcm (v1:List Cell×Int) (v2:List Cell):Option ((List Cell×Int)⊕(List Cell)):=
 some (Sum.inl (v2,w64 (v1.2+1)))
def za5 (a0:Int) (v1 v3:List Cell×Int):Option ((List Cell×Int)⊕((List Cell×Int)⊕(List Cell))):=
 zaq ((decide (a0<v3.2))=true→0≤v3.2∧v3.2<(v3.1.length:Int)) <|
 zaq ((decide (a0<v3.2))=true→0≤v3.2∧v3.2<(v3.1.length:Int)) <|
 zaq ((decide (a0<v3.2))=true→0≤w64 (v3.2 - 1)∧w64 (v3.2 - 1)<(v3.1.length:Int)) <|
 zaq ((decide (a0<v3.2))=true→0≤w64 (v3.2 - 1)∧w64 (v3.2 - 1)<(v3.1.length:Int)) <|
 ob (if (decide (a0<v3.2))=true then (cell_Order (⟨(zaf v3.1 v3.2).Row,(zaf v3.1 v3.2).Col,(zaf v3.1 v3.2).Time,(zaf v3.1 v3.2).Gone,(zaf v3.1 v3.2).Value⟩:Cell) (⟨(zaf v3.1 (w64 (v3.2 - 1))).Row,(zaf v3.1 (w64 (v3.2 - 1))).Col,(zaf v3.1 (w64 (v3.2 - 1))).Time,(zaf v3.1 (w64 (v3.2 - 1))).Gone,(zaf v3.1 (w64 (v3.2 - 1))).Value⟩:Cell)) else some default) fun x=>
 if ((decide (a0<v3.2))&&(decide (x<0)))=true then
  zaq (0≤w64 (v3.2 - 1)∧w64 (v3.2 - 1)<(v3.1.length:Int)) <|
  zaq (0≤w64 (v3.2 - 1)∧w64 (v3.2 - 1)<(v3.1.length:Int)) <|
  zaq (0≤v3.2∧v3.2<(v3.1.length:Int)) <|
  zaq (0≤v3.2∧v3.2<(v3.1.length:Int)) <|
  zaq (0≤v3.2∧v3.2<(v3.1.length:Int)) <|
  zaq (0≤v3.2∧v3.2<(v3.1.length:Int)) <|
  zaq (0≤w64 (v3.2 - 1)∧w64 (v3.2 - 1)<((lset v3.1 v3.2 (⟨(zaf v3.1 (w64 (v3.2 - 1))).Row,(zaf v3.1 (w64 (v3.2 - 1))).Col,(zaf v3.1 (w64 (v3.2 - 1))).Time,(zaf v3.1 (w64 (v3.2 - 1))).Gone,(zaf v3.1 (w64 (v3.2 - 1))).Value⟩:Cell)).length:Int)) <|
  zaq (0≤w64 (v3.2 - 1)∧w64 (v3.2 - 1)<((lset v3.1 v3.2 (⟨(zaf v3.1 (w64 (v3.2 - 1))).Row,(zaf v3.1 (w64 (v3.2 - 1))).Col,(zaf v3.1 (w64 (v3.2 - 1))).Time,(zaf v3.1 (w64 (v3.2 - 1))).Gone,(zaf v3.1 (w64 (v3.2 - 1))).Value⟩:Cell)).length:Int)) <|
  lt ((lset (lset v3.1 v3.2 (⟨(zaf v3.1 (w64 (v3.2 - 1))).Row,(zaf v3.1 (w64 (v3.2 - 1))).Col,(zaf v3.1 (w64 (v3.2 - 1))).Time,(zaf v3.1 (w64 (v3.2 - 1))).Gone,(zaf v3.1 (w64 (v3.2 - 1))).Value⟩:Cell)) (w64 (v3.2 - 1)) (⟨(zaf v3.1 v3.2).Row,(zaf v3.1 v3.2).Col,(zaf v3.1 v3.2).Time,(zaf v3.1 v3.2).Gone,(zaf v3.1 v3.2).Value⟩:Cell))) fun v4=>
  some (Sum.inl (v4,w64 (v3.2 - 1)))
 else
  zem (zcm v1 v3.1)
def zcn (a0:Int) (v1 v0:List Cell×Int):Option ((List Cell×Int)⊕(List Cell)):=
 zbc (fun y=>za5 a0 v1 y) v0
def za2 (a0 b:Int) (v1:List Cell×Int):Option ((List Cell×Int)⊕(List Cell)):=
 if (decide (v1.2<b))=true then
  zcn a0 v1 (v1.1,v1.2)
 else
  zem (zcq v1.1)
def zbq (a0 b:Int) (v0:List Cell×Int):Option (List Cell):=
 zbc (fun y=>za2 a0 b y) v0
def za0 (a0 b:Int) (row:List Cell):Option (List Cell):=
 zbq a0 b (row,w64 (a0+1))
theorem zd4 (rk rc:Nat) (rn:Bool) {a0 b row r} (hF:za0 a0 b row=some r):Pe Tryz.prog 177 (.w [(100000,.q 53 5 0 0 rc rn (row.map zac))]) [.row 100000 0,.i a0,.i b,.fn 136 []] (.tup []) (.w [(100000,.q 53 5 0 0 rc rn (r.map zac))]):=by
 refine PT 53 [] [] Tryz.func177 ?_
 intro Q g hfin
 unfold za0 at hF
 refine LR0 ?_
 refine NmQ (fun v=>zcq v=some r) (fun v=>(.w [(100000,.q 53 5 0 0 rc rn (v.map zac))])) ?_ ?_
 ·refine zcb ?_
  unfold zbq at hF
  refine Nits hF [] (fun Z v1=>Z.up [0,1,2,3,8] [] [100000] [] [(8,.i v1.2)] [] [(100000,.q 53 5 0 0 rc rn (v1.1.map zac))] []) ?_
  intro n1 v1 y1 hF ih1 dn1
  unfold za2 at hF
  refine LR0 ?_
  refine Nif hF ?_ ?_ <;> intro hb hF
  ·refine zcb ?_
   refine LR0 ?_
   refine NmS (fun v2=>zcm v1 v2=some y1) (fun Z v2=>Z.up [0,1,2,3,8] [] [100000] [] [] [] [(100000,.q 53 5 0 0 rc rn (v2.map zac))] []) ?_ ?_
   ·refine zcb ?_
    unfold zcn at hF
    refine Nits hF [] (fun Z v3=>Z.up [0,1,2,3,8,9] [] [100000] [] [(9,.i v3.2)] [] [(100000,.q 53 5 0 0 rc rn (v3.1.map zac))] []) ?_
    intro n2 v3 y2 hF ih2 dn2
    unfold za5 at hF
    obtain ⟨h0,h1,h2,h3,hF⟩:=asrt4 hF
    obtain ⟨x,h4,hF⟩:=oE hF
    refine DJ (.g (fun (ga0:(decide (a0<v3.2))=true)=>(ixr_ok zac (h0 ga0))) (.a (.av (zac (zaf v3.1 v3.2))) (.g (fun (ga0:(decide (a0<v3.2))=true)=>(ldr_ok zac (h1 ga0))) (.g (fun (ga0:(decide (a0<v3.2))=true)=>(ixr_ok zac (h2 ga0))) (.a (.av (zac (zaf v3.1 (w64 (v3.2 - 1))))) (.g (fun (ga0:(decide (a0<v3.2))=true)=>(ldr_ok zac (h3 ga0))) (.a (.callB (.i x)) (.g (fun (ga0:(decide (a0<v3.2))=true)=>(cell_Order_ok (ite_t h4 ga0))) .z)))))))) ?_
    refine Nif hF ?_ ?_ <;> intro hb hF
    ·refine zcb ?_
     obtain ⟨h5,h6,h7,h8,hF⟩:=asrt4 hF
     obtain ⟨h9,h10,h11,h12,hF⟩:=asrt4 hF
     obtain ⟨v4,hv,hF⟩:=lS hF
     refine DJ (.x zac h5 (.r zac h6 (.x zac h7 (.r zac h8 (.x zac h9 (.w zac h10 (⟨(zaf v3.1 (w64 (v3.2 - 1))).Row,(zaf v3.1 (w64 (v3.2 - 1))).Col,(zaf v3.1 (w64 (v3.2 - 1))).Time,(zaf v3.1 (w64 (v3.2 - 1))).Gone,(zaf v3.1 (w64 (v3.2 - 1))).Value⟩:Cell) (.x zac h11 (.wN zac h12 hv .z)))))))) ?_
     refine LR0 ?_
     exact Nrnq [] hF ih2
    ·refine zbv rfl ?_
     have hF:=zaj hF dn2
     exact ze6 v3.1 [] hF
   ·intro v2 hF
    unfold zcm at hF
    refine LR0 ?_
    exact Nrnq [] hF ih1
  ·refine zbv rfl ?_
   have hF:=zaj hF dn1
   exact ze6 v1.1 [] hF
 ·intro v hF
  unfold zcq at hF
  cases hF
  exact Wk_end (hfin _ ⟨[100000],[],[100000],[],[],[],by kernel_rfl⟩)

/- slices.swapRangeCmpFunc[api.Cell] -/
def zc8 (v:List Cell):Option (List Cell):=
 some v
def zb4 (a0 b num:Int) (v1:List Cell×Int):Option ((List Cell×Int)⊕(List Cell)):=
 if (decide (v1.2<num))=true then
  zaq (0≤w64 (b+v1.2)∧w64 (b+v1.2)<(v1.1.length:Int)) <|
  zaq (0≤w64 (b+v1.2)∧w64 (b+v1.2)<(v1.1.length:Int)) <|
  zaq (0≤w64 (a0+v1.2)∧w64 (a0+v1.2)<(v1.1.length:Int)) <|
  zaq (0≤w64 (a0+v1.2)∧w64 (a0+v1.2)<(v1.1.length:Int)) <|
  zaq (0≤w64 (a0+v1.2)∧w64 (a0+v1.2)<(v1.1.length:Int)) <|
  zaq (0≤w64 (a0+v1.2)∧w64 (a0+v1.2)<(v1.1.length:Int)) <|
  zaq (0≤w64 (b+v1.2)∧w64 (b+v1.2)<((lset v1.1 (w64 (a0+v1.2)) (⟨(zaf v1.1 (w64 (b+v1.2))).Row,(zaf v1.1 (w64 (b+v1.2))).Col,(zaf v1.1 (w64 (b+v1.2))).Time,(zaf v1.1 (w64 (b+v1.2))).Gone,(zaf v1.1 (w64 (b+v1.2))).Value⟩:Cell)).length:Int)) <|
  zaq (0≤w64 (b+v1.2)∧w64 (b+v1.2)<((lset v1.1 (w64 (a0+v1.2)) (⟨(zaf v1.1 (w64 (b+v1.2))).Row,(zaf v1.1 (w64 (b+v1.2))).Col,(zaf v1.1 (w64 (b+v1.2))).Time,(zaf v1.1 (w64 (b+v1.2))).Gone,(zaf v1.1 (w64 (b+v1.2))).Value⟩:Cell)).length:Int)) <|
  lt ((lset (lset v1.1 (w64 (a0+v1.2)) (⟨(zaf v1.1 (w64 (b+v1.2))).Row,(zaf v1.1 (w64 (b+v1.2))).Col,(zaf v1.1 (w64 (b+v1.2))).Time,(zaf v1.1 (w64 (b+v1.2))).Gone,(zaf v1.1 (w64 (b+v1.2))).Value⟩:Cell)) (w64 (b+v1.2)) (⟨(zaf v1.1 (w64 (a0+v1.2))).Row,(zaf v1.1 (w64 (a0+v1.2))).Col,(zaf v1.1 (w64 (a0+v1.2))).Time,(zaf v1.1 (w64 (a0+v1.2))).Gone,(zaf v1.1 (w64 (a0+v1.2))).Value⟩:Cell))) fun v2=>
  some (Sum.inl (v2,w64 (v1.2+1)))
 else
  zem (zc8 v1.1)
def zc5 (a0 b num:Int) (v0:List Cell×Int):Option (List Cell):=
 zbc (fun y=>zb4 a0 b num y) v0
def zay (a0 b num:Int) (row:List Cell):Option (List Cell):=
 zc5 a0 b num (row,0)
theorem zc7 (rk rc:Nat) (rn:Bool) {a0 b num row r} (hF:zay a0 b num row=some r):Pe Tryz.prog 182 (.w [(100000,.q 53 5 0 0 rc rn (row.map zac))]) [.row 100000 0,.i a0,.i b,.i num,.fn 136 []] (.tup []) (.w [(100000,.q 53 5 0 0 rc rn (r.map zac))]):=by
 refine PT 38 [] [] Tryz.func182 ?_
 intro Q g hfin
 unfold zay at hF
 refine LR0 ?_
 refine NmQ (fun v=>zc8 v=some r) (fun v=>(.w [(100000,.q 53 5 0 0 rc rn (v.map zac))])) ?_ ?_
 ·refine zcb ?_
  unfold zc5 at hF
  refine Nits hF [] (fun Z v1=>Z.up [0,1,2,3,10] [] [100000] [] [(10,.i v1.2)] [] [(100000,.q 53 5 0 0 rc rn (v1.1.map zac))] []) ?_
  intro n1 v1 y1 hF ih1 dn1
  unfold zb4 at hF
  refine LR0 ?_
  refine Nif hF ?_ ?_ <;> intro hb hF
  ·refine zcb ?_
   obtain ⟨h0,h1,h2,h3,hF⟩:=asrt4 hF
   obtain ⟨h4,h5,h6,h7,hF⟩:=asrt4 hF
   obtain ⟨v2,hv,hF⟩:=lS hF
   refine DJ (.x zac h0 (.r zac h1 (.x zac h2 (.r zac h3 (.x zac h4 (.w zac h5 (⟨(zaf v1.1 (w64 (b+v1.2))).Row,(zaf v1.1 (w64 (b+v1.2))).Col,(zaf v1.1 (w64 (b+v1.2))).Time,(zaf v1.1 (w64 (b+v1.2))).Gone,(zaf v1.1 (w64 (b+v1.2))).Value⟩:Cell) (.x zac h6 (.wN zac h7 hv .z)))))))) ?_
   refine LR0 ?_
   exact Nrnq [] hF ih1
  ·refine zbv rfl ?_
   have hF:=zaj hF dn1
   exact ze6 v1.1 [] hF
 ·intro v hF
  unfold zc8 at hF
  cases hF
  exact Wk_end (hfin _ ⟨[100000],[],[100000],[],[],[],by kernel_rfl⟩)

/- slices.rotateCmpFunc[api.Cell] -/
def zch (m:Int) (v:List Cell×Int):Option (List Cell):=
 ob (zay (w64 (m - v.2)) m v.2 v.1) fun x=>
 some x
def zbr (m:Int) (v1:List Cell×Int×Int):Option ((List Cell×Int×Int)⊕(List Cell)):=
 if (!decide (v1.2.1=v1.2.2))=true then
  if (decide (v1.2.2<v1.2.1))=true then
   ob (zay (w64 (m - v1.2.1)) m v1.2.2 v1.1) fun x1=>
   some (Sum.inl (x1,w64 (v1.2.1 - v1.2.2),v1.2.2))
  else
   ob (zay (w64 (m - v1.2.1)) (w64 ((w64 (m+v1.2.2)) - v1.2.1)) v1.2.1 v1.1) fun x2=>
   some (Sum.inl (x2,v1.2.1,w64 (v1.2.2 - v1.2.1)))
 else
  zem (zch m (v1.1,v1.2.1))
def zdz (m:Int) (v0:List Cell×Int×Int):Option (List Cell):=
 zbc (fun y=>zbr m y) v0
def zbl (a0 m b:Int) (row:List Cell):Option (List Cell):=
 zdz m (row,w64 (m - a0),w64 (b - m))
theorem slices_rotateCmpFunc_api_Cell_v1_ok (rk rc:Nat) (rn:Bool) {a0 m b row r} (hF:zbl a0 m b row=some r):Pe Tryz.prog 180 (.w [(100000,.q 53 5 0 0 rc rn (row.map zac))]) [.row 100000 0,.i a0,.i m,.i b,.fn 136 []] (.tup []) (.w [(100000,.q 53 5 0 0 rc rn (r.map zac))]):=by
 refine PT 58 [] [] Tryz.func180 ?_
 intro Q g hfin
 unfold zbl at hF
 refine LR0 ?_
 refine LR0 ?_
 refine NmS (fun v=>zch m v=some r) (fun Z v=>Z.up [0,2,4,10] [] [100000] [] [(10,.i v.2)] [] [(100000,.q 53 5 0 0 rc rn (v.1.map zac))] []) ?_ ?_
 ·refine zcb ?_
  unfold zdz at hF
  refine Nits hF [] (fun Z v1=>Z.up [0,2,4,10,11] [] [100000] [] [(10,.i v1.2.1),(11,.i v1.2.2)] [] [(100000,.q 53 5 0 0 rc rn (v1.1.map zac))] []) ?_
  intro n1 v1 y1 hF ih1 dn1
  unfold zbr at hF
  refine LR0 ?_
  refine Nif hF ?_ ?_ <;> intro hb hF
  ·refine zcb ?_
   refine LR0 ?_
   refine Nif hF ?_ ?_ <;> intro hb hF
   ·obtain ⟨x1,h2,hF⟩:=oE hF
    have p3:=(Pe.ren (zc7 0 rc rn h2) ⟨[],[],[],[]⟩)
    refine RJ (.e [] [100000] p3 .z) ?_
    refine LR0 ?_
    exact Nrnq [] hF ih1
   ·obtain ⟨x2,h4,hF⟩:=oE hF
    have p5:=(Pe.ren (zc7 0 rc rn h4) ⟨[],[],[],[]⟩)
    refine RJ (.e [] [100000] p5 .z) ?_
    refine LR0 ?_
    exact Nrnq [] hF ih1
  ·refine zbv rfl ?_
   have hF:=zaj hF dn1
   exact ze6 (v1.1,v1.2.1) [] hF
 ·intro v hF
  unfold zch at hF
  obtain ⟨x,h0,hF⟩:=oE hF
  have p1:=(Pe.ren (zc7 0 rc rn h0) ⟨[],[],[],[]⟩)
  refine RJ (.e [] [100000] p1 .z) ?_
  cases hF
  exact Wk_end (hfin _ ⟨[100000],[],[100000],[],[],[],by kernel_rfl⟩)

end
end G
end Go.Proofs.YticbfakiihfgmaaGreat
