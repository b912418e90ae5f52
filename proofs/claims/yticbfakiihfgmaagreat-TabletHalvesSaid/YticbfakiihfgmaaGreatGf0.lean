/- The program's functions as plain functions, and that they are these. Written by a program (dec2.py). -/
import Derived.Test.YticbfakiihfgmaaGreatTys
namespace Go.Proofs.YticbfakiihfgmaaGreat
open Go Go.Dm
set_option linter.unusedVariables false
set_option linter.unusedSimpArgs false
set_option maxRecDepth 100000
namespace G
/- tabularylaw.oneNote -/
noncomputable def law_oneNote  : Note:=
 lt ([(⟨([114]:List UInt8),([99]:List UInt8),7,false,([97]:List UInt8)⟩:Cell)]) fun (v:List Cell)=>
 (⟨1,v⟩:Note)
theorem law_oneNote_ok  (r:Note) (hF:law_oneNote  = r):Pe Tryz.prog 59 S.none [] (.agg (c_Note r)) S.none:=by
 refine PT 4 [.cell 0 50] [50] Tryz.func59 ?_
 intro Q g hfin
 unfold law_oneNote at hF
 refine LR0 ?_
 refine NRL ([(⟨([114]:List UInt8),([99]:List UInt8),7,false,([97]:List UInt8)⟩:Cell)]) (fun v:List Cell=>([],[(0,[.i 1,.sl 5 (v.map e_Cell)])],[],[])) [.sealed] [0] [0] [] [] .nil (fun v hv=>?_)
 have hF:=lt_elim hF hv
 cases hF
 exact Wz [] hfin

/- tablet.fault -/
noncomputable def tablet_fault (code at0:Int):Fault:=
 (⟨code,at0⟩:Fault)
theorem tablet_fault_ok (code at0:Int) (r:Fault) (hF:tablet_fault code at0=r):Pe Tryz.prog 65 S.none [.i code,.i at0] (.agg (c_Fault r)) S.none:=by
 refine PT 8 [.cell 4 35] [35] Tryz.func65 ?_
 intro Q g hfin
 unfold tablet_fault at hF
 refine LR0 ?_
 refine LR0 ?_
 cases hF
 exact Wz [] hfin

/- disk.fault -/
noncomputable def disk_fault (code at0:Int):Fault:=
 (⟨code,at0⟩:Fault)
theorem disk_fault_ok (code at0:Int) (r:Fault) (hF:disk_fault code at0=r):Pe Tryz.prog 110 S.none [.i code,.i at0] (.agg (c_Fault r)) S.none:=by
 refine PT 8 [.cell 4 35] [35] Tryz.func110 ?_
 intro Q g hfin
 unfold disk_fault at hF
 refine LR0 ?_
 refine LR0 ?_
 cases hF
 exact Wz [] hfin

/- disk.Check -/
noncomputable def disk_Check (d:Disk):Fault:=
 if (decide (60000<(d.Bytes.length:Int)))=true then
  lt (disk_fault 8 0) fun x=>
  x
 else
  if ((decide (d.Kept<0))||(decide ((d.Bytes.length:Int)<d.Kept)))=true then
   lt (disk_fault 3 0) fun x1=>
   x1
  else
   (⟨0,0⟩:Fault)
theorem disk_Check_ok (d:Disk) (r:Fault) (hF:disk_Check d=r):Pe Tryz.prog 109 S.none [.agg (c_Disk d)] (.agg (c_Fault r)) S.none:=by
 refine PT 21 [.cell 2 35] [35] Tryz.func109 ?_
 intro Q g hfin
 unfold disk_Check at hF
 refine LR0 ?_
 refine LR [.nat (d.Bytes.length:Int)] (hc (len_ok e_u8 d.Bytes) .nil) ?_
 refine Nif hF ?_ ?_ <;> intro hb hF
 ·obtain ⟨x,h0,hF⟩:=lS hF
  refine LR [.callB (.agg (c_Fault x))] (hc (disk_fault_ok 8 0 x h0) .nil) ?_
  cases hF
  exact Wz [] hfin
 ·refine LR [.nat (d.Bytes.length:Int)] (hc (fun (_:(!(decide (d.Kept<0)))=true)=>(len_ok e_u8 d.Bytes)) .nil) ?_
  refine Nif hF ?_ ?_ <;> intro hb hF
  ·obtain ⟨x1,h1,hF⟩:=lS hF
   refine LR [.callB (.agg (c_Fault x1))] (hc (disk_fault_ok 3 0 x1 h1) .nil) ?_
   cases hF
   exact Wz [] hfin
  ·refine LR0 ?_
   cases hF
   exact Wz [] hfin

/- wire.Crc -/
noncomputable def wire_Crc_J1 (v:Int):Option Int:=
 lt (bitsOp .xor .u32 (if IntKind.signed .u32=true then -1 else IntKind.max .u32) v) fun (v1:Int)=>
 some v1
noncomputable def wire_Crc_J2 (v2:Int×Int) (v3:Int):Option ((Int×Int)⊕Int):=
 some (Sum.inl (v3,w64 (v2.2+1)))
noncomputable def wire_Crc_B2 (v2 v4:Int×Int):Option ((Int×Int)⊕((Int×Int)⊕Int)):=
 if (decide (v4.2<8))=true then
  ob (
   if (decide ((bitsOp .and .u32 v4.1 1)=1))=true then
    lt (bitsOp .xor .u32 (Int.fdiv v4.1 (2 ^ (min (1:Int).toNat 32))) 3988292384) fun (v6:Int)=>
    some v6
   else
    some (Int.fdiv v4.1 (2 ^ (min (1:Int).toNat 32)))) fun (v5:Int)=>
  some (Sum.inl (v5,w64 (v4.2+1)))
 else
  inrO (wire_Crc_J2 v2 v4.1)
noncomputable def wire_Crc_L2 (v2 v0:Int×Int):Option ((Int×Int)⊕Int):=
 loopO (fun y=>wire_Crc_B2 v2 y) v0
noncomputable def wire_Crc_B1 (b:List UInt8) (v2:Int×Int):Option ((Int×Int)⊕Int):=
 if (decide (v2.2<(b.length:Int)))=true then
  asrt (0≤v2.2∧v2.2<(b.length:Int)) <|
  wire_Crc_L2 v2 (bitsOp .xor .u32 v2.1 (IntKind.u32.wrap ((lget b v2.2).toNat:Int)),0)
 else
  inrO (wire_Crc_J1 v2.1)
noncomputable def wire_Crc_L1 (b:List UInt8) (v0:Int×Int):Option Int:=
 loopO (fun y=>wire_Crc_B1 b y) v0
noncomputable def wire_Crc (b:List UInt8):Option Int:=
 wire_Crc_L1 b (4294967295,0)
theorem wire_Crc_ok (b:List UInt8) (r:Int) (hF:wire_Crc b=some r):Pe Tryz.prog 143 S.none [.sl 1 (b.map e_u8)] (.int .u32 r) S.none:=by
 refine PT 31 [.tmp 2] [124] Tryz.func143 ?_
 intro Q g hfin
 unfold wire_Crc at hF
 refine LR0 ?_
 refine LR0 ?_
 refine LR [.nat (b.length:Int)] (hc (len_ok e_u8 b) .nil) ?_
 refine NmeetP (fun v:Int=>(⟨[(3,.int .u32 v)],[],[],[],[]⟩:S)) (fun v=>wire_Crc_J1 v=some r) ?_ ?_
 ·refine Nblk ?_
  unfold wire_Crc_L1 at hF
  refine Nitq (fun v2:Int×Int=>(⟨[(3,.int .u32 v2.1),(7,.sl 1 (b.map e_u8)),(8,.i (b.length:Int)),(9,.i v2.2)],[],[],[],[]⟩:S)) [] hF ?_
  intro n1 v2 y1 hF ih1 dn1
  unfold wire_Crc_B1 at hF
  refine LR0 ?_
  refine Nif hF ?_ ?_ <;> intro hb hF
  ·refine Nblk ?_
   obtain ⟨h0,hF⟩:=aE hF
   refine LR [.av (e_u8 (lget b v2.2))] (hc (idx_ok e_u8 h0) .nil) ?_
   refine LR0 ?_
   refine LR0 ?_
   refine NmeetP (fun v3:Int=>(⟨[(3,.int .u32 v3),(7,.sl 1 (b.map e_u8)),(8,.i (b.length:Int)),(9,.i v2.2)],[],[],[],[]⟩:S)) (fun v3=>wire_Crc_J2 v2 v3=some y1) ?_ ?_
   ·refine Nblk ?_
    unfold wire_Crc_L2 at hF
    refine Nitq (fun v4:Int×Int=>(⟨[(3,.int .u32 v4.1),(7,.sl 1 (b.map e_u8)),(8,.i (b.length:Int)),(9,.i v2.2),(17,.i v4.2)],[],[],[],[]⟩:S)) [] hF ?_
    intro n2 v4 y2 hF ih2 dn2
    unfold wire_Crc_B2 at hF
    refine LR0 ?_
    refine Nif hF ?_ ?_ <;> intro hb hF
    ·refine Nblk ?_
     refine LR0 ?_
     refine LR [] (hc (by decide:(0:Int)≤1) .nil) ?_
     refine LR0 ?_
     obtain ⟨v5,hv,hF⟩:=oE hF
     refine Nmeet (⟨[(3,.int .u32 v5),(7,.sl 1 (b.map e_u8)),(8,.i (b.length:Int)),(9,.i v2.2),(17,.i v4.2)],[],[],[],[]⟩:S) ?_ ?_
     ·have hF:=hv
      refine Nif hF ?_ ?_ <;> intro hb hF
      ·refine NRL (bitsOp .xor .u32 (Int.fdiv v4.1 (2 ^ (min (1:Int).toNat 32))) 3988292384) (fun v6:Int=>([(3,.int .u32 v6)],[],[],[])) [] [3,7,8,9,17] [] [] [] .nil (fun v6 hv=>?_)
       have hF:=lt_elim hF hv
       cases hF
       exact met' []
      ·cases hF
       exact met' []
     ·refine LR0 ?_
      exact Nrnq [] hF ih2
    ·refine Nexit rfl ?_
     have hF:=inrO_done hF dn2
     exact metQ v4.1 [] hF
   ·intro v3 hF
    unfold wire_Crc_J2 at hF
    refine LR0 ?_
    exact Nrnq [] hF ih1
  ·refine Nexit rfl ?_
   have hF:=inrO_done hF dn1
   exact metQ v2.1 [] hF
 ·intro v hF
  unfold wire_Crc_J1 at hF
  refine NRL (bitsOp .xor .u32 (if IntKind.signed .u32=true then -1 else IntKind.max .u32) v) (fun v1:Int=>([(2,.int .u32 v1)],[],[],[])) [] [2] [] [] [] .nil (fun v1 hv=>?_)
  have hF:=lt_elim hF hv
  cases hF
  exact Wz [] hfin

/- slices.Equal[[]byte,byte] -/
noncomputable def slices_Equal_byte_byte_J1 (v:Unit):Option Bool:=
 some true
noncomputable def slices_Equal_byte_byte_B1 (s1 s2:List UInt8) (v1:Int):Option (Int⊕Bool):=
 if (decide (v1<(s1.length:Int)))=true then
  asrt (0≤v1∧v1<(s1.length:Int)) <|
  asrt (0≤v1∧v1<(s2.length:Int)) <|
  if (!decide (((lget s1 v1).toNat:Int)=((lget s2 v1).toNat:Int)))=true then
   some (Sum.inr false)
  else
   some (Sum.inl (w64 (v1+1)))
 else
  inrO (slices_Equal_byte_byte_J1 ())
noncomputable def slices_Equal_byte_byte_L1 (s1 s2:List UInt8) (v0:Int):Option Bool:=
 loopO (fun y=>slices_Equal_byte_byte_B1 s1 s2 y) v0
noncomputable def slices_Equal_byte_byte (s1 s2:List UInt8):Option Bool:=
 if (!decide ((s1.length:Int)=(s2.length:Int)))=true then
  some false
 else
  slices_Equal_byte_byte_L1 s1 s2 0
theorem slices_Equal_byte_byte_ok (s1 s2:List UInt8) (r:Bool) (hF:slices_Equal_byte_byte s1 s2=some r):Pe Tryz.prog 146 S.none [.sl 1 (s1.map e_u8),.sl 1 (s2.map e_u8)] (.bool r) S.none:=by
 refine PT 26 [.tmp 4] [4] Tryz.func146 ?_
 intro Q g hfin
 unfold slices_Equal_byte_byte at hF
 refine LR0 ?_
 refine LR [.nat (s1.length:Int),.nat (s2.length:Int)] (hc (len_ok e_u8 s1) (hc (len_ok e_u8 s2) .nil)) ?_
 refine Nif hF ?_ ?_ <;> intro hb hF
 ·refine LR0 ?_
  cases hF
  exact Wz [] hfin
 ·refine LR [.nat (s1.length:Int)] (hc (len_ok e_u8 s1) .nil) ?_
  refine NmeetP (fun v:Unit=>(S.none:S)) (fun v=>slices_Equal_byte_byte_J1 v=some r) ?_ ?_
  ·refine Nblk ?_
   unfold slices_Equal_byte_byte_L1 at hF
   refine Nitq (fun v1:Int=>(⟨[(0,.sl 1 (s1.map e_u8)),(1,.sl 1 (s2.map e_u8)),(12,.i (s1.length:Int)),(13,.i v1)],[],[],[],[]⟩:S)) [] hF ?_
   intro n1 v1 y1 hF ih1 dn1
   unfold slices_Equal_byte_byte_B1 at hF
   refine LR0 ?_
   refine Nif hF ?_ ?_ <;> intro hb hF
   ·refine Nblk ?_
    refine LR0 ?_
    obtain ⟨h0,h1,hF⟩:=asrt2 hF
    refine LD [.av (e_u8 (lget s1 v1)),.av (e_u8 (lget s2 v1))] (hc (idx_ok e_u8 h0) (hc (idx_ok e_u8 h1) .nil)) ?_
    refine Nif hF ?_ ?_ <;> intro hb hF
    ·refine LR0 ?_
     have hF:=ret_done hF dn1
     cases hF
     exact Wz [] hfin
    ·refine LR0 ?_
     exact Nrnq [] hF ih1
   ·refine Nexit rfl ?_
    have hF:=inrO_done hF dn1
    exact metQ () [] hF
  ·intro v hF
   unfold slices_Equal_byte_byte_J1 at hF
   refine LR0 ?_
   cases hF
   exact Wz [] hfin

/- slices.Clone[[]byte,byte] -/
noncomputable def slices_Clone_byte_byte (s0:List UInt8):Option (List UInt8):=
 ubO (decide (s0.length=0)) (
  some ([]:List UInt8)) (
  asrt (((([]:List UInt8)++s0).length:Int)*1≤140737488351232) <|
  some (([]:List UInt8)++s0))
theorem slices_Clone_byte_byte_ok (s0 r:List UInt8) (hF:slices_Clone_byte_byte s0=some r):Pe Tryz.prog 140 (.w []) [.sl 1 (s0.map e_u8)] (.row 5 0) ⟨[],[],[(5,.o 5 1 0 (r.map e_u8))],[],[]⟩:=by
 refine PT 8 [.tmp 2] [22] Tryz.func140 ?_
 intro Q g hfin
 unfold slices_Clone_byte_byte at hF
 refine LR0 ?_
 refine NR [.bo (decide (s0.length=0))] [0,4] [] [] [(0,.sl 1 (s0.map e_u8)),(4,.ub (decide (s0.length=0)) true)] (hc (ubn_ok e_u8 s0) .nil) ?_
 refine Wk_ub 4 rfl fun b hb1 hb2=>?_
 refine Nsplit rfl (fun hb=>?_) (fun hb=>?_)
 ·have hb:=hb1 hb
  have hF:=(ubO_elim hF).1 hb
  refine NR [] [2] [] [] [(2,.nils)] .nil ?_
  cases hF
  refine Wk_nilrow 2 60000 5 1 rfl rfl rfl ?_
  refine Wk_ren' ⟨[],[(60000,5)],[],[]⟩ rfl ?_
  exact Wz [(5,⟨0,true,false,false⟩)] hfin
 ·have hF:=(ubO_elim hF).2
  obtain ⟨h0,hF⟩:=aE hF
  refine LR [.xs ((([]:List UInt8)++s0).map e_u8)] (hc (app_ok e_u8 ([]:List UInt8) s0) (hc (appl_ok e_u8 h0) .nil)) ?_
  cases hF
  exact Wz [(5,⟨0,true,true,false⟩)] hfin

/- wire.Opened -/
noncomputable def wire_Opened_J1 (v:List (List UInt8)×Int):Option (List (List UInt8)×Int):=
 some (v.1,v.2)
noncomputable def wire_Opened_B1 (b:List UInt8) (v1:List (List UInt8)×Int):Option ((List (List UInt8)×Int)⊕(List (List UInt8)×Int)):=
 if (decide (6≤(w64 ((b.length:Int) - v1.2))))=true then
  asrt (0≤v1.2∧v1.2<(b.length:Int)) <|
  asrt (0≤w64 (v1.2+1)∧w64 (v1.2+1)<(b.length:Int)) <|
  lt (bitsOp .or .i64 (w64 ((w64 ((lget b v1.2).toNat:Int))*2 ^ (min (8:Int).toNat 64))) (w64 ((lget b (w64 (v1.2+1))).toNat:Int))) fun (v2:Int)=>
  if (decide ((b.length:Int)<(w64 ((w64 ((w64 (v1.2+2))+v2))+4))))=true then
   inrO (wire_Opened_J1 (v1.1,v1.2))
  else
   asrt (0≤v1.2∧v1.2≤w64 ((w64 (v1.2+2))+v2)∧w64 ((w64 (v1.2+2))+v2)≤(b.length:Int)) <|
   ob (wire_Crc (ldrop (ltake b (w64 ((w64 (v1.2+2))+v2))) v1.2)) fun x=>
   asrt (0≤w64 ((w64 (v1.2+2))+v2)∧w64 ((w64 (v1.2+2))+v2)≤w64 ((w64 ((w64 (v1.2+2))+v2))+4)∧w64 ((w64 ((w64 (v1.2+2))+v2))+4)≤(b.length:Int)) <|
   ob (slices_Equal_byte_byte (ldrop (ltake b (w64 ((w64 ((w64 (v1.2+2))+v2))+4))) (w64 ((w64 (v1.2+2))+v2))) ([toU8 (Int.fdiv x (2 ^ (min (24:Int).toNat 32))),toU8 (Int.fdiv x (2 ^ (min (16:Int).toNat 32))),toU8 (Int.fdiv x (2 ^ (min (8:Int).toNat 32))),toU8 x]:List UInt8)) fun x1=>
   if (!x1)=true then
    inrO (wire_Opened_J1 (v1.1,v1.2))
   else
    asrt (0≤w64 (v1.2+2)∧w64 (v1.2+2)≤w64 ((w64 (v1.2+2))+v2)∧w64 ((w64 (v1.2+2))+v2)≤(b.length:Int)) <|
    ob (slices_Clone_byte_byte (ldrop (ltake b (w64 ((w64 (v1.2+2))+v2))) (w64 (v1.2+2)))) fun x2=>
    asrt (((v1.1++([x2]:List (List UInt8))).length:Int)*24≤140737488351232) <|
    some (Sum.inl ((v1.1++([x2]:List (List UInt8))),w64 ((w64 ((w64 (v1.2+2))+v2))+4)))
 else
  inrO (wire_Opened_J1 (v1.1,v1.2))
noncomputable def wire_Opened_L1 (b:List UInt8) (v0:List (List UInt8)×Int):Option (List (List UInt8)×Int):=
 loopO (fun y=>wire_Opened_B1 b y) v0
noncomputable def wire_Opened (b:List UInt8):Option (List (List UInt8)×Int):=
 wire_Opened_L1 b (([]:List (List UInt8)),0)
theorem wire_Opened_ok (b:List UInt8) (r:List (List UInt8)×Int) (hF:wire_Opened b=some r):Pe Tryz.prog 118 (.w []) [.sl 1 (b.map e_u8)] (.tup [.row 66 0,.i r.2]) ⟨[],[],[(66,.z 22 1 0 (r.1.map e_L_u8))],[],[]⟩:=by
 refine PT 71 [.tmp 2,.tmp 3] [25,3] Tryz.func118 ?_
 intro Q g hfin
 unfold wire_Opened at hF
 refine NR [] [0,2,3] [] [] [(0,.sl 1 (b.map e_u8)),(2,.nils),(3,.i 0)] .nil ?_
 refine NmeetP (fun v:List (List UInt8)×Int=>(⟨[(2,.row 66 0),(3,.i v.2)],[],[(66,.z 22 1 0 (v.1.map e_L_u8))],[],[]⟩:S)) (fun v=>wire_Opened_J1 v=some r) ?_ ?_
 ·refine Nblk ?_
  unfold wire_Opened_L1 at hF
  refine Wk_nilrow 2 60000 22 1 rfl rfl rfl ?_
  refine Wk_trim (fs:=[0,2,3]) (bs:=[]) (rs:=[60000]) (ms:=[]) (aa:=[]) (nv:=[]) rfl ?_
  refine Wk_ren' ⟨[],[(60000,66)],[],[]⟩ rfl ?_
  refine Nitq (fun v1:List (List UInt8)×Int=>(⟨[(0,.sl 1 (b.map e_u8)),(2,.row 66 0),(3,.i v1.2)],[],[(66,.z 22 1 0 (v1.1.map e_L_u8))],[],[]⟩:S)) [] hF ?_
  intro n1 v1 y1 hF ih1 dn1
  unfold wire_Opened_B1 at hF
  refine LR [.nat (b.length:Int)] (hc (len_ok e_u8 b) .nil) ?_
  refine Nif hF ?_ ?_ <;> intro hb hF
  ·refine Nblk ?_
   obtain ⟨h0,h1,hF⟩:=asrt2 hF
   refine NDL (bitsOp .or .i64 (w64 ((w64 ((lget b v1.2).toNat:Int))*2 ^ (min (8:Int).toNat 64))) (w64 ((lget b (w64 (v1.2+1))).toNat:Int))) (fun v2:Int=>([(4,.i v2)],[],[],[])) [.av (e_u8 (lget b v1.2)),.av (e_u8 (lget b (w64 (v1.2+1))))] [0,2,3,4] [] [66] [] (hc (idx_ok e_u8 h0) (hc (by decide:(0:Int)≤8) (hc (idx_ok e_u8 h1) .nil))) (fun v2 hv=>?_)
   have hF:=lt_elim hF hv
   refine LR0 ?_
   refine LR [.nat (b.length:Int)] (hc (len_ok e_u8 b) .nil) ?_
   refine Nif hF ?_ ?_ <;> intro hb hF
   ·refine Nexit rfl ?_
    have hF:=inrO_done hF dn1
    exact metQ (v1.1,v1.2) [] hF
   ·obtain ⟨h2,hF⟩:=aE hF
    obtain ⟨x,h3,hF⟩:=oE hF
    refine LR [.xs ((ldrop (ltake b (w64 ((w64 (v1.2+2))+v2))) v1.2).map e_u8),.callB (.int .u32 x)] (hc (sl11_ok e_u8 h2) (hc (wire_Crc_ok (ldrop (ltake b (w64 ((w64 (v1.2+2))+v2))) v1.2) x h3) .nil)) ?_
    obtain ⟨h4,hF⟩:=aE hF
    obtain ⟨x1,h5,hF⟩:=oE hF
    refine LR [.xs ((ldrop (ltake b (w64 ((w64 ((w64 (v1.2+2))+v2))+4))) (w64 ((w64 (v1.2+2))+v2))).map e_u8),.sealed,.callB (.bool x1)] (hc (sl11_ok e_u8 h4) (hc (by decide:(0:Int)≤24) (hc (by decide:(0:Int)≤16) (hc (by decide:(0:Int)≤8) (hc (slices_Equal_byte_byte_ok (ldrop (ltake b (w64 ((w64 ((w64 (v1.2+2))+v2))+4))) (w64 ((w64 (v1.2+2))+v2))) ([toU8 (Int.fdiv x (2 ^ (min (24:Int).toNat 32))),toU8 (Int.fdiv x (2 ^ (min (16:Int).toNat 32))),toU8 (Int.fdiv x (2 ^ (min (8:Int).toNat 32))),toU8 x]:List UInt8) x1 h5) .nil))))) ?_
    refine Nif hF ?_ ?_ <;> intro hb hF
    ·refine Nexit rfl ?_
     have hF:=inrO_done hF dn1
     exact metQ (v1.1,v1.2) [] hF
    ·obtain ⟨h6,hF⟩:=aE hF
     obtain ⟨x2,h7,hF⟩:=oE hF
     have p8:=(Pe.ren (slices_Clone_byte_byte_ok (ldrop (ltake b (w64 ((w64 (v1.2+2))+v2))) (w64 (v1.2+2))) x2 h7) ⟨[],[(5,64)],[],[]⟩)
     obtain ⟨h9,hF⟩:=aE hF
     refine LR [.xs ((ldrop (ltake b (w64 ((w64 (v1.2+2))+v2))) (w64 (v1.2+2))).map e_u8),cE [] [] [] [] p8,.sealed,.xs ((v1.1++([x2]:List (List UInt8))).map e_L_u8)] (hc (sl11_ok e_u8 h6) (hc p8 (hc (app_ok e_L_u8 v1.1 ([x2]:List (List UInt8))) (hc (appl_ok e_L_u8 h9) .nil)))) ?_
     refine LR0 ?_
     exact Nrnq [(66,⟨0,true,true,false⟩)] hF ih1
  ·refine Nexit rfl ?_
   have hF:=inrO_done hF dn1
   exact metQ (v1.1,v1.2) [] hF
 ·intro v hF
  unfold wire_Opened_J1 at hF
  refine LR0 ?_
  cases hF
  exact Wz [] hfin

/- wal.fault -/
noncomputable def wal_fault (code at0:Int):Fault:=
 (⟨code,at0⟩:Fault)
theorem wal_fault_ok (code at0:Int) (r:Fault) (hF:wal_fault code at0=r):Pe Tryz.prog 107 S.none [.i code,.i at0] (.agg (c_Fault r)) S.none:=by
 refine PT 8 [.cell 4 35] [35] Tryz.func107 ?_
 intro Q g hfin
 unfold wal_fault at hF
 refine LR0 ?_
 refine LR0 ?_
 cases hF
 exact Wz [] hfin

/- wal.Read$1 -/
noncomputable def wal_Read_1 (x:UInt8):Bool:=
 decide ((x.toNat:Int)<((128:UInt8).toNat:Int))
theorem wal_Read_1_ok (x:UInt8) (r:Bool) (hF:wal_Read_1 x=r):Pe Tryz.prog 148 S.none [.int .u8 ((x).toNat:Int)] (.bool r) S.none:=by
 refine PT 5 [.tmp 2] [4] Tryz.func148 ?_
 intro Q g hfin
 unfold wal_Read_1 at hF
 refine LR0 ?_
 refine LR0 ?_
 cases hF
 exact Wz [] hfin

/- slices.IndexFunc[[]byte,byte] -/
noncomputable def slices_IndexFunc_byte_byte_J1 (v:Unit):Option Int:=
 some (-1)
noncomputable def slices_IndexFunc_byte_byte_B1 (s0:List UInt8) (v1:Int):Option (Int⊕Int):=
 if (decide (v1<(s0.length:Int)))=true then
  asrt (0≤v1∧v1<(s0.length:Int)) <|
  lt (wal_Read_1 (lget s0 v1)) fun x=>
  if x=true then
   some (Sum.inr v1)
  else
   some (Sum.inl (w64 (v1+1)))
 else
  inrO (slices_IndexFunc_byte_byte_J1 ())
noncomputable def slices_IndexFunc_byte_byte_L1 (s0:List UInt8) (v0:Int):Option Int:=
 loopO (fun y=>slices_IndexFunc_byte_byte_B1 s0 y) v0
noncomputable def slices_IndexFunc_byte_byte (s0:List UInt8):Option Int:=
 slices_IndexFunc_byte_byte_L1 s0 0
theorem slices_IndexFunc_byte_byte_ok (s0:List UInt8) (r:Int) (hF:slices_IndexFunc_byte_byte s0=some r):Pe Tryz.prog 147 S.none [.sl 1 (s0.map e_u8),.fn 148 []] (.i r) S.none:=by
 refine PT 19 [.tmp 4] [3] Tryz.func147 ?_
 intro Q g hfin
 unfold slices_IndexFunc_byte_byte at hF
 refine LR0 ?_
 refine LR [.nat (s0.length:Int)] (hc (len_ok e_u8 s0) .nil) ?_
 refine NmeetP (fun v:Unit=>(S.none:S)) (fun v=>slices_IndexFunc_byte_byte_J1 v=some r) ?_ ?_
 ·refine Nblk ?_
  unfold slices_IndexFunc_byte_byte_L1 at hF
  refine Nitq (fun v1:Int=>(⟨[(0,.sl 1 (s0.map e_u8)),(1,.fn 148 []),(7,.i (s0.length:Int)),(8,.i v1)],[],[],[],[]⟩:S)) [] hF ?_
  intro n1 v1 y1 hF ih1 dn1
  unfold slices_IndexFunc_byte_byte_B1 at hF
  refine LR0 ?_
  refine Nif hF ?_ ?_ <;> intro hb hF
  ·refine Nblk ?_
   refine LR0 ?_
   obtain ⟨h0,hF⟩:=aE hF
   obtain ⟨x,h1,hF⟩:=lS hF
   refine LR [.av (e_u8 (lget s0 v1)),.callB (.bool x)] (hc (idx_ok e_u8 h0) (hc (wal_Read_1_ok (lget s0 v1) x h1) .nil)) ?_
   refine Nif hF ?_ ?_ <;> intro hb hF
   ·refine LR0 ?_
    have hF:=ret_done hF dn1
    cases hF
    exact Wz [] hfin
   ·refine LR0 ?_
    exact Nrnq [] hF ih1
  ·refine Nexit rfl ?_
   have hF:=inrO_done hF dn1
   exact metQ () [] hF
 ·intro v hF
  unfold slices_IndexFunc_byte_byte_J1 at hF
  refine LR0 ?_
  cases hF
  exact Wz [] hfin

/- wire.Read -/
noncomputable def wire_Read (b:List UInt8):Reader:=
 (⟨b,false⟩:Reader)
theorem wire_Read_ok (b:List UInt8) (r:Reader) (hF:wire_Read b=r):Pe Tryz.prog 149 (.w []) [.sl 1 (b.map e_u8)] (.ptr 5 0) ⟨[],[(5,(c_Reader r))],[],[],[]⟩:=by
 refine PT 6 [.tmp 2] [171] Tryz.func149 ?_
 intro Q g hfin
 unfold wire_Read at hF
 refine LR0 ?_
 refine LR0 ?_
 cases hF
 exact Wz [] hfin

/- (*wire.Reader).Num -/
noncomputable def wire_Reader_Num_J1 (v:Reader):Option (Int×Reader):=
 some (0,(⟨([]:List UInt8),true⟩:Reader))
noncomputable def wire_Reader_Num_B1 (v1:Reader×Int×List UInt8×Int×Int):Option ((Reader×Int×List UInt8×Int×Int)⊕(Int×Reader)):=
 if (decide (v1.2.2.2.2<v1.2.2.2.1))=true then
  asrt (0≤v1.2.2.2.2∧v1.2.2.2.2<(v1.2.2.1.length:Int)) <|
  asrt (0≤(w64 (7*v1.2.2.2.2))) <|
  lt (bitsOp .or .i64 v1.2.1 (w64 ((w64 ((toU8 (((BitVec.ofInt 8 ((lget v1.2.2.1 v1.2.2.2.2).toNat:Int) &&& BitVec.ofInt 8 ((127:UInt8).toNat:Int)).toNat:Int))).toNat:Int))*2 ^ (min (w64 (7*v1.2.2.2.2)).toNat 64)))) fun (v2:Int)=>
  if ((decide (4<v1.2.2.2.2))||(decide (1000000000<v2)))=true then
   inrO (wire_Reader_Num_J1 v1.1)
  else
   if (decide (((lget v1.2.2.1 v1.2.2.2.2).toNat:Int)<((128:UInt8).toNat:Int)))=true then
    if ((decide (0<v1.2.2.2.2))&&(decide (((lget v1.2.2.1 v1.2.2.2.2).toNat:Int)=((0:UInt8).toNat:Int))))=true then
     inrO (wire_Reader_Num_J1 v1.1)
    else
     asrt (0≤w64 (v1.2.2.2.2+1)∧w64 (v1.2.2.2.2+1)≤(v1.1.b.length:Int)) <|
     some (Sum.inr (v2,(⟨(ldrop v1.1.b (w64 (v1.2.2.2.2+1))),v1.1.bad⟩:Reader)))
   else
    some (Sum.inl (v1.1,v2,v1.2.2.1,v1.2.2.2.1,w64 (v1.2.2.2.2+1)))
 else
  inrO (wire_Reader_Num_J1 v1.1)
noncomputable def wire_Reader_Num_L1 (v0:Reader×Int×List UInt8×Int×Int):Option (Int×Reader):=
 loopO (fun y=>wire_Reader_Num_B1 y) v0
noncomputable def wire_Reader_Num (box:Reader):Option (Int×Reader):=
 wire_Reader_Num_L1 (box,0,box.b,(box.b.length:Int),0)
theorem wire_Reader_Num_ok (box:Reader) (r:Int×Reader) (hF:wire_Reader_Num box=some r):Pe Tryz.prog 150 ⟨[],[(100000,(c_Reader box))],[],[],[]⟩ [.ptr 100000 0] (.i r.1) ⟨[],[(100000,(c_Reader r.2))],[],[],[]⟩:=by
 refine PT 56 [.tmp 2] [3] Tryz.func150 ?_
 intro Q g hfin
 unfold wire_Reader_Num at hF
 refine LR0 ?_
 refine LR0 ?_
 refine LR [.nat (box.b.length:Int)] (hc (len_ok e_u8 box.b) .nil) ?_
 refine NmeetP (fun v:Reader=>(⟨[(0,.ptr 100000 0)],[(100000,(c_Reader v))],[],[],[]⟩:S)) (fun v=>wire_Reader_Num_J1 v=some r) ?_ ?_
 ·refine Nblk ?_
  unfold wire_Reader_Num_L1 at hF
  refine Nitq (fun v1:Reader×Int×List UInt8×Int×Int=>(⟨[(0,.ptr 100000 0),(3,.i v1.2.1),(9,.sl 1 (v1.2.2.1.map e_u8)),(10,.i v1.2.2.2.1),(11,.i v1.2.2.2.2)],[(100000,(c_Reader v1.1))],[],[],[]⟩:S)) [] hF ?_
  intro n1 v1 y1 hF ih1 dn1
  unfold wire_Reader_Num_B1 at hF
  refine LR0 ?_
  refine Nif hF ?_ ?_ <;> intro hb hF
  ·refine Nblk ?_
   obtain ⟨h0,hF⟩:=aE hF
   refine LR [.av (e_u8 (lget v1.2.2.1 v1.2.2.2.2))] (hc (idx_ok e_u8 h0) .nil) ?_
   obtain ⟨h1,hF⟩:=aE hF
   refine NRL (bitsOp .or .i64 v1.2.1 (w64 ((w64 ((toU8 (((BitVec.ofInt 8 ((lget v1.2.2.1 v1.2.2.2.2).toNat:Int) &&& BitVec.ofInt 8 ((127:UInt8).toNat:Int)).toNat:Int))).toNat:Int))*2 ^ (min (w64 (7*v1.2.2.2.2)).toNat 64)))) (fun v2:Int=>([(3,.i v2)],[],[],[])) [] [0,3,4,5,9,10,11] [100000] [] [] (hc h1 .nil) (fun v2 hv=>?_)
   have hF:=lt_elim hF hv
   refine LR0 ?_
   refine Nif hF ?_ ?_ <;> intro hb hF
   ·refine Nexit rfl ?_
    have hF:=inrO_done hF dn1
    exact metQ v1.1 [] hF
   ·refine LR0 ?_
    refine Nif hF ?_ ?_ <;> intro hb hF
    ·refine LR0 ?_
     refine Nif hF ?_ ?_ <;> intro hb hF
     ·refine Nexit rfl ?_
      have hF:=inrO_done hF dn1
      exact metQ v1.1 [] hF
     ·obtain ⟨h2,hF⟩:=aE hF
      refine LR [.xs ((ldrop v1.1.b (w64 (v1.2.2.2.2+1))).map e_u8)] (hc (sl10_ok e_u8 h2) .nil) ?_
      refine LR0 ?_
      have hF:=ret_done hF dn1
      cases hF
      exact Wz [] hfin
    ·refine LR0 ?_
     exact Nrnq [] hF ih1
  ·refine Nexit rfl ?_
   have hF:=inrO_done hF dn1
   exact metQ v1.1 [] hF
 ·intro v hF
  unfold wire_Reader_Num_J1 at hF
  refine LR0 ?_
  refine VR [] [2] [100000] [] [] [(2,.i 0)] [(100000,[.nils,.bool true])] [] [] .nil ?_
  cases hF
  refine Wk_coeB 100000 [.sl 1 (([]:List UInt8).map e_u8),.bool true] rfl (.cons (CoeS.nils 1) (.cons (CoeS.refl _) .nil)) ?_
  exact Wz [] hfin

/- (*wire.Reader).Ok -/
noncomputable def wire_Reader_Ok (box:Reader):Bool:=
 (!box.bad)&&(decide ((box.b.length:Int)=0))
theorem wire_Reader_Ok_ok (box:Reader) (r:Bool) (hF:wire_Reader_Ok box=r):Pe Tryz.prog 151 ⟨[],[(100000,(c_Reader box))],[],[],[]⟩ [.ptr 100000 0] (.bool r) ⟨[],[(100000,(c_Reader box))],[],[],[]⟩:=by
 refine PT 16 [.tmp 2] [4] Tryz.func151 ?_
 intro Q g hfin
 unfold wire_Reader_Ok at hF
 refine LR0 ?_
 refine LR [.nat (box.b.length:Int)] (hc (fun (_:(!box.bad)=true)=>(len_ok e_u8 box.b)) .nil) ?_
 cases hF
 exact Wz [] hfin

/- cell.fault -/
noncomputable def cell_fault (code at0:Int):Fault:=
 (⟨code,at0⟩:Fault)
theorem cell_fault_ok (code at0:Int) (r:Fault) (hF:cell_fault code at0=r):Pe Tryz.prog 134 S.none [.i code,.i at0] (.agg (c_Fault r)) S.none:=by
 refine PT 8 [.cell 4 35] [35] Tryz.func134 ?_
 intro Q g hfin
 unfold cell_fault at hF
 refine LR0 ?_
 refine LR0 ?_
 cases hF
 exact Wz [] hfin

/- (*wire.Reader).More -/
noncomputable def wire_Reader_More (box:Reader):Bool:=
 decide (0<(box.b.length:Int))
theorem wire_Reader_More_ok (box:Reader) (r:Bool) (hF:wire_Reader_More box=r):Pe Tryz.prog 167 ⟨[],[(100000,(c_Reader box))],[],[],[]⟩ [.ptr 100000 0] (.bool r) ⟨[],[(100000,(c_Reader box))],[],[],[]⟩:=by
 refine PT 9 [.tmp 2] [4] Tryz.func167 ?_
 intro Q g hfin
 unfold wire_Reader_More at hF
 refine LR0 ?_
 refine LR [.nat (box.b.length:Int)] (hc (len_ok e_u8 box.b) .nil) ?_
 cases hF
 exact Wz [] hfin

/- (*wire.Reader).Text -/
noncomputable def wire_Reader_Text (box:Reader):Option (List UInt8×Reader):=
 ob (wire_Reader_Num box) fun x=>
 if (x.2.bad||(decide ((x.2.b.length:Int)<x.1)))=true then
  some (([]:List UInt8),(⟨([]:List UInt8),true⟩:Reader))
 else
  asrt (0≤x.1∧x.1≤(x.2.b.length:Int)) <|
  asrt (0≤x.1∧x.1≤(x.2.b.length:Int)) <|
  some ((ltake x.2.b x.1),(⟨(ldrop x.2.b x.1),x.2.bad⟩:Reader))
theorem wire_Reader_Text_ok (box:Reader) (r:List UInt8×Reader) (hF:wire_Reader_Text box=some r):Pe Tryz.prog 169 ⟨[],[(100000,(c_Reader box))],[],[],[]⟩ [.ptr 100000 0] (.str r.1) ⟨[],[(100000,(c_Reader r.2))],[],[],[]⟩:=by
 refine PT 43 [.tmp 2] [9] Tryz.func169 ?_
 intro Q g hfin
 unfold wire_Reader_Text at hF
 refine LR0 ?_
 obtain ⟨x,h0,hF⟩:=oE hF
 have p1:=(Pe.ren (wire_Reader_Num_ok box x h0) ⟨[],[],[],[]⟩)
 refine LR [cE [100000] [] [] [] p1] (hc p1 .nil) ?_
 refine LR [.nat (x.2.b.length:Int)] (hc (fun (_:(!x.2.bad)=true)=>(len_ok e_u8 x.2.b)) .nil) ?_
 refine Nif hF ?_ ?_ <;> intro hb hF
 ·refine LR0 ?_
  refine VR [] [2] [100000] [] [] [(2,.str ([]:List UInt8))] [(100000,[.nils,.bool true])] [] [] .nil ?_
  cases hF
  refine Wk_coeB 100000 [.sl 1 (([]:List UInt8).map e_u8),.bool true] rfl (.cons (CoeS.nils 1) (.cons (CoeS.refl _) .nil)) ?_
  exact Wz [] hfin
 ·obtain ⟨h2,hF⟩:=aE hF
  refine LR [.xs ((ltake x.2.b x.1).map e_u8),.str (ltake x.2.b x.1)] (hc (sl01_ok e_u8 h2) (hc (u8s_ok (ltake x.2.b x.1)) .nil)) ?_
  obtain ⟨h3,hF⟩:=aE hF
  refine LR [.xs ((ldrop x.2.b x.1).map e_u8)] (hc (sl10_ok e_u8 h3) .nil) ?_
  refine LR0 ?_
  cases hF
  exact Wz [] hfin

/- (*wire.Reader).Fine -/
noncomputable def wire_Reader_Fine (box:Reader):Bool:=
 !box.bad
theorem wire_Reader_Fine_ok (box:Reader) (r:Bool) (hF:wire_Reader_Fine box=r):Pe Tryz.prog 176 ⟨[],[(100000,(c_Reader box))],[],[],[]⟩ [.ptr 100000 0] (.bool r) ⟨[],[(100000,(c_Reader box))],[],[],[]⟩:=by
 refine PT 8 [.tmp 2] [4] Tryz.func176 ?_
 intro Q g hfin
 unfold wire_Reader_Fine at hF
 refine LR0 ?_
 refine LR0 ?_
 cases hF
 exact Wz [] hfin

/- cell.code -/
noncomputable def cell_code (c:Cell):Int:=
 if ((((decide (c.Row=([]:List UInt8)))||(decide (40<(c.Row.length:Int))))||(decide (40<(c.Col.length:Int))))||(decide (200<(c.Value.length:Int))))=true then
  8
 else
  if ((decide (c.Time<0))||(decide (1000000000<c.Time)))=true then
   3
  else
   if (c.Gone&&(!decide (c.Value=([]:List UInt8))))=true then
    5
   else
    0
theorem cell_code_ok (c:Cell) (r:Int) (hF:cell_code c=r):Pe Tryz.prog 141 S.none [.agg (c_Cell c)] (.i r) S.none:=by
 refine PT 42 [.tmp 2] [3] Tryz.func141 ?_
 intro Q g hfin
 unfold cell_code at hF
 refine LR0 ?_
 refine Nblk ?_
 refine LR0 ?_
 refine Nif hF ?_ ?_ <;> intro hb hF
 ·refine LR0 ?_
  cases hF
  exact Wz [] hfin
 ·refine LR0 ?_
  refine Nif hF ?_ ?_ <;> intro hb hF
  ·refine LR0 ?_
   cases hF
   exact Wz [] hfin
  ·refine LR0 ?_
   refine Nif hF ?_ ?_ <;> intro hb hF
   ·refine LR0 ?_
    cases hF
    exact Wz [] hfin
   ·refine LR0 ?_
    cases hF
    exact Wz [] hfin

/- cell.From -/
noncomputable def cell_From (box:Reader):Option (Cell×Bool×Reader):=
 ob (wire_Reader_Text box) fun x=>
 ob (wire_Reader_Text x.2) fun x1=>
 ob (wire_Reader_Num x1.2) fun x2=>
 ob (wire_Reader_Num x2.2) fun x3=>
 ob (wire_Reader_Text x3.2) fun x4=>
 lt (wire_Reader_Fine x4.2) fun x5=>
 lt (cell_code (⟨x.1,x1.1,x2.1,decide (x3.1=1),x4.1⟩:Cell)) fun x6=>
 some ((⟨x.1,x1.1,x2.1,decide (x3.1=1),x4.1⟩:Cell),((decide (x3.1<2))&&x5)&&(decide (x6=0)),x4.2)
theorem cell_From_ok (box:Reader) (r:Cell×Bool×Reader) (hF:cell_From box=some r):Pe Tryz.prog 168 ⟨[],[(100000,(c_Reader box))],[],[],[]⟩ [.ptr 100000 0] (.tup [.agg (c_Cell r.1),.bool r.2.1]) ⟨[],[(100000,(c_Reader r.2.2))],[],[],[]⟩:=by
 refine PT 33 [.cell 2 53,.tmp 3] [53,4] Tryz.func168 ?_
 intro Q g hfin
 unfold cell_From at hF
 refine LR0 ?_
 obtain ⟨x,h0,hF⟩:=oE hF
 have p1:=(Pe.ren (wire_Reader_Text_ok box x h0) ⟨[],[],[],[]⟩)
 obtain ⟨x1,h2,hF⟩:=oE hF
 have p3:=(Pe.ren (wire_Reader_Text_ok x.2 x1 h2) ⟨[],[],[],[]⟩)
 obtain ⟨x2,h4,hF⟩:=oE hF
 have p5:=(Pe.ren (wire_Reader_Num_ok x1.2 x2 h4) ⟨[],[],[],[]⟩)
 refine LR [cE [100000] [] [] [] p1,cE [100000] [] [] [] p3,cE [100000] [] [] [] p5] (hc p1 (hc p3 (hc p5 .nil))) ?_
 obtain ⟨x3,h6,hF⟩:=oE hF
 have p7:=(Pe.ren (wire_Reader_Num_ok x2.2 x3 h6) ⟨[],[],[],[]⟩)
 refine LR [cE [100000] [] [] [] p7] (hc p7 .nil) ?_
 obtain ⟨x4,h8,hF⟩:=oE hF
 have p9:=(Pe.ren (wire_Reader_Text_ok x3.2 x4 h8) ⟨[],[],[],[]⟩)
 refine LR [cE [100000] [] [] [] p9] (hc p9 .nil) ?_
 obtain ⟨x5,h10,hF⟩:=lS hF
 obtain ⟨x6,h11,hF⟩:=lS hF
 refine LD [.callR [100000] [] [] [] (.bool x5),.callB (.i x6)] (hc (fun (ga0:(decide (x3.1<2))=true)=>(Pe.ren (wire_Reader_Fine_ok x4.2 x5 h10) ⟨[],[],[],[]⟩)) (hc (fun (ga0:((decide (x3.1<2))&&x5)=true)=>(cell_code_ok (⟨x.1,x1.1,x2.1,decide (x3.1=1),x4.1⟩:Cell) x6 h11)) .nil)) ?_
 cases hF
 exact Wz [] hfin

/- cmp.isNaN[string] -/
noncomputable def cmp_isNaN_string (x:List UInt8):Bool:=
 !decide (x=x)
theorem cmp_isNaN_string_ok (x:List UInt8) (r:Bool) (hF:cmp_isNaN_string x=r):Pe Tryz.prog 172 S.none [.str x] (.bool r) S.none:=by
 refine PT 6 [.tmp 2] [4] Tryz.func172 ?_
 intro Q g hfin
 unfold cmp_isNaN_string at hF
 refine LR0 ?_
 refine LR0 ?_
 cases hF
 exact Wz [] hfin

/- cmp.Compare[string] -/
noncomputable def cmp_Compare_string (x y0:List UInt8):Int:=
 lt (cmp_isNaN_string x) fun x1=>
 lt (cmp_isNaN_string y0) fun x2=>
 if x1=true then
  if x2=true then
   0
  else
   (-1)
 else
  if x2=true then
   1
  else
   if (Op.bytesLess x y0)=true then
    (-1)
   else
    if (Op.bytesLess y0 x)=true then
     1
    else
     0
theorem cmp_Compare_string_ok (x y0:List UInt8) (r:Int) (hF:cmp_Compare_string x y0=r):Pe Tryz.prog 162 S.none [.str x,.str y0] (.i r) S.none:=by
 refine PT 20 [.tmp 4] [3] Tryz.func162 ?_
 intro Q g hfin
 unfold cmp_Compare_string at hF
 refine LR0 ?_
 obtain ⟨x1,h0,hF⟩:=lS hF
 refine LR [.callB (.bool x1)] (hc (cmp_isNaN_string_ok x x1 h0) .nil) ?_
 obtain ⟨x2,h1,hF⟩:=lS hF
 refine LR [.callB (.bool x2)] (hc (cmp_isNaN_string_ok y0 x2 h1) .nil) ?_
 refine LR0 ?_
 refine Nif hF ?_ ?_ <;> intro hb hF
 ·refine LR0 ?_
  refine Nif hF ?_ ?_ <;> intro hb hF
  ·refine LR0 ?_
   cases hF
   exact Wz [] hfin
  ·refine LR0 ?_
   cases hF
   exact Wz [] hfin
 ·refine LR0 ?_
  refine Nif hF ?_ ?_ <;> intro hb hF
  ·refine LR0 ?_
   cases hF
   exact Wz [] hfin
  ·refine LR0 ?_
   refine Nif hF ?_ ?_ <;> intro hb hF
   ·refine LR0 ?_
    cases hF
    exact Wz [] hfin
   ·refine LR0 ?_
    refine Nif hF ?_ ?_ <;> intro hb hF
    ·refine LR0 ?_
     cases hF
     exact Wz [] hfin
    ·refine LR0 ?_
     cases hF
     exact Wz [] hfin

/- cmp.isNaN[int] -/
noncomputable def cmp_isNaN_int (x:Int):Bool:=
 !decide (x=x)
theorem cmp_isNaN_int_ok (x:Int) (r:Bool) (hF:cmp_isNaN_int x=r):Pe Tryz.prog 173 S.none [.i x] (.bool r) S.none:=by
 refine PT 6 [.tmp 2] [4] Tryz.func173 ?_
 intro Q g hfin
 unfold cmp_isNaN_int at hF
 refine LR0 ?_
 refine LR0 ?_
 cases hF
 exact Wz [] hfin

/- cmp.Compare[int] -/
noncomputable def cmp_Compare_int (x y0:Int):Int:=
 lt (cmp_isNaN_int x) fun x1=>
 lt (cmp_isNaN_int y0) fun x2=>
 if x1=true then
  if x2=true then
   0
  else
   (-1)
 else
  if x2=true then
   1
  else
   if (decide (x<y0))=true then
    (-1)
   else
    if (decide (y0<x))=true then
     1
    else
     0
theorem cmp_Compare_int_ok (x y0 r:Int) (hF:cmp_Compare_int x y0=r):Pe Tryz.prog 163 S.none [.i x,.i y0] (.i r) S.none:=by
 refine PT 20 [.tmp 4] [3] Tryz.func163 ?_
 intro Q g hfin
 unfold cmp_Compare_int at hF
 refine LR0 ?_
 obtain ⟨x1,h0,hF⟩:=lS hF
 refine LR [.callB (.bool x1)] (hc (cmp_isNaN_int_ok x x1 h0) .nil) ?_
 obtain ⟨x2,h1,hF⟩:=lS hF
 refine LR [.callB (.bool x2)] (hc (cmp_isNaN_int_ok y0 x2 h1) .nil) ?_
 refine LR0 ?_
 refine Nif hF ?_ ?_ <;> intro hb hF
 ·refine LR0 ?_
  refine Nif hF ?_ ?_ <;> intro hb hF
  ·refine LR0 ?_
   cases hF
   exact Wz [] hfin
  ·refine LR0 ?_
   cases hF
   exact Wz [] hfin
 ·refine LR0 ?_
  refine Nif hF ?_ ?_ <;> intro hb hF
  ·refine LR0 ?_
   cases hF
   exact Wz [] hfin
  ·refine LR0 ?_
   refine Nif hF ?_ ?_ <;> intro hb hF
   ·refine LR0 ?_
    cases hF
    exact Wz [] hfin
   ·refine LR0 ?_
    refine Nif hF ?_ ?_ <;> intro hb hF
    ·refine LR0 ?_
     cases hF
     exact Wz [] hfin
    ·refine LR0 ?_
     cases hF
     exact Wz [] hfin

/- cmp.Or[int] -/
noncomputable def cmp_Or_int_J1 (v:Unit):Option Int:=
 some 0
noncomputable def cmp_Or_int_B1 (vals:List Int) (v1:Int):Option (Int⊕Int):=
 if (decide (v1<(vals.length:Int)))=true then
  asrt (0≤v1∧v1<(vals.length:Int)) <|
  if (!decide ((lget vals v1)=0))=true then
   some (Sum.inr (lget vals v1))
  else
   some (Sum.inl (w64 (v1+1)))
 else
  inrO (cmp_Or_int_J1 ())
noncomputable def cmp_Or_int_L1 (vals:List Int) (v0:Int):Option Int:=
 loopO (fun y=>cmp_Or_int_B1 vals y) v0
noncomputable def cmp_Or_int (vals:List Int):Option Int:=
 cmp_Or_int_L1 vals 0
theorem cmp_Or_int_ok (vals:List Int) (r:Int) (hF:cmp_Or_int vals=some r):Pe Tryz.prog 161 S.none [.sl 1 (vals.map e_i64)] (.i r) S.none:=by
 refine PT 18 [.tmp 2] [3] Tryz.func161 ?_
 intro Q g hfin
 unfold cmp_Or_int at hF
 refine LR0 ?_
 refine LR0 ?_
 refine LR [.nat (vals.length:Int)] (hc (len_ok e_i64 vals) .nil) ?_
 refine NmeetP (fun v:Unit=>(⟨[(3,.i 0)],[],[],[],[]⟩:S)) (fun v=>cmp_Or_int_J1 v=some r) ?_ ?_
 ·refine Nblk ?_
  unfold cmp_Or_int_L1 at hF
  refine Nitq (fun v1:Int=>(⟨[(3,.i 0),(6,.sl 1 (vals.map e_i64)),(7,.i (vals.length:Int)),(8,.i v1)],[],[],[],[]⟩:S)) [] hF ?_
  intro n1 v1 y1 hF ih1 dn1
  unfold cmp_Or_int_B1 at hF
  refine LR0 ?_
  refine Nif hF ?_ ?_ <;> intro hb hF
  ·refine Nblk ?_
   obtain ⟨h0,hF⟩:=aE hF
   refine LR [.av (e_i64 (lget vals v1))] (hc (idx_ok e_i64 h0) .nil) ?_
   refine LR0 ?_
   refine Nif hF ?_ ?_ <;> intro hb hF
   ·refine LR0 ?_
    have hF:=ret_done hF dn1
    cases hF
    exact Wz [] hfin
   ·refine LR0 ?_
    exact Nrnq [] hF ih1
  ·refine Nexit rfl ?_
   have hF:=inrO_done hF dn1
   exact metQ () [] hF
 ·intro v hF
  unfold cmp_Or_int_J1 at hF
  refine LR0 ?_
  cases hF
  exact Wz [] hfin

/- cell.Order -/
noncomputable def cell_Order (a0 b:Cell):Option Int:=
 lt (cmp_Compare_string a0.Row b.Row) fun x=>
 lt (cmp_Compare_string a0.Col b.Col) fun x1=>
 lt (cmp_Compare_int b.Time a0.Time) fun x2=>
 ob (cmp_Or_int ([x,x1,x2]:List Int)) fun x3=>
 some x3
theorem cell_Order_ok (a0 b:Cell) (r:Int) (hF:cell_Order a0 b=some r):Pe Tryz.prog 136 S.none [.agg (c_Cell a0),.agg (c_Cell b)] (.i r) S.none:=by
 refine PT 22 [.tmp 4] [3] Tryz.func136 ?_
 intro Q g hfin
 unfold cell_Order at hF
 refine LR0 ?_
 obtain ⟨x,h0,hF⟩:=lS hF
 obtain ⟨x1,h1,hF⟩:=lS hF
 obtain ⟨x2,h2,hF⟩:=lS hF
 obtain ⟨x3,h3,hF⟩:=oE hF
 refine LD [.callB (.i x),.callB (.i x1),.callB (.i x2),.sealed,.callB (.i x3)] (hc (cmp_Compare_string_ok a0.Row b.Row x h0) (hc (cmp_Compare_string_ok a0.Col b.Col x1 h1) (hc (cmp_Compare_int_ok b.Time a0.Time x2 h2) (hc (cmp_Or_int_ok ([x,x1,x2]:List Int) x3 h3) .nil)))) ?_
 cases hF
 exact Wz [] hfin

/- cell.Check -/
noncomputable def cell_Check_J1 (v:Fault):Option Fault:=
 some (⟨0,0⟩:Fault)
noncomputable def cell_Check_B1 (l:List Cell) (v1:Fault×Int):Option ((Fault×Int)⊕Fault):=
 if (decide (v1.2<(l.length:Int)))=true then
  asrt (0≤v1.2∧v1.2<(l.length:Int)) <|
  lt (cell_code (⟨(lget l v1.2).Row,(lget l v1.2).Col,(lget l v1.2).Time,(lget l v1.2).Gone,(lget l v1.2).Value⟩:Cell)) fun x1=>
  if (!decide (x1=0))=true then
   lt (cell_fault x1 v1.2) fun x2=>
   some (Sum.inr x2)
  else
   asrt ((decide (0<v1.2))=true→0≤w64 (v1.2 - 1)∧w64 (v1.2 - 1)<(l.length:Int)) <|
   ob (if (decide (0<v1.2))=true then (cell_Order (⟨(lget l (w64 (v1.2 - 1))).Row,(lget l (w64 (v1.2 - 1))).Col,(lget l (w64 (v1.2 - 1))).Time,(lget l (w64 (v1.2 - 1))).Gone,(lget l (w64 (v1.2 - 1))).Value⟩:Cell) (⟨(lget l v1.2).Row,(lget l v1.2).Col,(lget l v1.2).Time,(lget l v1.2).Gone,(lget l v1.2).Value⟩:Cell)) else some default) fun x3=>
   if ((decide (0<v1.2))&&(decide (0≤x3)))=true then
    lt (cell_fault 10 v1.2) fun x4=>
    some (Sum.inr x4)
   else
    some (Sum.inl (v1.1,w64 (v1.2+1)))
 else
  inrO (cell_Check_J1 v1.1)
noncomputable def cell_Check_L1 (l:List Cell) (v0:Fault×Int):Option Fault:=
 loopO (fun y=>cell_Check_B1 l y) v0
noncomputable def cell_Check (l:List Cell):Option Fault:=
 if (decide (1000<(l.length:Int)))=true then
  lt (cell_fault 2 0) fun x=>
  some x
 else
  cell_Check_L1 l ((⟨0,0⟩:Fault),0)
theorem cell_Check_ok (l:List Cell) (r:Fault) (hF:cell_Check l=some r):Pe Tryz.prog 108 S.none [.sl 5 (l.map e_Cell)] (.agg (c_Fault r)) S.none:=by
 refine PT 40 [.cell 2 35] [35] Tryz.func108 ?_
 intro Q g hfin
 unfold cell_Check at hF
 refine LR0 ?_
 refine LR [.nat (l.length:Int)] (hc (len_ok e_Cell l) .nil) ?_
 refine Nif hF ?_ ?_ <;> intro hb hF
 ·obtain ⟨x,h0,hF⟩:=lS hF
  refine LR [.callB (.agg (c_Fault x))] (hc (cell_fault_ok 2 0 x h0) .nil) ?_
  cases hF
  exact Wz [] hfin
 ·refine LR [.nat (l.length:Int)] (hc (len_ok e_Cell l) .nil) ?_
  refine NmeetP (fun v:Fault=>(⟨[(2,.ptr 2 0)],[(2,(c_Fault v))],[],[],[]⟩:S)) (fun v=>cell_Check_J1 v=some r) ?_ ?_
  ·refine Nblk ?_
   unfold cell_Check_L1 at hF
   refine Nitq (fun v1:Fault×Int=>(⟨[(0,.sl 5 (l.map e_Cell)),(2,.ptr 2 0),(10,.sl 5 (l.map e_Cell)),(11,.i (l.length:Int)),(12,.i v1.2)],[(2,(c_Fault v1.1))],[],[],[]⟩:S)) [] hF ?_
   intro n1 v1 y1 hF ih1 dn1
   unfold cell_Check_B1 at hF
   refine LR0 ?_
   refine Nif hF ?_ ?_ <;> intro hb hF
   ·refine Nblk ?_
    obtain ⟨h1,hF⟩:=aE hF
    refine LR [.av (e_Cell (lget l v1.2))] (hc (idx_ok e_Cell h1) .nil) ?_
    obtain ⟨x1,h2,hF⟩:=lS hF
    refine LR [.callB (.i x1)] (hc (cell_code_ok (⟨(lget l v1.2).Row,(lget l v1.2).Col,(lget l v1.2).Time,(lget l v1.2).Gone,(lget l v1.2).Value⟩:Cell) x1 h2) .nil) ?_
    refine LR0 ?_
    refine Nif hF ?_ ?_ <;> intro hb hF
    ·obtain ⟨x2,h3,hF⟩:=lS hF
     refine LR [.callB (.agg (c_Fault x2))] (hc (cell_fault_ok x1 v1.2 x2 h3) .nil) ?_
     have hF:=ret_done hF dn1
     cases hF
     exact Wz [] hfin
    ·obtain ⟨h4,hF⟩:=aE hF
     obtain ⟨x3,h5,hF⟩:=oE hF
     refine LD [.av (e_Cell (lget l (w64 (v1.2 - 1)))),.callB (.i x3)] (hc (fun (ga0:(decide (0<v1.2))=true)=>(idx_ok e_Cell (h4 ga0))) (hc (fun (ga0:(decide (0<v1.2))=true)=>(cell_Order_ok (⟨(lget l (w64 (v1.2 - 1))).Row,(lget l (w64 (v1.2 - 1))).Col,(lget l (w64 (v1.2 - 1))).Time,(lget l (w64 (v1.2 - 1))).Gone,(lget l (w64 (v1.2 - 1))).Value⟩:Cell) (⟨(lget l v1.2).Row,(lget l v1.2).Col,(lget l v1.2).Time,(lget l v1.2).Gone,(lget l v1.2).Value⟩:Cell) x3 (ite_t h5 ga0))) .nil)) ?_
     refine Nif hF ?_ ?_ <;> intro hb hF
     ·obtain ⟨x4,h6,hF⟩:=lS hF
      refine LR [.callB (.agg (c_Fault x4))] (hc (cell_fault_ok 10 v1.2 x4 h6) .nil) ?_
      have hF:=ret_done hF dn1
      cases hF
      exact Wz [] hfin
     ·refine LR0 ?_
      exact Nrnq [] hF ih1
   ·refine Nexit rfl ?_
    have hF:=inrO_done hF dn1
    exact metQ v1.1 [] hF
  ·intro v hF
   unfold cell_Check_J1 at hF
   refine LR0 ?_
   cases hF
   exact Wz [] hfin

/- cell.Read -/
noncomputable def cell_Read_J1 (v:Fault×List Cell):Option (List Cell×Fault):=
 ob (cell_Check v.2) fun x2=>
 if (!decide (x2.Code=0))=true then
  some (([]:List Cell),x2)
 else
  some (v.2,(⟨0,0⟩:Fault))
noncomputable def cell_Read_B1 (v1:Fault×List Cell×Reader):Option ((Fault×List Cell×Reader)⊕(List Cell×Fault)):=
 lt (wire_Reader_More v1.2.2) fun x3=>
 if x3=true then
  ob (cell_From v1.2.2) fun x4=>
  if (!x4.2.1)=true then
   lt (cell_fault 5 (v1.2.1.length:Int)) fun x5=>
   some (Sum.inr (([]:List Cell),x5))
  else
   asrt (((v1.2.1++[x4.1]).length:Int)*64≤140737488351232) <|
   some (Sum.inl (v1.1,(v1.2.1++[x4.1]),x4.2.2))
 else
  inrO (cell_Read_J1 (v1.1,v1.2.1))
noncomputable def cell_Read_L1 (v0:Fault×List Cell×Reader):Option (List Cell×Fault):=
 loopO (fun y=>cell_Read_B1 y) v0
noncomputable def cell_Read (b:List UInt8):Option (List Cell×Fault):=
 if (decide (60000<(b.length:Int)))=true then
  lt (cell_fault 8 0) fun x=>
  some (([]:List Cell),x)
 else
  lt (wire_Read b) fun x1=>
  cell_Read_L1 ((⟨0,0⟩:Fault),([]:List Cell),x1)
theorem cell_Read_ok (b:List UInt8) (r:List Cell×Fault) (hF:cell_Read b=some r):Pe Tryz.prog 152 (.w []) [.sl 1 (b.map e_u8)] (.tup [.row 30 0,.agg (c_Fault r.2)]) ⟨[],[],[(30,.z 53 5 0 (r.1.map e_Cell))],[],[]⟩:=by
 refine PT 39 [.tmp 2,.cell 3 35] [28,35] Tryz.func152 ?_
 intro Q g hfin
 unfold cell_Read at hF
 refine LR0 ?_
 refine LR [.nat (b.length:Int)] (hc (len_ok e_u8 b) .nil) ?_
 refine Nif hF ?_ ?_ <;> intro hb hF
 ·obtain ⟨x,h0,hF⟩:=lS hF
  refine VR [.callB (.agg (c_Fault x))] [2,3] [3] [] [] [(2,.nils),(3,.ptr 3 0)] [(3,(c_Fault x))] [] [] (hc (cell_fault_ok 8 0 x h0) .nil) ?_
  cases hF
  refine Wk_nilrow 2 60000 53 5 rfl rfl rfl ?_
  refine Wk_ren' ⟨[],[(60000,30)],[],[]⟩ rfl ?_
  exact Wz [] hfin
 ·refine LR0 ?_
  obtain ⟨x1,h1,hF⟩:=lS hF
  have p2:=(Pe.ren (wire_Read_ok b x1 h1) ⟨[(5,14)],[],[],[]⟩)
  refine VR [cE [] [] [] [] p2] [3,4,5] [3,14] [] [] [(3,.ptr 3 0),(4,.nils),(5,.ptr 14 0)] [(3,[.i 0,.i 0]),(14,(c_Reader x1))] [] [] (hc p2 .nil) ?_
  refine NmeetP (fun v:Fault×List Cell=>(⟨[(3,.ptr 3 0),(4,.row 30 0)],[(3,(c_Fault v.1))],[(30,.z 53 5 0 (v.2.map e_Cell))],[],[]⟩:S)) (fun v=>cell_Read_J1 v=some r) ?_ ?_
  ·refine Nblk ?_
   unfold cell_Read_L1 at hF
   refine Wk_nilrow 4 60002 53 5 rfl rfl rfl ?_
   refine Wk_trim (fs:=[3,4,5]) (bs:=[3,14]) (rs:=[60002]) (ms:=[]) (aa:=[]) (nv:=[]) rfl ?_
   refine Wk_ren' ⟨[],[(60002,30)],[],[]⟩ rfl ?_
   refine Nitq (fun v1:Fault×List Cell×Reader=>(⟨[(3,.ptr 3 0),(4,.row 30 0),(5,.ptr 14 0)],[(3,(c_Fault v1.1)),(14,(c_Reader v1.2.2))],[(30,.z 53 5 0 (v1.2.1.map e_Cell))],[],[]⟩:S)) [] hF ?_
   intro n1 v1 y1 hF ih1 dn1
   unfold cell_Read_B1 at hF
   obtain ⟨x3,h4,hF⟩:=lS hF
   refine LR [.callR [14] [] [] [] (.bool x3)] (hc (Pe.ren (wire_Reader_More_ok v1.2.2 x3 h4) ⟨[(100000,14)],[],[],[]⟩) .nil) ?_
   refine Nif hF ?_ ?_ <;> intro hb hF
   ·refine Nblk ?_
    obtain ⟨x4,h5,hF⟩:=oE hF
    have p6:=(Pe.ren (cell_From_ok v1.2.2 x4 h5) ⟨[(100000,14)],[],[],[]⟩)
    refine LR [cE [14] [] [] [] p6] (hc p6 .nil) ?_
    refine LR0 ?_
    refine Nif hF ?_ ?_ <;> intro hb hF
    ·obtain ⟨x5,h7,hF⟩:=lS hF
     refine VR [.nat (v1.2.1.length:Int),.callB (.agg (c_Fault x5))] [2,3] [3] [] [] [(2,.nils),(3,.ptr 3 0)] [(3,(c_Fault x5))] [] [] (hc (len_ok e_Cell v1.2.1) (hc (cell_fault_ok 5 (v1.2.1.length:Int) x5 h7) .nil)) ?_
     have hF:=ret_done hF dn1
     cases hF
     refine Wk_nilrow 2 60003 53 5 rfl rfl rfl ?_
     refine Wk_ren' ⟨[],[(60003,30)],[],[]⟩ rfl ?_
     exact Wz [] hfin
    ·obtain ⟨h8,hF⟩:=aE hF
     refine LR [.sealed,.xs ((v1.2.1++[x4.1]).map e_Cell)] (hc (app_ok e_Cell v1.2.1 [x4.1]) (hc (appl_ok e_Cell h8) .nil)) ?_
     exact Nrnq [(30,⟨0,true,true,false⟩)] hF ih1
   ·refine Nexit rfl ?_
    have hF:=inrO_done hF dn1
    exact metQ (v1.1,v1.2.1) [] hF
  ·intro v hF
   unfold cell_Read_J1 at hF
   obtain ⟨x2,h3,hF⟩:=oE hF
   refine LR [.callB (.agg (c_Fault x2))] (hc (cell_Check_ok v.2 x2 h3) .nil) ?_
   refine LR0 ?_
   refine Nif hF ?_ ?_ <;> intro hb hF
   ·refine VD [] [2,3] [3] [] [] [(2,.nils),(3,.ptr 3 0)] [(3,(c_Fault x2))] [] [] .nil ?_
    cases hF
    refine Wk_nilrow 2 60001 53 5 rfl rfl rfl ?_
    refine Wk_ren' ⟨[],[(60001,30)],[],[]⟩ rfl ?_
    exact Wz [] hfin
   ·refine LR0 ?_
    cases hF
    exact Wz [] hfin

/- wal.Check -/
noncomputable def wal_Check (num:Note):Option Fault:=
 if ((decide (num.Seq<1))||(decide (1000000000<num.Seq)))=true then
  lt (wal_fault 3 (-1)) fun x=>
  some x
 else
  if ((decide ((num.Cells.length:Int)=0))||(decide (20<(num.Cells.length:Int))))=true then
   lt (wal_fault 2 (-1)) fun x1=>
   some x1
  else
   ob (cell_Check num.Cells) fun x2=>
   some x2
theorem wal_Check_ok (num:Note) (r:Fault) (hF:wal_Check num=some r):Pe Tryz.prog 64 S.none [.agg (c_Note num)] (.agg (c_Fault r)) S.none:=by
 refine PT 28 [.cell 2 35] [35] Tryz.func64 ?_
 intro Q g hfin
 unfold wal_Check at hF
 refine LR0 ?_
 refine Nblk ?_
 refine LR0 ?_
 refine Nif hF ?_ ?_ <;> intro hb hF
 ·obtain ⟨x,h0,hF⟩:=lS hF
  refine LR [.callB (.agg (c_Fault x))] (hc (wal_fault_ok 3 (-1) x h0) .nil) ?_
  cases hF
  exact Wz [] hfin
 ·refine LR [.nat (num.Cells.length:Int),.nat (num.Cells.length:Int)] (hc (len_ok e_Cell num.Cells) (hc (fun (_:(!(decide ((num.Cells.length:Int)=0)))=true)=>(len_ok e_Cell num.Cells)) .nil)) ?_
  refine Nif hF ?_ ?_ <;> intro hb hF
  ·obtain ⟨x1,h1,hF⟩:=lS hF
   refine LR [.callB (.agg (c_Fault x1))] (hc (wal_fault_ok 2 (-1) x1 h1) .nil) ?_
   cases hF
   exact Wz [] hfin
  ·obtain ⟨x2,h2,hF⟩:=oE hF
   refine LR [.callB (.agg (c_Fault x2))] (hc (cell_Check_ok num.Cells x2 h2) .nil) ?_
   cases hF
   exact Wz [] hfin

/- wal.Read -/
noncomputable def wal_Read (b:List UInt8):Option (Int×List Cell×Fault):=
 if (decide (60000<(b.length:Int)))=true then
  lt (wal_fault 8 0) fun x=>
  some (0,([]:List Cell),x)
 else
  ob (slices_IndexFunc_byte_byte b) fun x1=>
  asrt (0≤w64 (1+x1)∧w64 (1+x1)≤(b.length:Int)) <|
  lt (wire_Read (ltake b (w64 (1+x1)))) fun x2=>
  ob (wire_Reader_Num x2) fun x3=>
  lt (wire_Reader_Ok x3.2) fun x4=>
  if (!x4)=true then
   lt (wal_fault 5 (-1)) fun x5=>
   some (0,([]:List Cell),x5)
  else
   asrt (0≤w64 (1+x1)∧w64 (1+x1)≤(b.length:Int)) <|
   ob (cell_Read (ldrop b (w64 (1+x1)))) fun x6=>
   if (!decide (x6.2.Code=0))=true then
    some (0,([]:List Cell),x6.2)
   else
    ob (wal_Check (⟨x3.1,x6.1⟩:Note)) fun x7=>
    if (!decide (x7.Code=0))=true then
     some (0,([]:List Cell),x7)
    else
     some (x3.1,x6.1,x7)
theorem wal_Read_ok (b:List UInt8) (r:Int×List Cell×Fault) (hF:wal_Read b=some r):Pe Tryz.prog 119 (.w []) [.sl 1 (b.map e_u8)] (.tup [.agg [.i r.1,.row 33 0],.agg (c_Fault r.2.2)]) ⟨[],[],[(33,.z 53 5 0 (r.2.1.map e_Cell))],[],[]⟩:=by
 refine PT 52 [.cell 2 50,.cell 3 35] [50,35] Tryz.func119 ?_
 intro Q g hfin
 unfold wal_Read at hF
 refine LR0 ?_
 refine LR [.nat (b.length:Int)] (hc (len_ok e_u8 b) .nil) ?_
 refine Nif hF ?_ ?_ <;> intro hb hF
 ·obtain ⟨x,h0,hF⟩:=lS hF
  refine VR [.callB (.agg (c_Fault x))] [2,3] [2,3] [] [] [(2,.ptr 2 0),(3,.ptr 3 0)] [(2,[.i 0,.nils]),(3,(c_Fault x))] [] [] (hc (wal_fault_ok 8 0 x h0) .nil) ?_
  cases hF
  refine Wk_nilrowB 2 1 60000 53 5 rfl rfl rfl rfl rfl ?_
  refine Wk_ren' ⟨[],[(60000,33)],[],[]⟩ rfl ?_
  exact Wz [] hfin
 ·obtain ⟨x1,h1,hF⟩:=oE hF
  refine LR [.callB (.i x1)] (hc (slices_IndexFunc_byte_byte_ok b x1 h1) .nil) ?_
  obtain ⟨h2,hF⟩:=aE hF
  obtain ⟨x2,h3,hF⟩:=lS hF
  have p4:=(Pe.ren (wire_Read_ok (ltake b (w64 (1+x1))) x2 h3) ⟨[(5,20)],[],[],[]⟩)
  refine LR [.xs ((ltake b (w64 (1+x1))).map e_u8),cE [] [] [] [] p4] (hc (sl01_ok e_u8 h2) (hc p4 .nil)) ?_
  obtain ⟨x3,h5,hF⟩:=oE hF
  have p6:=(Pe.ren (wire_Reader_Num_ok x2 x3 h5) ⟨[(100000,20)],[],[],[]⟩)
  refine LR [cE [20] [] [] [] p6] (hc p6 .nil) ?_
  obtain ⟨x4,h7,hF⟩:=lS hF
  refine LR [.callR [20] [] [] [] (.bool x4)] (hc (Pe.ren (wire_Reader_Ok_ok x3.2 x4 h7) ⟨[(100000,20)],[],[],[]⟩) .nil) ?_
  refine Nif hF ?_ ?_ <;> intro hb hF
  ·obtain ⟨x5,h8,hF⟩:=lS hF
   refine VR [.callB (.agg (c_Fault x5))] [2,3] [2,3] [] [] [(2,.ptr 2 0),(3,.ptr 3 0)] [(2,[.i 0,.nils]),(3,(c_Fault x5))] [] [] (hc (wal_fault_ok 5 (-1) x5 h8) .nil) ?_
   cases hF
   refine Wk_nilrowB 2 1 60001 53 5 rfl rfl rfl rfl rfl ?_
   refine Wk_ren' ⟨[],[(60001,33)],[],[]⟩ rfl ?_
   exact Wz [] hfin
  ·obtain ⟨h9,hF⟩:=aE hF
   obtain ⟨x6,h10,hF⟩:=oE hF
   have p11:=(Pe.ren (cell_Read_ok (ldrop b (w64 (1+x1))) x6 h10) ⟨[],[(30,33)],[],[]⟩)
   refine LR [.xs ((ldrop b (w64 (1+x1))).map e_u8),cE [] [] [] [] p11] (hc (sl10_ok e_u8 h9) (hc p11 .nil)) ?_
   refine LR0 ?_
   refine Nif hF ?_ ?_ <;> intro hb hF
   ·refine VD [] [2,3] [2,3] [] [] [(2,.ptr 2 0),(3,.ptr 3 0)] [(2,[.i 0,.nils]),(3,(c_Fault x6.2))] [] [] .nil ?_
    cases hF
    refine Wk_nilrowB 2 1 60002 53 5 rfl rfl rfl rfl rfl ?_
    refine Wk_ren' ⟨[],[(60002,33)],[],[]⟩ rfl ?_
    exact Wz [] hfin
   ·refine LR0 ?_
    obtain ⟨x7,h12,hF⟩:=oE hF
    refine LR [.callB (.agg (c_Fault x7))] (hc (wal_Check_ok (⟨x3.1,x6.1⟩:Note) x7 h12) .nil) ?_
    refine LR0 ?_
    refine Nif hF ?_ ?_ <;> intro hb hF
    ·refine VD [] [2,3] [2,3] [] [] [(2,.ptr 2 0),(3,.ptr 3 0)] [(2,[.i 0,.nils]),(3,(c_Fault x7))] [] [] .nil ?_
     cases hF
     refine Wk_nilrowB 2 1 60003 53 5 rfl rfl rfl rfl rfl ?_
     refine Wk_ren' ⟨[],[(60003,33)],[],[]⟩ rfl ?_
     exact Wz [] hfin
    ·refine LD0 ?_
     cases hF
     exact Wz [] hfin

/- wal.Notes -/
noncomputable def wal_Notes_J1 (v:List Note×Int):Option (List Note×Int):=
 some (v.1,v.2)
noncomputable def wal_Notes_B1 (x:List (List UInt8)×Int) (v1:List Note×Int×Int):Option ((List Note×Int×Int)⊕(List Note×Int)):=
 if (decide (v1.2.2<(x.1.length:Int)))=true then
  asrt (0≤v1.2.2∧v1.2.2<(x.1.length:Int)) <|
  asrt (0≤v1.2.2∧v1.2.2<(x.1.length:Int)) <|
  ob (wal_Read (lget x.1 v1.2.2)) fun x1=>
  asrt ((decide (0<(v1.1.length:Int)))=true→(!(!decide (x1.2.2.Code=0)))=true→0≤w64 ((v1.1.length:Int) - 1)∧w64 ((v1.1.length:Int) - 1)<(v1.1.length:Int)) <|
  asrt ((decide (0<(v1.1.length:Int)))=true→(!(!decide (x1.2.2.Code=0)))=true→0≤w64 ((v1.1.length:Int) - 1)∧w64 ((v1.1.length:Int) - 1)<(v1.1.length:Int)) <|
  if ((!decide (x1.2.2.Code=0))||((decide (0<(v1.1.length:Int)))&&(!decide (x1.1=(w64 (((lget v1.1 (w64 ((v1.1.length:Int) - 1))).Seq)+1))))))=true then
   inrO (wal_Notes_J1 (v1.1,v1.2.1))
  else
   asrt (((v1.1++[(⟨x1.1,x1.2.1⟩:Note)]).length:Int)*32≤140737488351232) <|
   some (Sum.inl ((v1.1++[(⟨x1.1,x1.2.1⟩:Note)]),w64 (v1.2.1+(w64 (6+((lget x.1 v1.2.2).length:Int)))),w64 (v1.2.2+1)))
 else
  inrO (wal_Notes_J1 (v1.1,v1.2.1))
noncomputable def wal_Notes_L1 (x:List (List UInt8)×Int) (v0:List Note×Int×Int):Option (List Note×Int):=
 loopO (fun y=>wal_Notes_B1 x y) v0
noncomputable def wal_Notes (d:Disk):Option (List Note×Int):=
 ob (wire_Opened d.Bytes) fun x=>
 wal_Notes_L1 x (([]:List Note),0,0)
theorem wal_Notes_ok (d:Disk) (r:List Note×Int) (hF:wal_Notes d=some r):Pe Tryz.prog 72 (.w []) [.agg (c_Disk d)] (.tup [.row 53 0,.i r.2]) ⟨[],[],[(53,.z 50 2 0 (r.1.map e_Note))],[],[]⟩:=by
 refine PT 62 [.tmp 2,.tmp 3] [41,3] Tryz.func72 ?_
 intro Q g hfin
 unfold wal_Notes at hF
 refine LR0 ?_
 obtain ⟨x,h0,hF⟩:=oE hF
 have p1:=(Pe.ren (wire_Opened_ok d.Bytes x h0) ⟨[],[(66,15)],[],[]⟩)
 refine LR [cE [] [] [] [] p1] (hc p1 .nil) ?_
 refine LR0 ?_
 refine LR0 ?_
 refine VR [.nat (x.1.length:Int)] [6,7,18,19,20] [] [15] [] [(6,.nils),(7,.i 0),(18,.row 15 0),(19,.i (x.1.length:Int)),(20,.i 0)] [] [(15,.z 22 1 0 (x.1.map e_L_u8))] [] (hc (len_ok e_L_u8 x.1) .nil) ?_
 refine NmeetP (fun v:List Note×Int=>(⟨[(6,.row 53 0),(7,.i v.2)],[],[(53,.z 50 2 0 (v.1.map e_Note))],[],[]⟩:S)) (fun v=>wal_Notes_J1 v=some r) ?_ ?_
 ·refine Nblk ?_
  unfold wal_Notes_L1 at hF
  refine Wk_nilrow 6 60000 50 2 rfl rfl rfl ?_
  refine Wk_trim (fs:=[6,7,18,19,20]) (bs:=[]) (rs:=[15,60000]) (ms:=[]) (aa:=[]) (nv:=[]) rfl ?_
  refine Wk_ren' ⟨[],[(60000,53)],[],[]⟩ rfl ?_
  refine Nitq (fun v1:List Note×Int×Int=>(⟨[(6,.row 53 0),(7,.i v1.2.1),(18,.row 15 0),(19,.i (x.1.length:Int)),(20,.i v1.2.2)],[],[(15,.z 22 1 0 (x.1.map e_L_u8)),(53,.z 50 2 0 (v1.1.map e_Note))],[],[]⟩:S)) [] hF ?_
  intro n1 v1 y1 hF ih1 dn1
  unfold wal_Notes_B1 at hF
  refine LR0 ?_
  refine Nif hF ?_ ?_ <;> intro hb hF
  ·refine Nblk ?_
   obtain ⟨h2,h3,hF⟩:=asrt2 hF
   refine LR [.av (e_L_u8 (lget x.1 v1.2.2))] (hc (ixr_ok e_L_u8 h2) (hc (ldr_ok e_L_u8 h3) .nil)) ?_
   obtain ⟨x1,h4,hF⟩:=oE hF
   have p5:=(Pe.ren (wal_Read_ok (lget x.1 v1.2.2) x1 h4) ⟨[],[(33,26)],[],[]⟩)
   refine LR [cE [] [] [] [] p5] (hc p5 .nil) ?_
   obtain ⟨h6,h7,hF⟩:=asrt2 hF
   refine LD [.nat (v1.1.length:Int),.nat (v1.1.length:Int),.av (e_Note (lget v1.1 (w64 ((v1.1.length:Int) - 1))))] (hc (fun (_:(!(!decide (x1.2.2.Code=0)))=true)=>(len_ok e_Note v1.1)) (hc (fun (_:(decide (0<(v1.1.length:Int)))=true) (_:(!(!decide (x1.2.2.Code=0)))=true)=>(len_ok e_Note v1.1)) (hc (fun (ga0:(decide (0<(v1.1.length:Int)))=true) (ga1:(!(!decide (x1.2.2.Code=0)))=true)=>(ixr_ok e_Note (h6 ga0 ga1))) (hc (fun (ga0:(decide (0<(v1.1.length:Int)))=true) (ga1:(!(!decide (x1.2.2.Code=0)))=true)=>(ldr_ok e_Note (h7 ga0 ga1))) .nil)))) ?_
   refine Nif hF ?_ ?_ <;> intro hb hF
   ·refine Nexit rfl ?_
    have hF:=inrO_done hF dn1
    exact metQ (v1.1,v1.2.1) [] hF
   ·obtain ⟨h8,hF⟩:=aE hF
    refine LR [.sealed,.xs ((v1.1++[(⟨x1.1,x1.2.1⟩:Note)]).map e_Note)] (hc (app_ok e_Note v1.1 [(⟨x1.1,x1.2.1⟩:Note)]) (hc (appl_ok e_Note h8) .nil)) ?_
    refine LR [.nat ((lget x.1 v1.2.2).length:Int)] (hc (len_ok e_u8 (lget x.1 v1.2.2)) .nil) ?_
    refine LR0 ?_
    exact Nrnq [(53,⟨0,true,true,false⟩)] hF ih1
  ·refine Nexit rfl ?_
   have hF:=inrO_done hF dn1
   exact metQ (v1.1,v1.2.1) [] hF
 ·intro v hF
  unfold wal_Notes_J1 at hF
  refine LR0 ?_
  cases hF
  exact Wz [] hfin

/- file.fault -/
noncomputable def file_fault (code at0:Int):Fault:=
 (⟨code,at0⟩:Fault)
theorem file_fault_ok (code at0:Int) (r:Fault) (hF:file_fault code at0=r):Pe Tryz.prog 120 S.none [.i code,.i at0] (.agg (c_Fault r)) S.none:=by
 refine PT 8 [.cell 4 35] [35] Tryz.func120 ?_
 intro Q g hfin
 unfold file_fault at hF
 refine LR0 ?_
 refine LR0 ?_
 cases hF
 exact Wz [] hfin

/- wire.Opened -/
noncomputable def wire_Opened_v1_J1 (v:List (List UInt8)×Int):Option (List (List UInt8)×Int):=
 some (v.1,v.2)
noncomputable def wire_Opened_v1_B1 (b:List UInt8) (v1:List (List UInt8)×Int):Option ((List (List UInt8)×Int)⊕(List (List UInt8)×Int)):=
 if (decide (6≤(w64 ((b.length:Int) - v1.2))))=true then
  asrt (0≤v1.2∧v1.2<(b.length:Int)) <|
  asrt (0≤w64 (v1.2+1)∧w64 (v1.2+1)<(b.length:Int)) <|
  lt (bitsOp .or .i64 (w64 ((w64 ((lget b v1.2).toNat:Int))*2 ^ (min (8:Int).toNat 64))) (w64 ((lget b (w64 (v1.2+1))).toNat:Int))) fun (v2:Int)=>
  if (decide ((b.length:Int)<(w64 ((w64 ((w64 (v1.2+2))+v2))+4))))=true then
   inrO (wire_Opened_v1_J1 (v1.1,v1.2))
  else
   asrt (0≤v1.2∧v1.2≤w64 ((w64 (v1.2+2))+v2)∧w64 ((w64 (v1.2+2))+v2)≤(b.length:Int)) <|
   ob (wire_Crc (ldrop (ltake b (w64 ((w64 (v1.2+2))+v2))) v1.2)) fun x=>
   asrt (0≤w64 ((w64 (v1.2+2))+v2)∧w64 ((w64 (v1.2+2))+v2)≤w64 ((w64 ((w64 (v1.2+2))+v2))+4)∧w64 ((w64 ((w64 (v1.2+2))+v2))+4)≤(b.length:Int)) <|
   ob (slices_Equal_byte_byte (ldrop (ltake b (w64 ((w64 ((w64 (v1.2+2))+v2))+4))) (w64 ((w64 (v1.2+2))+v2))) ([toU8 (Int.fdiv x (2 ^ (min (24:Int).toNat 32))),toU8 (Int.fdiv x (2 ^ (min (16:Int).toNat 32))),toU8 (Int.fdiv x (2 ^ (min (8:Int).toNat 32))),toU8 x]:List UInt8)) fun x1=>
   if (!x1)=true then
    inrO (wire_Opened_v1_J1 (v1.1,v1.2))
   else
    asrt (0≤w64 (v1.2+2)∧w64 (v1.2+2)≤w64 ((w64 (v1.2+2))+v2)∧w64 ((w64 (v1.2+2))+v2)≤(b.length:Int)) <|
    ob (slices_Clone_byte_byte (ldrop (ltake b (w64 ((w64 (v1.2+2))+v2))) (w64 (v1.2+2)))) fun x2=>
    asrt (((v1.1++([x2]:List (List UInt8))).length:Int)*24≤140737488351232) <|
    some (Sum.inl ((v1.1++([x2]:List (List UInt8))),w64 ((w64 ((w64 (v1.2+2))+v2))+4)))
 else
  inrO (wire_Opened_v1_J1 (v1.1,v1.2))
noncomputable def wire_Opened_v1_L1 (b:List UInt8) (v0:List (List UInt8)×Int):Option (List (List UInt8)×Int):=
 loopO (fun y=>wire_Opened_v1_B1 b y) v0
noncomputable def wire_Opened_v1 (b:List UInt8):Option (List (List UInt8)×Int):=
 wire_Opened_v1_L1 b (([]:List (List UInt8)),0)
theorem wire_Opened_v1_ok (b:List UInt8) (r:List (List UInt8)×Int) (hF:wire_Opened_v1 b=some r):Pe Tryz.prog 118 S.none [.sl 1 (b.map e_u8)] (.tup [.sl 1 (r.1.map e_L_u8),.i r.2]) S.none:=by
 refine PT 71 [.tmp 2,.tmp 3] [25,3] Tryz.func118 ?_
 intro Q g hfin
 unfold wire_Opened_v1 at hF
 refine NR [] [0,2,3] [] [] [(0,.sl 1 (b.map e_u8)),(2,.nils),(3,.i 0)] .nil ?_
 refine NmeetP (fun v:List (List UInt8)×Int=>(⟨[(2,.row 66 0),(3,.i v.2)],[],[(66,.z 22 1 0 (v.1.map e_L_u8))],[],[]⟩:S)) (fun v=>wire_Opened_v1_J1 v=some r) ?_ ?_
 ·refine Nblk ?_
  unfold wire_Opened_v1_L1 at hF
  refine Wk_nilrow 2 60000 22 1 rfl rfl rfl ?_
  refine Wk_trim (fs:=[0,2,3]) (bs:=[]) (rs:=[60000]) (ms:=[]) (aa:=[]) (nv:=[]) rfl ?_
  refine Wk_ren' ⟨[],[(60000,66)],[],[]⟩ rfl ?_
  refine Nitq (fun v1:List (List UInt8)×Int=>(⟨[(0,.sl 1 (b.map e_u8)),(2,.row 66 0),(3,.i v1.2)],[],[(66,.z 22 1 0 (v1.1.map e_L_u8))],[],[]⟩:S)) [] hF ?_
  intro n1 v1 y1 hF ih1 dn1
  unfold wire_Opened_v1_B1 at hF
  refine LR [.nat (b.length:Int)] (hc (len_ok e_u8 b) .nil) ?_
  refine Nif hF ?_ ?_ <;> intro hb hF
  ·refine Nblk ?_
   obtain ⟨h0,h1,hF⟩:=asrt2 hF
   refine NDL (bitsOp .or .i64 (w64 ((w64 ((lget b v1.2).toNat:Int))*2 ^ (min (8:Int).toNat 64))) (w64 ((lget b (w64 (v1.2+1))).toNat:Int))) (fun v2:Int=>([(4,.i v2)],[],[],[])) [.av (e_u8 (lget b v1.2)),.av (e_u8 (lget b (w64 (v1.2+1))))] [0,2,3,4] [] [66] [] (hc (idx_ok e_u8 h0) (hc (by decide:(0:Int)≤8) (hc (idx_ok e_u8 h1) .nil))) (fun v2 hv=>?_)
   have hF:=lt_elim hF hv
   refine LR0 ?_
   refine LR [.nat (b.length:Int)] (hc (len_ok e_u8 b) .nil) ?_
   refine Nif hF ?_ ?_ <;> intro hb hF
   ·refine Nexit rfl ?_
    have hF:=inrO_done hF dn1
    exact metQ (v1.1,v1.2) [] hF
   ·obtain ⟨h2,hF⟩:=aE hF
    obtain ⟨x,h3,hF⟩:=oE hF
    refine LR [.xs ((ldrop (ltake b (w64 ((w64 (v1.2+2))+v2))) v1.2).map e_u8),.callB (.int .u32 x)] (hc (sl11_ok e_u8 h2) (hc (wire_Crc_ok (ldrop (ltake b (w64 ((w64 (v1.2+2))+v2))) v1.2) x h3) .nil)) ?_
    obtain ⟨h4,hF⟩:=aE hF
    obtain ⟨x1,h5,hF⟩:=oE hF
    refine LR [.xs ((ldrop (ltake b (w64 ((w64 ((w64 (v1.2+2))+v2))+4))) (w64 ((w64 (v1.2+2))+v2))).map e_u8),.sealed,.callB (.bool x1)] (hc (sl11_ok e_u8 h4) (hc (by decide:(0:Int)≤24) (hc (by decide:(0:Int)≤16) (hc (by decide:(0:Int)≤8) (hc (slices_Equal_byte_byte_ok (ldrop (ltake b (w64 ((w64 ((w64 (v1.2+2))+v2))+4))) (w64 ((w64 (v1.2+2))+v2))) ([toU8 (Int.fdiv x (2 ^ (min (24:Int).toNat 32))),toU8 (Int.fdiv x (2 ^ (min (16:Int).toNat 32))),toU8 (Int.fdiv x (2 ^ (min (8:Int).toNat 32))),toU8 x]:List UInt8) x1 h5) .nil))))) ?_
    refine Nif hF ?_ ?_ <;> intro hb hF
    ·refine Nexit rfl ?_
     have hF:=inrO_done hF dn1
     exact metQ (v1.1,v1.2) [] hF
    ·obtain ⟨h6,hF⟩:=aE hF
     obtain ⟨x2,h7,hF⟩:=oE hF
     have p8:=(Pe.ren (slices_Clone_byte_byte_ok (ldrop (ltake b (w64 ((w64 (v1.2+2))+v2))) (w64 (v1.2+2))) x2 h7) ⟨[],[(5,64)],[],[]⟩)
     obtain ⟨h9,hF⟩:=aE hF
     refine LR [.xs ((ldrop (ltake b (w64 ((w64 (v1.2+2))+v2))) (w64 (v1.2+2))).map e_u8),cE [] [] [] [] p8,.sealed,.xs ((v1.1++([x2]:List (List UInt8))).map e_L_u8)] (hc (sl11_ok e_u8 h6) (hc p8 (hc (app_ok e_L_u8 v1.1 ([x2]:List (List UInt8))) (hc (appl_ok e_L_u8 h9) .nil)))) ?_
     refine LR0 ?_
     exact Nrnq [(66,⟨0,true,true,false⟩)] hF ih1
  ·refine Nexit rfl ?_
   have hF:=inrO_done hF dn1
   exact metQ (v1.1,v1.2) [] hF
 ·intro v hF
  unfold wire_Opened_v1_J1 at hF
  refine LR0 ?_
  cases hF
  exact Wz [] hfin

/- wire.Read -/
noncomputable def wire_Read_v1 (b:List UInt8):Reader:=
 (⟨b,false⟩:Reader)
theorem wire_Read_v1_ok (b:List UInt8) (r:Reader) (hF:wire_Read_v1 b=r):Pe Tryz.prog 149 (.w []) [.sl 1 (b.map e_u8)] (.ptr 5 0) ⟨[],[(5,(c_Reader r))],[],[],[]⟩:=by
 refine PT 6 [.tmp 2] [171] Tryz.func149 ?_
 intro Q g hfin
 unfold wire_Read_v1 at hF
 refine LR0 ?_
 refine LR0 ?_
 cases hF
 exact Wz [] hfin

/- file.open -/
noncomputable def file_open_J1 (x1:List (List UInt8)×Int) (v:List (List UInt8)×Reader):Option (Bool×opened×Fault):=
 lt (wire_Reader_Ok v.2) fun x4=>
 if (!x4)=true then
  lt (file_fault 5 1) fun x5=>
  some (false,default,x5)
 else
  some (true,(⟨(ltake x1.1 (w64 ((x1.1.length:Int) - 2))),v.1,(lget x1.1 (w64 ((w64 ((x1.1.length:Int) - 2))+1)))⟩:opened),(⟨0,0⟩:Fault))
noncomputable def file_open_B1 (x1:List (List UInt8)×Int) (v1:List (List UInt8)×Reader×Int):Option ((List (List UInt8)×Reader×Int)⊕(Bool×opened×Fault)):=
 if (decide (v1.2.2<(w64 ((x1.1.length:Int) - 2))))=true then
  ob (wire_Reader_Text v1.2.1) fun x6=>
  asrt (((v1.1++([x6.1]:List (List UInt8))).length:Int)*16≤140737488351232) <|
  ob (wire_Reader_Num x6.2) fun x7=>
  asrt (0≤v1.2.2∧v1.2.2<(x1.1.length:Int)) <|
  if (!decide (x7.1=((lget x1.1 v1.2.2).length:Int)))=true then
   lt (file_fault 5 1) fun x8=>
   some (Sum.inr (false,default,x8))
  else
   some (Sum.inl ((v1.1++([x6.1]:List (List UInt8))),x7.2,w64 (v1.2.2+1)))
 else
  inrO (file_open_J1 x1 (v1.1,v1.2.1))
noncomputable def file_open_L1 (x1:List (List UInt8)×Int) (v0:List (List UInt8)×Reader×Int):Option (Bool×opened×Fault):=
 loopO (fun y=>file_open_B1 x1 y) v0
noncomputable def file_open (b:List UInt8):Option (Bool×opened×Fault):=
 if (decide (60000<(b.length:Int)))=true then
  lt (file_fault 8 0) fun x=>
  some (false,default,x)
 else
  ob (wire_Opened_v1 b) fun x1=>
  asrt ((!((!decide (x1.2=(b.length:Int)))||(decide ((w64 ((x1.1.length:Int) - 2))<0))))=true→0≤w64 ((w64 ((x1.1.length:Int) - 2))+1)∧w64 ((w64 ((x1.1.length:Int) - 2))+1)<(x1.1.length:Int)) <|
  if (((!decide (x1.2=(b.length:Int)))||(decide ((w64 ((x1.1.length:Int) - 2))<0)))||(decide (((lget x1.1 (w64 ((w64 ((x1.1.length:Int) - 2))+1))).length:Int)=0)))=true then
   lt (file_fault 5 0) fun x2=>
   some (false,default,x2)
  else
   asrt (0≤w64 ((x1.1.length:Int) - 2)∧w64 ((x1.1.length:Int) - 2)≤(x1.1.length:Int)) <|
   asrt (0≤w64 ((w64 ((x1.1.length:Int) - 2))+1)∧w64 ((w64 ((x1.1.length:Int) - 2))+1)<(x1.1.length:Int)) <|
   asrt (0≤w64 ((x1.1.length:Int) - 2)∧w64 ((x1.1.length:Int) - 2)<(x1.1.length:Int)) <|
   lt (wire_Read_v1 (lget x1.1 (w64 ((x1.1.length:Int) - 2)))) fun x3=>
   file_open_L1 x1 (([]:List (List UInt8)),x3,0)
theorem file_open_ok (b:List UInt8) (r:Bool×opened×Fault) (hF:file_open b=some r):Pe Tryz.prog 155 S.none [.sl 1 (b.map e_u8)] (.tup [.popt r.1 (.rp (.agg (c_opened r.2.1))),.agg (c_Fault r.2.2)]) S.none:=by
 refine PT 86 [.tmp 2,.cell 3 35] [179,35] Tryz.func155 ?_
 intro Q g hfin
 unfold file_open at hF
 refine LR0 ?_
 refine LR [.nat (b.length:Int)] (hc (len_ok e_u8 b) .nil) ?_
 refine Nif hF ?_ ?_ <;> intro hb hF
 ·obtain ⟨x,h0,hF⟩:=lS hF
  refine VR [.callB (.agg (c_Fault x))] [2,3] [3] [] [] [(2,.nilp),(3,.ptr 3 0)] [(3,(c_Fault x))] [] [] (hc (file_fault_ok 8 0 x h0) .nil) ?_
  cases hF
  refine Wk_coe 2 (.popt false (.rp (.agg (c_opened default)))) rfl (.cell rfl (CoeS.popF _)) ?_
  exact Wz [] hfin
 ·obtain ⟨x1,h1,hF⟩:=oE hF
  refine LR [.call (.tup [.sl 1 (x1.1.map e_L_u8),.i x1.2])] (hc (wire_Opened_v1_ok b x1 h1) .nil) ?_
  refine LR [.nat (x1.1.length:Int)] (hc (len_ok e_L_u8 x1.1) .nil) ?_
  obtain ⟨h2,hF⟩:=aE hF
  refine LR [.nat (b.length:Int),.av (e_L_u8 (lget x1.1 (w64 ((w64 ((x1.1.length:Int) - 2))+1)))),.nat ((lget x1.1 (w64 ((w64 ((x1.1.length:Int) - 2))+1))).length:Int)] (hc (len_ok e_u8 b) (hc (fun (ga0:(!((!decide (x1.2=(b.length:Int)))||(decide ((w64 ((x1.1.length:Int) - 2))<0))))=true)=>(idx_ok e_L_u8 (h2 ga0))) (hc (fun (_:(!((!decide (x1.2=(b.length:Int)))||(decide ((w64 ((x1.1.length:Int) - 2))<0))))=true)=>(len_ok e_u8 (lget x1.1 (w64 ((w64 ((x1.1.length:Int) - 2))+1))))) .nil))) ?_
  refine Nif hF ?_ ?_ <;> intro hb hF
  ·obtain ⟨x2,h3,hF⟩:=lS hF
   refine VR [.callB (.agg (c_Fault x2))] [2,3] [3] [] [] [(2,.nilp),(3,.ptr 3 0)] [(3,(c_Fault x2))] [] [] (hc (file_fault_ok 5 0 x2 h3) .nil) ?_
   cases hF
   refine Wk_coe 2 (.popt false (.rp (.agg (c_opened default)))) rfl (.cell rfl (CoeS.popF _)) ?_
   exact Wz [] hfin
  ·obtain ⟨h4,hF⟩:=aE hF
   obtain ⟨h5,hF⟩:=aE hF
   refine LD [.xs ((ltake x1.1 (w64 ((x1.1.length:Int) - 2))).map e_L_u8),.av (e_L_u8 (lget x1.1 (w64 ((w64 ((x1.1.length:Int) - 2))+1))))] (hc (sl01_ok e_L_u8 h4) (hc (idx_ok e_L_u8 h5) .nil)) ?_
   obtain ⟨h6,hF⟩:=aE hF
   obtain ⟨x3,h7,hF⟩:=lS hF
   have p8:=(Pe.ren (wire_Read_v1_ok (lget x1.1 (w64 ((x1.1.length:Int) - 2))) x3 h7) ⟨[(5,54)],[],[],[]⟩)
   refine LR [.av (e_L_u8 (lget x1.1 (w64 ((x1.1.length:Int) - 2)))),cE [] [] [] [] p8] (hc (idx_ok e_L_u8 h6) (hc p8 .nil)) ?_
   refine VR [] [3,4,7,8,55,56] [3,49,54] [] [] [(3,.ptr 3 0),(4,.sl 1 (x1.1.map e_L_u8)),(7,.ptr 49 0),(8,.ptr 54 0),(55,.i (w64 ((x1.1.length:Int) - 2))),(56,.i 0)] [(3,[.i 0,.i 0]),(49,[.sl 1 ((ltake x1.1 (w64 ((x1.1.length:Int) - 2))).map e_L_u8),.nils,.sl 1 ((lget x1.1 (w64 ((w64 ((x1.1.length:Int) - 2))+1))).map e_u8)]),(54,(c_Reader x3))] [] [] .nil ?_
   refine NmeetP (fun v:List (List UInt8)×Reader=>(⟨[(3,.ptr 3 0),(7,.ptr 49 0),(8,.ptr 54 0)],[(3,[.i 0,.i 0]),(49,[.sl 1 ((ltake x1.1 (w64 ((x1.1.length:Int) - 2))).map e_L_u8),.row 67 0,.sl 1 ((lget x1.1 (w64 ((w64 ((x1.1.length:Int) - 2))+1))).map e_u8)]),(54,(c_Reader v.2))],[(67,.z 9 1 0 (v.1.map e_str))],[],[]⟩:S)) (fun v=>file_open_J1 x1 v=some r) ?_ ?_
   ·refine Nblk ?_
    unfold file_open_L1 at hF
    refine Wk_nilrowB 49 1 60000 9 1 rfl rfl rfl rfl rfl ?_
    refine Wk_trim (fs:=[3,4,7,8,55,56]) (bs:=[3,49,54]) (rs:=[60000]) (ms:=[]) (aa:=[]) (nv:=[]) rfl ?_
    refine Wk_ren' ⟨[],[(60000,67)],[],[]⟩ rfl ?_
    refine Nitq (fun v1:List (List UInt8)×Reader×Int=>(⟨[(3,.ptr 3 0),(4,.sl 1 (x1.1.map e_L_u8)),(7,.ptr 49 0),(8,.ptr 54 0),(55,.i (w64 ((x1.1.length:Int) - 2))),(56,.i v1.2.2)],[(3,[.i 0,.i 0]),(49,[.sl 1 ((ltake x1.1 (w64 ((x1.1.length:Int) - 2))).map e_L_u8),.row 67 0,.sl 1 ((lget x1.1 (w64 ((w64 ((x1.1.length:Int) - 2))+1))).map e_u8)]),(54,(c_Reader v1.2.1))],[(67,.z 9 1 0 (v1.1.map e_str))],[],[]⟩:S)) [] hF ?_
    intro n1 v1 y1 hF ih1 dn1
    unfold file_open_B1 at hF
    refine LR0 ?_
    refine Nif hF ?_ ?_ <;> intro hb hF
    ·refine Nblk ?_
     refine LR0 ?_
     obtain ⟨x6,h11,hF⟩:=oE hF
     have p12:=(Pe.ren (wire_Reader_Text_ok v1.2.1 x6 h11) ⟨[(100000,54)],[],[],[]⟩)
     obtain ⟨h13,hF⟩:=aE hF
     refine LD [cE [54] [] [] [] p12,.sealed,.xs ((v1.1++([x6.1]:List (List UInt8))).map e_str)] (hc p12 (hc (app_ok e_str v1.1 ([x6.1]:List (List UInt8))) (hc (appl_ok e_str h13) .nil))) ?_
     obtain ⟨x7,h14,hF⟩:=oE hF
     have p15:=(Pe.ren (wire_Reader_Num_ok x6.2 x7 h14) ⟨[(100000,54)],[],[],[]⟩)
     obtain ⟨h16,hF⟩:=aE hF
     refine LD [cE [54] [] [] [] p15,.av (e_L_u8 (lget x1.1 v1.2.2)),.nat ((lget x1.1 v1.2.2).length:Int)] (hc p15 (hc (idx_ok e_L_u8 h16) (hc (len_ok e_u8 (lget x1.1 v1.2.2)) .nil))) ?_
     refine Nif hF ?_ ?_ <;> intro hb hF
     ·obtain ⟨x8,h17,hF⟩:=lS hF
      refine VR [.callB (.agg (c_Fault x8))] [2,3] [3] [] [] [(2,.nilp),(3,.ptr 3 0)] [(3,(c_Fault x8))] [] [] (hc (file_fault_ok 5 1 x8 h17) .nil) ?_
      have hF:=ret_done hF dn1
      cases hF
      refine Wk_coe 2 (.popt false (.rp (.agg (c_opened default)))) rfl (.cell rfl (CoeS.popF _)) ?_
      exact Wz [] hfin
     ·refine LR0 ?_
      exact Nrnq [(67,⟨0,true,true,false⟩)] hF ih1
    ·refine Nexit rfl ?_
     have hF:=inrO_done hF dn1
     exact metQ (v1.1,v1.2.1) [] hF
   ·intro v hF
    unfold file_open_J1 at hF
    obtain ⟨x4,h9,hF⟩:=lS hF
    refine LR [.callR [54] [] [] [] (.bool x4)] (hc (Pe.ren (wire_Reader_Ok_ok v.2 x4 h9) ⟨[(100000,54)],[],[],[]⟩) .nil) ?_
    refine Nif hF ?_ ?_ <;> intro hb hF
    ·obtain ⟨x5,h10,hF⟩:=lS hF
     refine VR [.callB (.agg (c_Fault x5))] [2,3] [3] [] [] [(2,.nilp),(3,.ptr 3 0)] [(3,(c_Fault x5))] [] [] (hc (file_fault_ok 5 1 x5 h10) .nil) ?_
     cases hF
     refine Wk_coe 2 (.popt false (.rp (.agg (c_opened default)))) rfl (.cell rfl (CoeS.popF _)) ?_
     exact Wz [] hfin
    ·refine VR [] [2,3] [3,49] [67] [] [(2,.ptr 49 0),(3,.ptr 3 0)] [(3,[.i 0,.i 0]),(49,[.sl 1 ((ltake x1.1 (w64 ((x1.1.length:Int) - 2))).map e_L_u8),.row 67 0,.sl 1 ((lget x1.1 (w64 ((w64 ((x1.1.length:Int) - 2))+1))).map e_u8)])] [(67,.z 9 1 0 (v.1.map e_str))] [] .nil ?_
     refine Wk_sealBX [] 49 rfl rfl ?_
     refine Wk_rpBx 2 49 [3] [3] [] [] rfl rfl rfl rfl rfl rfl rfl (by kernel_rfl) rfl ?_
     cases hF
     refine Wk_coe 2 (.popt true (.rp (.agg [.sl 1 ((ltake x1.1 (w64 ((x1.1.length:Int) - 2))).map e_L_u8),.sl 1 (v.1.map e_str),.sl 1 ((lget x1.1 (w64 ((w64 ((x1.1.length:Int) - 2))+1))).map e_u8)]))) rfl (.cell rfl (CoeS.popT _)) ?_
     exact Wz [] hfin

/- (*file.opened).cells -/
noncomputable def file_opened_cells_J1 (v:List Cell):Option (List Cell×Bool):=
 ob (cell_Check v) fun x=>
 some (v,decide (x.Code=0))
noncomputable def file_opened_cells_B1 (to0:Int) (v1:opened×List Cell×Int):Option ((opened×List Cell×Int)⊕(List Cell×Bool)):=
 if (decide (v1.2.2<to0))=true then
  asrt (0≤v1.2.2∧v1.2.2<(v1.1.bodies.length:Int)) <|
  ob (cell_Read (lget v1.1.bodies v1.2.2)) fun x1=>
  asrt ((!((!decide (x1.2.Code=0))||(decide ((x1.1.length:Int)=0))))=true→0≤(0:Int)∧0<(x1.1.length:Int)) <|
  asrt ((!((!decide (x1.2.Code=0))||(decide ((x1.1.length:Int)=0))))=true→0≤(0:Int)∧0<(x1.1.length:Int)) <|
  asrt ((!((!decide (x1.2.Code=0))||(decide ((x1.1.length:Int)=0))))=true→0≤v1.2.2∧v1.2.2<(v1.1.rows.length:Int)) <|
  if (((!decide (x1.2.Code=0))||(decide ((x1.1.length:Int)=0)))||(!decide (((lget x1.1 0).Row)=(lget v1.1.rows v1.2.2))))=true then
   some (Sum.inr (([]:List Cell),false))
  else
   asrt (((v1.2.1++x1.1).length:Int)*64≤140737488351232) <|
   some (Sum.inl (v1.1,(v1.2.1++x1.1),w64 (v1.2.2+1)))
 else
  inrO (file_opened_cells_J1 v1.2.1)
noncomputable def file_opened_cells_L1 (to0:Int) (v0:opened×List Cell×Int):Option (List Cell×Bool):=
 loopO (fun y=>file_opened_cells_B1 to0 y) v0
noncomputable def file_opened_cells (o o1:List (List UInt8)) (o2:List UInt8) (from0 to0:Int):Option (List Cell×Bool):=
 file_opened_cells_L1 to0 ((⟨o,o1,o2⟩:opened),([]:List Cell),from0)
theorem file_opened_cells_ok (o o1:List (List UInt8)) (o2:List UInt8) (from0 to0:Int) (r:List Cell×Bool) (hF:file_opened_cells o o1 o2 from0 to0=some r):Pe Tryz.prog 156 (.w []) [.rp (.agg [.sl 1 (o.map e_L_u8),.sl 1 (o1.map e_str),.sl 1 (o2.map e_u8)]),.i from0,.i to0] (.tup [.row 53 0,.bool r.2]) ⟨[],[],[(53,.z 53 5 0 (r.1.map e_Cell))],[],[]⟩:=by
 refine PT 59 [.tmp 6,.tmp 7] [28,4] Tryz.func156 ?_
 intro Q g hfin
 unfold file_opened_cells at hF
 refine LR0 ?_
 refine LR0 ?_
 refine NR [] [0,2,8,9] [] [] [(0,.rp (.agg [.sl 1 (o.map e_L_u8),.sl 1 (o1.map e_str),.sl 1 (o2.map e_u8)])),(2,.i to0),(8,.nils),(9,.i from0)] .nil ?_
 refine NmeetP (fun v:List Cell=>(⟨[(8,.row 53 0)],[],[(53,.z 53 5 0 (v.map e_Cell))],[],[]⟩:S)) (fun v=>file_opened_cells_J1 v=some r) ?_ ?_
 ·refine Nblk ?_
  unfold file_opened_cells_L1 at hF
  refine Wk_nilrow 8 60000 53 5 rfl rfl rfl ?_
  refine Wk_trim (fs:=[0,2,8,9]) (bs:=[]) (rs:=[60000]) (ms:=[]) (aa:=[]) (nv:=[]) rfl ?_
  refine Wk_ren' ⟨[],[(60000,53)],[],[]⟩ rfl ?_
  refine Nitq (fun v1:opened×List Cell×Int=>(⟨[(0,.rp (.agg (c_opened v1.1))),(2,.i to0),(8,.row 53 0),(9,.i v1.2.2)],[],[(53,.z 53 5 0 (v1.2.1.map e_Cell))],[],[]⟩:S)) [] hF ?_
  intro n1 v1 y1 hF ih1 dn1
  unfold file_opened_cells_B1 at hF
  refine LR0 ?_
  refine Nif hF ?_ ?_ <;> intro hb hF
  ·refine Nblk ?_
   obtain ⟨h1,hF⟩:=aE hF
   obtain ⟨x1,h2,hF⟩:=oE hF
   have p3:=(Pe.ren (cell_Read_ok (lget v1.1.bodies v1.2.2) x1 h2) ⟨[],[(30,26)],[],[]⟩)
   refine LR [.av (e_L_u8 (lget v1.1.bodies v1.2.2)),cE [] [] [] [] p3] (hc (idx_ok e_L_u8 h1) (hc p3 .nil)) ?_
   obtain ⟨h4,h5,hF⟩:=asrt2 hF
   obtain ⟨h6,hF⟩:=aE hF
   refine LD [.nat (x1.1.length:Int),.av (e_Cell (lget x1.1 0)),.av (e_str (lget v1.1.rows v1.2.2))] (hc (fun (_:(!(!decide (x1.2.Code=0)))=true)=>(len_ok e_Cell x1.1)) (hc (fun (ga0:(!((!decide (x1.2.Code=0))||(decide ((x1.1.length:Int)=0))))=true)=>(ixr_ok e_Cell (h4 ga0))) (hc (fun (ga0:(!((!decide (x1.2.Code=0))||(decide ((x1.1.length:Int)=0))))=true)=>(ldr_ok e_Cell (h5 ga0))) (hc (fun (ga0:(!((!decide (x1.2.Code=0))||(decide ((x1.1.length:Int)=0))))=true)=>(idx_ok e_str (h6 ga0))) .nil)))) ?_
   refine Nif hF ?_ ?_ <;> intro hb hF
   ·refine NR [] [6,7] [] [] [(6,.nils),(7,.bool false)] .nil ?_
    have hF:=ret_done hF dn1
    cases hF
    refine Wk_nilrow 6 60001 53 5 rfl rfl rfl ?_
    refine Wk_ren' ⟨[],[(60001,53)],[],[]⟩ rfl ?_
    exact Wz [] hfin
   ·obtain ⟨h7,hF⟩:=aE hF
    refine LR [.xs ((v1.2.1++x1.1).map e_Cell)] (hc (app_ok e_Cell v1.2.1 x1.1) (hc (appl_ok e_Cell h7) .nil)) ?_
    refine LR0 ?_
    exact Nrnq [(53,⟨0,true,true,false⟩)] hF ih1
  ·refine Nexit rfl ?_
   have hF:=inrO_done hF dn1
   exact metQ v1.2.1 [] hF
 ·intro v hF
  unfold file_opened_cells_J1 at hF
  obtain ⟨x,h0,hF⟩:=oE hF
  refine LR [.callB (.agg (c_Fault x))] (hc (cell_Check_ok v x h0) .nil) ?_
  cases hF
  exact Wz [] hfin

/- file.spots -/
noncomputable def file_spots_J1 (v:Arr3_3×Arr3_3):Option Arr3_3:=
 some v.2
noncomputable def file_spots (row:List UInt8) (bits:Int):Option Arr3_3:=
 asrt ((row.length:Int)≤140737488351232) <|
 ob (wire_Crc row) fun x=>
 asrt (bits≠0) <|
 lt (Int.tmod (w64 ((Int.tmod (w64 x) 65536)+(w64 (0*(w64 (Int.tdiv (w64 x) 65536)))))) bits) fun (v1:Int)=>
 asrt (bits≠0) <|
 lt (Int.tmod (w64 ((Int.tmod (w64 x) 65536)+(w64 (1*(w64 (Int.tdiv (w64 x) 65536)))))) bits) fun (v2:Int)=>
 asrt (bits≠0) <|
 lt (Int.tmod (w64 ((Int.tmod (w64 x) 65536)+(w64 (2*(w64 (Int.tdiv (w64 x) 65536)))))) bits) fun (v3:Int)=>
 file_spots_J1 ((⟨0,0,0⟩:Arr3_3),(⟨v1,v2,v3⟩:Arr3_3))
theorem file_spots_ok (row:List UInt8) (bits:Int) (r:Arr3_3) (hF:file_spots row bits=some r):Pe Tryz.prog 153 S.none [.str row,.i bits] (.agg (c_Arr3_3 r)) S.none:=by
 refine PT 28 [.cell 4 174] [174] Tryz.func153 ?_
 intro Q g hfin
 unfold file_spots at hF
 refine LR0 ?_
 obtain ⟨h0,hF⟩:=aE hF
 obtain ⟨x,h1,hF⟩:=oE hF
 refine LR [.callB (.int .u32 x)] (hc (bof_ok h0) (hc (wire_Crc_ok row x h1) .nil)) ?_
 refine LR0 ?_
 refine LR0 ?_
 refine NmeetP (fun v:Arr3_3×Arr3_3=>(⟨[(4,.ptr 4 0),(6,.ptr 6 0)],[(4,(c_Arr3_3 v.1)),(6,(c_Arr3_3 v.2))],[],[],[]⟩:S)) (fun v=>file_spots_J1 v=some r) ?_ ?_
 ·refine Nblk ?_
  refine Wk_unroll 9 ?_
  refine Nagain ?_
  refine LR0 ?_
  refine Ntrue (by kernel_rfl) ?_
  refine Nblk ?_
  refine LR0 ?_
  obtain ⟨h2,hF⟩:=aE hF
  refine NRL (Int.tmod (w64 ((Int.tmod (w64 x) 65536)+(w64 (0*(w64 (Int.tdiv (w64 x) 65536)))))) bits) (fun v1:Int=>([],[(6,[.i v1,.i 0,.i 0])],[],[])) [] [1,4,5,6,12] [4,6] [] [] (hc (by decide:(65536:Int)≠0) (hc (by decide:(65536:Int)≠0) (hc h2 (hc (⟨by decide,by decide⟩:(0:Int)≤0∧(0:Int)<((3:Nat):Int)) .nil)))) (fun v1 hv=>?_)
  have hF:=lt_elim hF hv
  refine LR0 ?_
  refine Nagain ?_
  refine LR0 ?_
  refine Ntrue (by kernel_rfl) ?_
  refine Nblk ?_
  refine LR0 ?_
  obtain ⟨h3,hF⟩:=aE hF
  refine NRL (Int.tmod (w64 ((Int.tmod (w64 x) 65536)+(w64 (1*(w64 (Int.tdiv (w64 x) 65536)))))) bits) (fun v2:Int=>([],[(6,[.i v1,.i v2,.i 0])],[],[])) [] [1,4,5,6,12] [4,6] [] [] (hc (by decide:(65536:Int)≠0) (hc (by decide:(65536:Int)≠0) (hc h3 (hc (⟨by decide,by decide⟩:(0:Int)≤1∧(1:Int)<((3:Nat):Int)) .nil)))) (fun v2 hv=>?_)
  have hF:=lt_elim hF hv
  refine LR0 ?_
  refine Nagain ?_
  refine LR0 ?_
  refine Ntrue (by kernel_rfl) ?_
  refine Nblk ?_
  refine LR0 ?_
  obtain ⟨h4,hF⟩:=aE hF
  refine NRL (Int.tmod (w64 ((Int.tmod (w64 x) 65536)+(w64 (2*(w64 (Int.tdiv (w64 x) 65536)))))) bits) (fun v3:Int=>([],[(6,[.i v1,.i v2,.i v3])],[],[])) [] [1,4,5,6,12] [4,6] [] [] (hc (by decide:(65536:Int)≠0) (hc (by decide:(65536:Int)≠0) (hc h4 (hc (⟨by decide,by decide⟩:(0:Int)≤2∧(2:Int)<((3:Nat):Int)) .nil)))) (fun v3 hv=>?_)
  have hF:=lt_elim hF hv
  refine LR0 ?_
  refine Nagain ?_
  refine LR0 ?_
  refine Nfalse (by kernel_rfl) ?_
  refine Nexit rfl ?_
  exact metQ ((⟨0,0,0⟩:Arr3_3),(⟨v1,v2,v3⟩:Arr3_3)) [] hF
 ·intro v hF
  unfold file_spots_J1 at hF
  refine LR0 ?_
  cases hF
  exact Wz [] hfin

/- file.filter -/
noncomputable def file_filter_J2 (v1:List UInt8):Option (List UInt8):=
 some v1
noncomputable def file_filter_J3 (v2:List UInt8×Int) (v3:List UInt8):Option ((List UInt8×Int)⊕(List UInt8)):=
 some (Sum.inl (v3,w64 (v2.2+1)))
noncomputable def file_filter_B1 (l:List Cell) (v2:List UInt8×Int):Option ((List UInt8×Int)⊕(List UInt8)):=
 if (decide (v2.2<(l.length:Int)))=true then
  asrt (0≤v2.2∧v2.2<(l.length:Int)) <|
  ob (file_spots ((lget l v2.2).Row) (w64 (8*(v2.1.length:Int)))) fun x=>
  asrt (0≤w64 (Int.tdiv x.p0 8)∧w64 (Int.tdiv x.p0 8)<(v2.1.length:Int)) <|
  asrt (0≤w64 (Int.tdiv x.p0 8)∧w64 (Int.tdiv x.p0 8)<(v2.1.length:Int)) <|
  asrt (0≤(Int.tmod x.p0 8)) <|
  asrt (0≤w64 (Int.tdiv x.p0 8)∧w64 (Int.tdiv x.p0 8)<(v2.1.length:Int)) <|
  asrt (0≤w64 (Int.tdiv x.p0 8)∧w64 (Int.tdiv x.p0 8)<(v2.1.length:Int)) <|
  lt ((lset v2.1 (w64 (Int.tdiv x.p0 8)) (toU8 (((BitVec.ofInt 8 ((lget v2.1 (w64 (Int.tdiv x.p0 8))).toNat:Int) ||| BitVec.ofInt 8 ((toU8 (((1:UInt8).toNat:Int)*2 ^ (min (Int.tmod x.p0 8).toNat 8))).toNat:Int)).toNat:Int))))) fun (v4:List UInt8)=>
  asrt (0≤w64 (Int.tdiv x.p1 8)∧w64 (Int.tdiv x.p1 8)<(v4.length:Int)) <|
  asrt (0≤w64 (Int.tdiv x.p1 8)∧w64 (Int.tdiv x.p1 8)<(v4.length:Int)) <|
  asrt (0≤(Int.tmod x.p1 8)) <|
  asrt (0≤w64 (Int.tdiv x.p1 8)∧w64 (Int.tdiv x.p1 8)<(v4.length:Int)) <|
  asrt (0≤w64 (Int.tdiv x.p1 8)∧w64 (Int.tdiv x.p1 8)<(v4.length:Int)) <|
  lt ((lset v4 (w64 (Int.tdiv x.p1 8)) (toU8 (((BitVec.ofInt 8 ((lget v4 (w64 (Int.tdiv x.p1 8))).toNat:Int) ||| BitVec.ofInt 8 ((toU8 (((1:UInt8).toNat:Int)*2 ^ (min (Int.tmod x.p1 8).toNat 8))).toNat:Int)).toNat:Int))))) fun (v5:List UInt8)=>
  asrt (0≤w64 (Int.tdiv x.p2 8)∧w64 (Int.tdiv x.p2 8)<(v5.length:Int)) <|
  asrt (0≤w64 (Int.tdiv x.p2 8)∧w64 (Int.tdiv x.p2 8)<(v5.length:Int)) <|
  asrt (0≤(Int.tmod x.p2 8)) <|
  asrt (0≤w64 (Int.tdiv x.p2 8)∧w64 (Int.tdiv x.p2 8)<(v5.length:Int)) <|
  asrt (0≤w64 (Int.tdiv x.p2 8)∧w64 (Int.tdiv x.p2 8)<(v5.length:Int)) <|
  lt ((lset v5 (w64 (Int.tdiv x.p2 8)) (toU8 (((BitVec.ofInt 8 ((lget v5 (w64 (Int.tdiv x.p2 8))).toNat:Int) ||| BitVec.ofInt 8 ((toU8 (((1:UInt8).toNat:Int)*2 ^ (min (Int.tmod x.p2 8).toNat 8))).toNat:Int)).toNat:Int))))) fun (v6:List UInt8)=>
  file_filter_J3 v2 v6
 else
  inrO (file_filter_J2 v2.1)
noncomputable def file_filter_L1 (l:List Cell) (v0:List UInt8×Int):Option (List UInt8):=
 loopO (fun y=>file_filter_B1 l y) v0
noncomputable def file_filter_J1 (l:List Cell) (v:Int):Option (List UInt8):=
 asrt (0≤((max 1 v):Int)∧(max 1 v)≤(max 1 v)∧(max 1 v)*1≤140737488351232) <|
 file_filter_L1 l ((List.replicate (max 1 v).toNat ((0:UInt8):UInt8)),0)
noncomputable def file_filter_B2 (l:List Cell) (v7:Int×Int):Option ((Int×Int)⊕(List UInt8)):=
 if (decide (v7.2<(l.length:Int)))=true then
  asrt (0≤v7.2∧v7.2<(l.length:Int)) <|
  asrt ((!(decide (v7.2=0)))=true→0≤w64 (v7.2 - 1)∧w64 (v7.2 - 1)<(l.length:Int)) <|
  ob (
   if ((decide (v7.2=0))||(!decide (((lget l v7.2).Row)=((lget l (w64 (v7.2 - 1))).Row))))=true then
    some (w64 (v7.1+1))
   else
    some v7.1) fun (v8:Int)=>
  some (Sum.inl (v8,w64 (v7.2+1)))
 else
  inrO (file_filter_J1 l v7.1)
noncomputable def file_filter_L2 (l:List Cell) (v0:Int×Int):Option (List UInt8):=
 loopO (fun y=>file_filter_B2 l y) v0
noncomputable def file_filter (l:List Cell):Option (List UInt8):=
 file_filter_L2 l (0,0)
theorem file_filter_ok (l:List Cell) (r:List UInt8) (hF:file_filter l=some r):Pe Tryz.prog 124 (.w []) [.sl 5 (l.map e_Cell)] (.row 36 0) ⟨[],[],[(36,.o 5 1 0 (r.map e_u8))],[],[]⟩:=by
 refine PT 65 [.tmp 2] [22] Tryz.func124 ?_
 intro Q g hfin
 unfold file_filter at hF
 refine LR0 ?_
 refine LR0 ?_
 refine LR [.nat (l.length:Int)] (hc (len_ok e_Cell l) .nil) ?_
 refine NmeetP (fun v:Int=>(⟨[(0,.sl 5 (l.map e_Cell)),(3,.i v)],[],[],[],[]⟩:S)) (fun v=>file_filter_J1 l v=some r) ?_ ?_
 ·refine Nblk ?_
  unfold file_filter_L2 at hF
  refine Nitq (fun v7:Int×Int=>(⟨[(0,.sl 5 (l.map e_Cell)),(3,.i v7.1),(11,.sl 5 (l.map e_Cell)),(12,.i (l.length:Int)),(13,.i v7.2)],[],[],[],[]⟩:S)) [] hF ?_
  intro n1 v7 y1 hF ih1 dn1
  unfold file_filter_B2 at hF
  refine LR0 ?_
  refine Nif hF ?_ ?_ <;> intro hb hF
  ·refine Nblk ?_
   obtain ⟨h18,hF⟩:=aE hF
   refine LR [.av (e_Cell (lget l v7.2))] (hc (idx_ok e_Cell h18) .nil) ?_
   obtain ⟨h19,hF⟩:=aE hF
   refine LD [.av (e_Cell (lget l (w64 (v7.2 - 1))))] (hc (fun (ga0:(!(decide (v7.2=0)))=true)=>(idx_ok e_Cell (h19 ga0))) .nil) ?_
   obtain ⟨v8,hv,hF⟩:=oE hF
   refine Nmeet (⟨[(0,.sl 5 (l.map e_Cell)),(3,.i v8),(11,.sl 5 (l.map e_Cell)),(12,.i (l.length:Int)),(13,.i v7.2)],[],[],[],[]⟩:S) ?_ ?_
   ·have hF:=hv
    refine Nif hF ?_ ?_ <;> intro hb hF
    ·refine LR0 ?_
     cases hF
     exact met' []
    ·cases hF
     exact met' []
   ·refine LR0 ?_
    exact Nrnq [] hF ih1
  ·refine Nexit rfl ?_
   have hF:=inrO_done hF dn1
   exact metQ v7.1 [] hF
 ·intro v hF
  unfold file_filter_J1 at hF
  obtain ⟨h0,hF⟩:=aE hF
  refine LR [.xs ((List.replicate (max 1 v).toNat ((0:UInt8):UInt8)).map e_u8)] (hc (mk_ok h0) (hc (rep_ok e_u8 (max 1 v) ((0:UInt8):UInt8)) .nil)) ?_
  refine LR [.nat (l.length:Int)] (hc (len_ok e_Cell l) .nil) ?_
  refine NmeetP (fun v1:List UInt8=>(⟨[(6,.row 36 0)],[],[(36,.o 5 1 0 (v1.map e_u8))],[],[]⟩:S)) (fun v1=>file_filter_J2 v1=some r) ?_ ?_
  ·refine Nblk ?_
   unfold file_filter_L1 at hF
   refine Nitq (fun v2:List UInt8×Int=>(⟨[(6,.row 36 0),(37,.sl 5 (l.map e_Cell)),(38,.i (l.length:Int)),(39,.i v2.2)],[],[(36,.o 5 1 0 (v2.1.map e_u8))],[],[]⟩:S)) [] hF ?_
   intro n1 v2 y1 hF ih1 dn1
   unfold file_filter_B1 at hF
   refine LR0 ?_
   refine Nif hF ?_ ?_ <;> intro hb hF
   ·refine Nblk ?_
    obtain ⟨h1,hF⟩:=aE hF
    refine LR [.av (e_Cell (lget l v2.2))] (hc (idx_ok e_Cell h1) .nil) ?_
    obtain ⟨x,h2,hF⟩:=oE hF
    refine LR [.nat (v2.1.length:Int),.callB (.agg (c_Arr3_3 x))] (hc (len_ok e_u8 v2.1) (hc (file_spots_ok ((lget l v2.2).Row) (w64 (8*(v2.1.length:Int))) x h2) .nil)) ?_
    refine NmeetP (fun v3:List UInt8=>(⟨[(6,.row 36 0),(37,.sl 5 (l.map e_Cell)),(38,.i (l.length:Int)),(39,.i v2.2)],[],[(36,.o 5 1 0 (v3.map e_u8))],[],[]⟩:S)) (fun v3=>file_filter_J3 v2 v3=some y1) ?_ ?_
    ·refine Nblk ?_
     refine Wk_unroll 9 ?_
     refine Nagain ?_
     refine LR0 ?_
     refine Ntrue (by kernel_rfl) ?_
     refine Nblk ?_
     refine LR [] (hc (⟨by decide,by decide⟩:(0:Int)≤0∧(0:Int)<((3:Nat):Int)) .nil) ?_
     obtain ⟨h3,h4,h5,h6,hF⟩:=asrt4 hF
     obtain ⟨h7,hF⟩:=aE hF
     obtain ⟨v4,hv,hF⟩:=lS hF
     refine LD [.av (e_u8 (lget v2.1 (w64 (Int.tdiv x.p0 8)))),.av (e_u8 (lget v2.1 (w64 (Int.tdiv x.p0 8)))),.xs (v4.map e_u8)] (hc (by decide:(8:Int)≠0) (hc (ixr_ok e_u8 h3) (hc (ldr_ok e_u8 h4) (hc (by decide:(8:Int)≠0) (hc h5 (hc (ixr_ok e_u8 h6) (hc (ldr_ok e_u8 h7) (hc (setN e_u8 hv) (hc (Nat.zero_le ((w64 (Int.tdiv x.p0 8)).toNat)) .nil))))))))) ?_
     refine LR0 ?_
     refine Nagain ?_
     refine LR0 ?_
     refine Ntrue (by kernel_rfl) ?_
     refine Nblk ?_
     refine LR [] (hc (⟨by decide,by decide⟩:(0:Int)≤1∧(1:Int)<((3:Nat):Int)) .nil) ?_
     obtain ⟨h8,h9,h10,h11,hF⟩:=asrt4 hF
     obtain ⟨h12,hF⟩:=aE hF
     obtain ⟨v5,hv,hF⟩:=lS hF
     refine LD [.av (e_u8 (lget v4 (w64 (Int.tdiv x.p1 8)))),.av (e_u8 (lget v4 (w64 (Int.tdiv x.p1 8)))),.xs (v5.map e_u8)] (hc (by decide:(8:Int)≠0) (hc (ixr_ok e_u8 h8) (hc (ldr_ok e_u8 h9) (hc (by decide:(8:Int)≠0) (hc h10 (hc (ixr_ok e_u8 h11) (hc (ldr_ok e_u8 h12) (hc (setN e_u8 hv) (hc (Nat.zero_le ((w64 (Int.tdiv x.p1 8)).toNat)) .nil))))))))) ?_
     refine LR0 ?_
     refine Nagain ?_
     refine LR0 ?_
     refine Ntrue (by kernel_rfl) ?_
     refine Nblk ?_
     refine LR [] (hc (⟨by decide,by decide⟩:(0:Int)≤2∧(2:Int)<((3:Nat):Int)) .nil) ?_
     obtain ⟨h13,h14,h15,h16,hF⟩:=asrt4 hF
     obtain ⟨h17,hF⟩:=aE hF
     obtain ⟨v6,hv,hF⟩:=lS hF
     refine LD [.av (e_u8 (lget v5 (w64 (Int.tdiv x.p2 8)))),.av (e_u8 (lget v5 (w64 (Int.tdiv x.p2 8)))),.xs (v6.map e_u8)] (hc (by decide:(8:Int)≠0) (hc (ixr_ok e_u8 h13) (hc (ldr_ok e_u8 h14) (hc (by decide:(8:Int)≠0) (hc h15 (hc (ixr_ok e_u8 h16) (hc (ldr_ok e_u8 h17) (hc (setN e_u8 hv) (hc (Nat.zero_le ((w64 (Int.tdiv x.p2 8)).toNat)) .nil))))))))) ?_
     refine LR0 ?_
     refine Nagain ?_
     refine LR0 ?_
     refine Nfalse (by kernel_rfl) ?_
     refine Nexit rfl ?_
     exact metQ v6 [] hF
    ·intro v3 hF
     unfold file_filter_J3 at hF
     refine LR0 ?_
     exact Nrnq [] hF ih1
   ·refine Nexit rfl ?_
    have hF:=inrO_done hF dn1
    exact metQ v2.1 [] hF
  ·intro v1 hF
   unfold file_filter_J2 at hF
   refine LR0 ?_
   cases hF
   exact Wz [] hfin

/- file.Open -/
noncomputable def file_Open (b:List UInt8):Option (List Cell×Fault):=
 ob (file_open b) fun x=>
 if (!decide (x.2.2.Code=0))=true then
  some (([]:List Cell),x.2.2)
 else
  asrt (x.1=true) <|
  ob (file_opened_cells x.2.1.bodies x.2.1.rows x.2.1.filter 0 (x.2.1.bodies.length:Int)) fun x1=>
  if ((!x1.2)||(decide (500<(x1.1.length:Int))))=true then
   lt (file_fault 5 2) fun x2=>
   some (([]:List Cell),x2)
  else
   ob (file_filter x1.1) fun x3=>
   ob (slices_Equal_byte_byte x3 x.2.1.filter) fun x4=>
   if (!x4)=true then
    lt (file_fault 5 3) fun x5=>
    some (([]:List Cell),x5)
   else
    some (x1.1,x.2.2)
theorem file_Open_ok (b:List UInt8) (r:List Cell×Fault) (hF:file_Open b=some r):Pe Tryz.prog 130 (.w []) [.sl 1 (b.map e_u8)] (.tup [.row 24 0,.agg (c_Fault r.2)]) ⟨[],[],[(24,⟨53,5,0,(r.1.map e_Cell).length,0,true,0,[],(r.1.map e_Cell)⟩)],[],[]⟩:=by
 refine PT 46 [.tmp 2,.cell 3 35] [28,35] Tryz.func130 ?_
 intro Q g hfin
 unfold file_Open at hF
 refine LR0 ?_
 obtain ⟨x,h0,hF⟩:=oE hF
 refine LR [.call (.tup [.popt x.1 (.rp (.agg (c_opened x.2.1))),.agg (c_Fault x.2.2)])] (hc (file_open_ok b x h0) .nil) ?_
 refine VR [] [3,4,5,15] [3,5] [] [] [(3,.ptr 3 0),(4,.popt x.1 (.rp (.agg (c_opened x.2.1)))),(5,.ptr 5 0),(15,.bool (!decide (x.2.2.Code=0)))] [(3,[.i 0,.i 0]),(5,(c_Fault x.2.2))] [] [] .nil ?_
 refine Nif hF ?_ ?_ <;> intro hb hF
 ·refine VD [] [2,3] [3] [] [] [(2,.nils),(3,.ptr 3 0)] [(3,(c_Fault x.2.2))] [] [] .nil ?_
  cases hF
  refine Wk_nilrow 2 60000 53 5 rfl rfl rfl ?_
  refine Wk_ren' ⟨[],[(60000,24)],[],[]⟩ rfl ?_
  exact Wz [(24,⟨0,true,true,true⟩)] hfin
 ·obtain ⟨h1,hF⟩:=aE hF
  refine Wk_coe 4 (.rp (.agg (c_opened x.2.1))) rfl (.cell rfl (CoeS.unp h1)) ?_
  obtain ⟨x1,h2,hF⟩:=oE hF
  have p3:=(Pe.ren (file_opened_cells_ok x.2.1.bodies x.2.1.rows x.2.1.filter 0 (x.2.1.bodies.length:Int) x1 h2) ⟨[],[(53,24)],[],[]⟩)
  refine LR [.nat (x.2.1.bodies.length:Int),cE [] [] [] [] p3] (hc (len_ok e_L_u8 x.2.1.bodies) (hc p3 .nil)) ?_
  refine LR [.nat (x1.1.length:Int)] (hc (fun (_:(!(!x1.2))=true)=>(len_ok e_Cell x1.1)) .nil) ?_
  refine Nif hF ?_ ?_ <;> intro hb hF
  ·obtain ⟨x2,h4,hF⟩:=lS hF
   refine VR [.callB (.agg (c_Fault x2))] [2,3] [3] [] [] [(2,.nils),(3,.ptr 3 0)] [(3,(c_Fault x2))] [] [] (hc (file_fault_ok 5 2 x2 h4) .nil) ?_
   cases hF
   refine Wk_nilrow 2 60001 53 5 rfl rfl rfl ?_
   refine Wk_ren' ⟨[],[(60001,24)],[],[]⟩ rfl ?_
   exact Wz [(24,⟨0,true,true,true⟩)] hfin
  ·obtain ⟨x3,h5,hF⟩:=oE hF
   have p6:=(Pe.ren (file_filter_ok x1.1 x3 h5) ⟨[],[],[],[]⟩)
   obtain ⟨x4,h7,hF⟩:=oE hF
   refine LD [cE [] [] [] [] p6,.callB (.bool x4)] (hc p6 (hc (slices_Equal_byte_byte_ok x3 x.2.1.filter x4 h7) .nil)) ?_
   refine Nif hF ?_ ?_ <;> intro hb hF
   ·obtain ⟨x5,h8,hF⟩:=lS hF
    refine VR [.callB (.agg (c_Fault x5))] [2,3] [3] [] [] [(2,.nils),(3,.ptr 3 0)] [(3,(c_Fault x5))] [] [] (hc (file_fault_ok 5 3 x5 h8) .nil) ?_
    cases hF
    refine Wk_nilrow 2 60002 53 5 rfl rfl rfl ?_
    refine Wk_ren' ⟨[],[(60002,24)],[],[]⟩ rfl ?_
    exact Wz [(24,⟨0,true,true,true⟩)] hfin
   ·refine LD0 ?_
    cases hF
    exact Wz [] hfin

/- (*tablet.tab).fill$1 -/
noncomputable def tablet_tab_fill_1 (num:Note) (box:List UInt8) (box1:Int) (box2:List (List UInt8)) (box3 box4 box5:Int) (row:List Note) (row1:List (List Cell)):Bool:=
 decide (box3<num.Seq)
theorem tablet_tab_fill_1_ok (num:Note) (box:List UInt8) (box1:Int) (box2:List (List UInt8)) (box3 box4 box5:Int) (row:List Note) (row1:List (List Cell)) (rk rc:Nat) (rn:Bool) (rk1 rc1:Nat) (rn1 r:Bool) (hF:tablet_tab_fill_1 num box box1 box2 box3 box4 box5 row row1=r):Pe Tryz.prog 115 ⟨[],[(100000,[.ptr 100001 0]),(100001,[.sl 1 (box.map e_u8),.i box1,.sl 1 (box2.map e_L_u8),.i box3,.i box4,.row 100000 0,.i box5,.nils,.row 100001 0])],[(100000,.q 50 2 0 rk rc rn (row.map e_Note)),(100001,.q 28 1 0 rk1 rc1 rn1 (row1.map e_L_Cell))],[],[]⟩ [.agg (c_Note num),.ptr 100000 0] (.bool r) ⟨[],[(100000,[.ptr 100001 0]),(100001,[.sl 1 (box.map e_u8),.i box1,.sl 1 (box2.map e_L_u8),.i box3,.i box4,.row 100000 0,.i box5,.nils,.row 100001 0])],[(100000,.q 50 2 0 rk rc rn (row.map e_Note)),(100001,.q 28 1 0 rk1 rc1 rn1 (row1.map e_L_Cell))],[],[]⟩:=by
 refine PT 12 [.tmp 3] [4] Tryz.func115 ?_
 intro Q g hfin
 unfold tablet_tab_fill_1 at hF
 refine LR0 ?_
 refine LD0 ?_
 cases hF
 exact Wz [] hfin

/- slices.IndexFunc[[]api.Note,api.Note] -/
noncomputable def slices_IndexFunc_api_Note_api_Note_J1 (v:Unit):Option Int:=
 some (-1)
noncomputable def slices_IndexFunc_api_Note_api_Note_B1 (box:List UInt8) (box1:Int) (box2:List (List UInt8)) (box3 box4 box5:Int) (row:List Note) (row1:List (List Cell)) (v1:Int):Option (Int⊕Int):=
 if (decide (v1<(row.length:Int)))=true then
  asrt (0≤v1∧v1<(row.length:Int)) <|
  asrt (0≤v1∧v1<(row.length:Int)) <|
  lt (tablet_tab_fill_1 (⟨(lget row v1).Seq,(lget row v1).Cells⟩:Note) box box1 box2 box3 box4 box5 row row1) fun x=>
  if x=true then
   some (Sum.inr v1)
  else
   some (Sum.inl (w64 (v1+1)))
 else
  inrO (slices_IndexFunc_api_Note_api_Note_J1 ())
noncomputable def slices_IndexFunc_api_Note_api_Note_L1 (box:List UInt8) (box1:Int) (box2:List (List UInt8)) (box3 box4 box5:Int) (row:List Note) (row1:List (List Cell)) (v0:Int):Option Int:=
 loopO (fun y=>slices_IndexFunc_api_Note_api_Note_B1 box box1 box2 box3 box4 box5 row row1 y) v0
noncomputable def slices_IndexFunc_api_Note_api_Note (box:List UInt8) (box1:Int) (box2:List (List UInt8)) (box3 box4 box5:Int) (row:List Note) (row1:List (List Cell)):Option Int:=
 slices_IndexFunc_api_Note_api_Note_L1 box box1 box2 box3 box4 box5 row row1 0
theorem slices_IndexFunc_api_Note_api_Note_ok (box:List UInt8) (box1:Int) (box2:List (List UInt8)) (box3 box4 box5:Int) (row:List Note) (row1:List (List Cell)) (rk rc:Nat) (rn:Bool) (rk1 rc1:Nat) (rn1:Bool) (r:Int) (hF:slices_IndexFunc_api_Note_api_Note box box1 box2 box3 box4 box5 row row1=some r):Pe Tryz.prog 114 ⟨[],[(100000,[.ptr 100001 0]),(100001,[.sl 1 (box.map e_u8),.i box1,.sl 1 (box2.map e_L_u8),.i box3,.i box4,.row 100000 0,.i box5,.nils,.row 100001 0])],[(100000,.q 50 2 0 rk rc rn (row.map e_Note)),(100001,.q 28 1 0 rk1 rc1 rn1 (row1.map e_L_Cell))],[],[]⟩ [.row 100000 0,.fn 115 [.ptr 100000 0]] (.i r) ⟨[],[(100000,[.ptr 100001 0]),(100001,[.sl 1 (box.map e_u8),.i box1,.sl 1 (box2.map e_L_u8),.i box3,.i box4,.row 100000 0,.i box5,.nils,.row 100001 0])],[(100000,.q 50 2 0 rk rc rn (row.map e_Note)),(100001,.q 28 1 0 rk1 rc1 rn1 (row1.map e_L_Cell))],[],[]⟩:=by
 refine PT 19 [.tmp 4] [3] Tryz.func114 ?_
 intro Q g hfin
 unfold slices_IndexFunc_api_Note_api_Note at hF
 refine LR0 ?_
 refine LR [.nat (row.length:Int)] (hc (len_ok e_Note row) .nil) ?_
 refine NmeetP (fun v:Unit=>(⟨[],[(100000,[.ptr 100001 0]),(100001,[.sl 1 (box.map e_u8),.i box1,.sl 1 (box2.map e_L_u8),.i box3,.i box4,.row 100000 0,.i box5,.nils,.row 100001 0])],[(100000,.q 50 2 0 rk rc rn (row.map e_Note)),(100001,.q 28 1 0 rk1 rc1 rn1 (row1.map e_L_Cell))],[],[]⟩:S)) (fun v=>slices_IndexFunc_api_Note_api_Note_J1 v=some r) ?_ ?_
 ·refine Nblk ?_
  unfold slices_IndexFunc_api_Note_api_Note_L1 at hF
  refine Nitq (fun v1:Int=>(⟨[(0,.row 100000 0),(1,.fn 115 [.ptr 100000 0]),(7,.i (row.length:Int)),(8,.i v1)],[(100000,[.ptr 100001 0]),(100001,[.sl 1 (box.map e_u8),.i box1,.sl 1 (box2.map e_L_u8),.i box3,.i box4,.row 100000 0,.i box5,.nils,.row 100001 0])],[(100000,.q 50 2 0 rk rc rn (row.map e_Note)),(100001,.q 28 1 0 rk1 rc1 rn1 (row1.map e_L_Cell))],[],[]⟩:S)) [] hF ?_
  intro n1 v1 y1 hF ih1 dn1
  unfold slices_IndexFunc_api_Note_api_Note_B1 at hF
  refine LR0 ?_
  refine Nif hF ?_ ?_ <;> intro hb hF
  ·refine Nblk ?_
   refine LR0 ?_
   obtain ⟨h0,h1,hF⟩:=asrt2 hF
   obtain ⟨x,h2,hF⟩:=lS hF
   refine LR [.av (e_Note (lget row v1)),.callR [100000,100001] [100000,100001] [] [] (.bool x)] (hc (ixr_ok e_Note h0) (hc (ldr_ok e_Note h1) (hc (Pe.ren (tablet_tab_fill_1_ok (⟨(lget row v1).Seq,(lget row v1).Cells⟩:Note) box box1 box2 box3 box4 box5 row row1 rk rc rn rk1 rc1 rn1 x h2) ⟨[],[],[],[]⟩) .nil))) ?_
   refine Nif hF ?_ ?_ <;> intro hb hF
   ·refine LR0 ?_
    have hF:=ret_done hF dn1
    cases hF
    exact Wz [] hfin
   ·refine LR0 ?_
    exact Nrnq [] hF ih1
  ·refine Nexit rfl ?_
   have hF:=inrO_done hF dn1
   exact metQ () [] hF
 ·intro v hF
  unfold slices_IndexFunc_api_Note_api_Note_J1 at hF
  refine LR0 ?_
  cases hF
  exact Wz [] hfin

/- slices.Grow[[]api.Cell,api.Cell] -/
noncomputable def slices_Grow_api_Cell_api_Cell_v1 (num:Int):Option (List Cell):=
 ob (
  if (decide (num<0))=true then
   none
  else
   some ()) fun (v:Unit)=>
 ob (
  if (decide (0<(w64 (num - (w64 (0 - 0))))))=true then
   asrt (0≤(w64 (num - (w64 (0 - 0))))∧(w64 (num - (w64 (0 - 0)))).toNat*64≤140737488351232) <|
   asrt (0≤(0:Int)∧(0:Int)≤((List.replicate (w64 (num - (w64 (0 - 0)))).toNat ((⟨([]:List UInt8),([]:List UInt8),0,false,([]:List UInt8)⟩:Cell):Cell)).length:Int)) <|
   lt ((List.replicate (w64 (num - (w64 (0 - 0)))).toNat ((⟨([]:List UInt8),([]:List UInt8),0,false,([]:List UInt8)⟩:Cell):Cell))) fun (v2:List Cell)=>
   asrt (((0:Int).toNat)≤v2.length) <|
   some (v2.take ((0:Int).toNat))
  else
   some ([]:List Cell)) fun (v1:List Cell)=>
 some v1
theorem slices_Grow_api_Cell_api_Cell_v1_ok (num:Int) (r:List Cell) (hF:slices_Grow_api_Cell_api_Cell_v1 num=some r):Pe Tryz.prog 170 (.w []) [.nils,.i num] (.row 22 0) ⟨[],[],[(22,.o 53 5 0 (r.map e_Cell))],[],[]⟩:=by
 refine PT 27 [.tmp 4] [28] Tryz.func170 ?_
 intro Q g hfin
 unfold slices_Grow_api_Cell_api_Cell_v1 at hF
 refine LR0 ?_
 refine LR0 ?_
 obtain ⟨v,hv,hF⟩:=oE hF
 refine Nmeet (⟨[(0,.nils),(1,.i num)],[],[],[],[]⟩:S) ?_ ?_
 ·have hF:=hv
  refine Nif hF ?_ ?_ <;> intro hb hF
  ·cases hF
  ·cases hF
   exact met' []
 ·refine LR0 ?_
  refine NR [] [0,1,16] [] [] [(0,.nils),(1,.i (w64 (num - (w64 (0 - 0))))),(16,.bool (decide (0<(w64 (num - (w64 (0 - 0)))))))] .nil ?_
  obtain ⟨v1,hv,hF⟩:=oE hF
  refine Nmeet (⟨[(0,.row 22 0)],[],[(22,.o 53 5 0 (v1.map e_Cell))],[],[]⟩:S) ?_ ?_
  ·have hF:=hv
   refine Nif hF ?_ ?_ <;> intro hb hF
   ·obtain ⟨h0,hF⟩:=aE hF
    obtain ⟨h1,hF⟩:=aE hF
    refine NRL ((List.replicate (w64 (num - (w64 (0 - 0)))).toNat ((⟨([]:List UInt8),([]:List UInt8),0,false,([]:List UInt8)⟩:Cell):Cell))) (fun v2:List Cell=>([(0,.rowv 22 0 0 ((0:Int).toNat))],[],[(22,.z 53 5 0 (v2.map e_Cell))],[])) [.xs ((List.replicate (w64 (num - (w64 (0 - 0)))).toNat ((⟨([]:List UInt8),([]:List UInt8),0,false,([]:List UInt8)⟩:Cell):Cell)).map e_Cell),.vw ((0:Int).toNat)] [0] [] [22] [] (hc (rfl:(0:Int)=0) (hc h0 (hc (rep_ok e_Cell (w64 (num - (w64 (0 - 0)))) ((⟨([]:List UInt8),([]:List UInt8),0,false,([]:List UInt8)⟩:Cell):Cell)) (hc (vw01_ok (cm:=0) e_Cell h1) .nil)))) (fun v2 hv=>?_)
    have hF:=lt_elim hF hv
    obtain ⟨h2,hF⟩:=aE hF
    refine Wk_truncL 0 22 0 ((0:Int).toNat) ((v2.take ((0:Int).toNat)).map e_Cell) rfl rfl rfl rfl (tk_ok e_Cell h2).1 (Nat.zero_le _) (List.map_take).symm ?_
    cases hF
    exact met' [(22,⟨0,false,true,false⟩)]
   ·refine Wk_nilrow 0 60000 53 5 rfl rfl rfl ?_
    refine Wk_trim (fs:=[0]) (bs:=[]) (rs:=[60000]) (ms:=[]) (aa:=[]) (nv:=[]) rfl ?_
    refine Wk_ren' ⟨[],[(60000,22)],[],[]⟩ rfl ?_
    cases hF
    exact met' [(22,⟨0,true,false,false⟩)]
  ·refine LR0 ?_
   cases hF
   exact Wz [] hfin

/- slices.Concat[[]api.Cell,api.Cell] -/
noncomputable def slices_Concat_api_Cell_api_Cell_J2 (v1:List Cell):Option (List Cell):=
 some v1
noncomputable def slices_Concat_api_Cell_api_Cell_B1 (slices:List (List Cell)) (v2:List Cell×Int):Option ((List Cell×Int)⊕(List Cell)):=
 if (decide (v2.2<(slices.length:Int)))=true then
  asrt (0≤v2.2∧v2.2<(slices.length:Int)) <|
  asrt (((v2.1++(lget slices v2.2)).length:Int)*64≤140737488351232) <|
  some (Sum.inl ((v2.1++(lget slices v2.2)),w64 (v2.2+1)))
 else
  inrO (slices_Concat_api_Cell_api_Cell_J2 v2.1)
noncomputable def slices_Concat_api_Cell_api_Cell_L1 (slices:List (List Cell)) (v0:List Cell×Int):Option (List Cell):=
 loopO (fun y=>slices_Concat_api_Cell_api_Cell_B1 slices y) v0
noncomputable def slices_Concat_api_Cell_api_Cell_J1 (slices:List (List Cell)) (v:Int):Option (List Cell):=
 ob (slices_Grow_api_Cell_api_Cell_v1 v) fun x=>
 slices_Concat_api_Cell_api_Cell_L1 slices (x,0)
noncomputable def slices_Concat_api_Cell_api_Cell_B2 (slices:List (List Cell)) (v3:Int×Int):Option ((Int×Int)⊕(List Cell)):=
 if (decide (v3.2<(slices.length:Int)))=true then
  asrt (0≤v3.2∧v3.2<(slices.length:Int)) <|
  ob (
   if (decide ((w64 (v3.1+((lget slices v3.2).length:Int)))<0))=true then
    none
   else
    some ()) fun (v4:Unit)=>
  some (Sum.inl (w64 (v3.1+((lget slices v3.2).length:Int)),w64 (v3.2+1)))
 else
  inrO (slices_Concat_api_Cell_api_Cell_J1 slices v3.1)
noncomputable def slices_Concat_api_Cell_api_Cell_L2 (slices:List (List Cell)) (v0:Int×Int):Option (List Cell):=
 loopO (fun y=>slices_Concat_api_Cell_api_Cell_B2 slices y) v0
noncomputable def slices_Concat_api_Cell_api_Cell (slices:List (List Cell)):Option (List Cell):=
 slices_Concat_api_Cell_api_Cell_L2 slices (0,0)
theorem slices_Concat_api_Cell_api_Cell_ok (slices:List (List Cell)) (r:List Cell) (hF:slices_Concat_api_Cell_api_Cell slices=some r):Pe Tryz.prog 157 (.w []) [.sl 1 (slices.map e_L_Cell)] (.row 24 0) ⟨[],[],[(24,.o 53 5 0 (r.map e_Cell))],[],[]⟩:=by
 refine PT 36 [.tmp 2] [28] Tryz.func157 ?_
 intro Q g hfin
 unfold slices_Concat_api_Cell_api_Cell at hF
 refine LR0 ?_
 refine LR0 ?_
 refine LR [.nat (slices.length:Int)] (hc (len_ok e_L_Cell slices) .nil) ?_
 refine NmeetP (fun v:Int=>(⟨[(0,.sl 1 (slices.map e_L_Cell)),(3,.i v)],[],[],[],[]⟩:S)) (fun v=>slices_Concat_api_Cell_api_Cell_J1 slices v=some r) ?_ ?_
 ·refine Nblk ?_
  unfold slices_Concat_api_Cell_api_Cell_L2 at hF
  refine Nitq (fun v3:Int×Int=>(⟨[(0,.sl 1 (slices.map e_L_Cell)),(3,.i v3.1),(9,.sl 1 (slices.map e_L_Cell)),(10,.i (slices.length:Int)),(11,.i v3.2)],[],[],[],[]⟩:S)) [] hF ?_
  intro n1 v3 y1 hF ih1 dn1
  unfold slices_Concat_api_Cell_api_Cell_B2 at hF
  refine LR0 ?_
  refine Nif hF ?_ ?_ <;> intro hb hF
  ·refine Nblk ?_
   obtain ⟨h4,hF⟩:=aE hF
   refine LR [.av (e_L_Cell (lget slices v3.2))] (hc (idx_ok e_L_Cell h4) .nil) ?_
   refine LR [.nat ((lget slices v3.2).length:Int)] (hc (len_ok e_Cell (lget slices v3.2)) .nil) ?_
   refine LR0 ?_
   obtain ⟨v4,hv,hF⟩:=oE hF
   refine Nmeet (⟨[(0,.sl 1 (slices.map e_L_Cell)),(3,.i (w64 (v3.1+((lget slices v3.2).length:Int)))),(9,.sl 1 (slices.map e_L_Cell)),(10,.i (slices.length:Int)),(11,.i v3.2)],[],[],[],[]⟩:S) ?_ ?_
   ·have hF:=hv
    refine Nif hF ?_ ?_ <;> intro hb hF
    ·cases hF
    ·cases hF
     exact met' []
   ·refine LR0 ?_
    exact Nrnq [] hF ih1
  ·refine Nexit rfl ?_
   have hF:=inrO_done hF dn1
   exact metQ v3.1 [] hF
 ·intro v hF
  unfold slices_Concat_api_Cell_api_Cell_J1 at hF
  obtain ⟨x,h0,hF⟩:=oE hF
  have p1:=(Pe.ren (slices_Grow_api_Cell_api_Cell_v1_ok v x h0) ⟨[],[(22,24)],[],[]⟩)
  refine LR [.raw [0],cE [] [] [] [] p1] (hc p1 .nil) ?_
  refine LR [.nat (slices.length:Int)] (hc (len_ok e_L_Cell slices) .nil) ?_
  refine NmeetP (fun v1:List Cell=>(⟨[(6,.row 24 0)],[],[(24,.o 53 5 0 (v1.map e_Cell))],[],[]⟩:S)) (fun v1=>slices_Concat_api_Cell_api_Cell_J2 v1=some r) ?_ ?_
  ·refine Nblk ?_
   unfold slices_Concat_api_Cell_api_Cell_L1 at hF
   refine Nitq (fun v2:List Cell×Int=>(⟨[(6,.row 24 0),(25,.sl 1 (slices.map e_L_Cell)),(26,.i (slices.length:Int)),(27,.i v2.2)],[],[(24,.o 53 5 0 (v2.1.map e_Cell))],[],[]⟩:S)) [] hF ?_
   intro n1 v2 y1 hF ih1 dn1
   unfold slices_Concat_api_Cell_api_Cell_B1 at hF
   refine LR0 ?_
   refine Nif hF ?_ ?_ <;> intro hb hF
   ·refine Nblk ?_
    obtain ⟨h2,hF⟩:=aE hF
    refine LR [.av (e_L_Cell (lget slices v2.2))] (hc (idx_ok e_L_Cell h2) .nil) ?_
    obtain ⟨h3,hF⟩:=aE hF
    refine LR [.xs ((v2.1++(lget slices v2.2)).map e_Cell)] (hc (app_ok e_Cell v2.1 (lget slices v2.2)) (hc (appl_ok e_Cell h3) .nil)) ?_
    refine LR0 ?_
    exact Nrnq [(24,⟨0,true,true,false⟩)] hF ih1
   ·refine Nexit rfl ?_
    have hF:=inrO_done hF dn1
    exact metQ v2.1 [] hF
  ·intro v1 hF
   unfold slices_Concat_api_Cell_api_Cell_J2 at hF
   refine LR0 ?_
   cases hF
   exact Wz [] hfin

/- slices.insertionSortCmpFunc[api.Cell] -/
noncomputable def slices_insertionSortCmpFunc_api_Cell_v1_J1 (v:List Cell):Option (List Cell):=
 some v
noncomputable def slices_insertionSortCmpFunc_api_Cell_v1_J2 (v1:List Cell×Int) (v2:List Cell):Option ((List Cell×Int)⊕(List Cell)):=
 some (Sum.inl (v2,w64 (v1.2+1)))
noncomputable def slices_insertionSortCmpFunc_api_Cell_v1_B2 (a0:Int) (v1 v3:List Cell×Int):Option ((List Cell×Int)⊕((List Cell×Int)⊕(List Cell))):=
 asrt ((decide (a0<v3.2))=true→0≤v3.2∧v3.2<(v3.1.length:Int)) <|
 asrt ((decide (a0<v3.2))=true→0≤v3.2∧v3.2<(v3.1.length:Int)) <|
 asrt ((decide (a0<v3.2))=true→0≤w64 (v3.2 - 1)∧w64 (v3.2 - 1)<(v3.1.length:Int)) <|
 asrt ((decide (a0<v3.2))=true→0≤w64 (v3.2 - 1)∧w64 (v3.2 - 1)<(v3.1.length:Int)) <|
 ob (if (decide (a0<v3.2))=true then (cell_Order (⟨(lget v3.1 v3.2).Row,(lget v3.1 v3.2).Col,(lget v3.1 v3.2).Time,(lget v3.1 v3.2).Gone,(lget v3.1 v3.2).Value⟩:Cell) (⟨(lget v3.1 (w64 (v3.2 - 1))).Row,(lget v3.1 (w64 (v3.2 - 1))).Col,(lget v3.1 (w64 (v3.2 - 1))).Time,(lget v3.1 (w64 (v3.2 - 1))).Gone,(lget v3.1 (w64 (v3.2 - 1))).Value⟩:Cell)) else some default) fun x=>
 if ((decide (a0<v3.2))&&(decide (x<0)))=true then
  asrt (0≤w64 (v3.2 - 1)∧w64 (v3.2 - 1)<(v3.1.length:Int)) <|
  asrt (0≤w64 (v3.2 - 1)∧w64 (v3.2 - 1)<(v3.1.length:Int)) <|
  asrt (0≤v3.2∧v3.2<(v3.1.length:Int)) <|
  asrt (0≤v3.2∧v3.2<(v3.1.length:Int)) <|
  asrt (0≤v3.2∧v3.2<(v3.1.length:Int)) <|
  asrt (0≤v3.2∧v3.2<(v3.1.length:Int)) <|
  asrt (0≤w64 (v3.2 - 1)∧w64 (v3.2 - 1)<((lset v3.1 v3.2 (⟨(lget v3.1 (w64 (v3.2 - 1))).Row,(lget v3.1 (w64 (v3.2 - 1))).Col,(lget v3.1 (w64 (v3.2 - 1))).Time,(lget v3.1 (w64 (v3.2 - 1))).Gone,(lget v3.1 (w64 (v3.2 - 1))).Value⟩:Cell)).length:Int)) <|
  asrt (0≤w64 (v3.2 - 1)∧w64 (v3.2 - 1)<((lset v3.1 v3.2 (⟨(lget v3.1 (w64 (v3.2 - 1))).Row,(lget v3.1 (w64 (v3.2 - 1))).Col,(lget v3.1 (w64 (v3.2 - 1))).Time,(lget v3.1 (w64 (v3.2 - 1))).Gone,(lget v3.1 (w64 (v3.2 - 1))).Value⟩:Cell)).length:Int)) <|
  lt ((lset (lset v3.1 v3.2 (⟨(lget v3.1 (w64 (v3.2 - 1))).Row,(lget v3.1 (w64 (v3.2 - 1))).Col,(lget v3.1 (w64 (v3.2 - 1))).Time,(lget v3.1 (w64 (v3.2 - 1))).Gone,(lget v3.1 (w64 (v3.2 - 1))).Value⟩:Cell)) (w64 (v3.2 - 1)) (⟨(lget v3.1 v3.2).Row,(lget v3.1 v3.2).Col,(lget v3.1 v3.2).Time,(lget v3.1 v3.2).Gone,(lget v3.1 v3.2).Value⟩:Cell))) fun (v4:List Cell)=>
  some (Sum.inl (v4,w64 (v3.2 - 1)))
 else
  inrO (slices_insertionSortCmpFunc_api_Cell_v1_J2 v1 v3.1)
noncomputable def slices_insertionSortCmpFunc_api_Cell_v1_L2 (a0:Int) (v1 v0:List Cell×Int):Option ((List Cell×Int)⊕(List Cell)):=
 loopO (fun y=>slices_insertionSortCmpFunc_api_Cell_v1_B2 a0 v1 y) v0
noncomputable def slices_insertionSortCmpFunc_api_Cell_v1_B1 (a0 b:Int) (v1:List Cell×Int):Option ((List Cell×Int)⊕(List Cell)):=
 if (decide (v1.2<b))=true then
  slices_insertionSortCmpFunc_api_Cell_v1_L2 a0 v1 (v1.1,v1.2)
 else
  inrO (slices_insertionSortCmpFunc_api_Cell_v1_J1 v1.1)
noncomputable def slices_insertionSortCmpFunc_api_Cell_v1_L1 (a0 b:Int) (v0:List Cell×Int):Option (List Cell):=
 loopO (fun y=>slices_insertionSortCmpFunc_api_Cell_v1_B1 a0 b y) v0
noncomputable def slices_insertionSortCmpFunc_api_Cell_v1 (a0 b:Int) (row:List Cell):Option (List Cell):=
 slices_insertionSortCmpFunc_api_Cell_v1_L1 a0 b (row,w64 (a0+1))
theorem slices_insertionSortCmpFunc_api_Cell_v1_ok (a0 b:Int) (row:List Cell) (rk rc:Nat) (rn:Bool) (r:List Cell) (hF:slices_insertionSortCmpFunc_api_Cell_v1 a0 b row=some r):Pe Tryz.prog 177 (.w [(100000,.q 53 5 0 0 rc rn (row.map e_Cell))]) [.row 100000 0,.i a0,.i b,.fn 136 []] (.tup []) (.w [(100000,.q 53 5 0 0 rc rn (r.map e_Cell))]):=by
 refine PT 53 [] [] Tryz.func177 ?_
 intro Q g hfin
 unfold slices_insertionSortCmpFunc_api_Cell_v1 at hF
 refine LR0 ?_
 refine NmeetP (fun v:List Cell=>(⟨[],[],[(100000,.q 53 5 0 0 rc rn (v.map e_Cell))],[],[]⟩:S)) (fun v=>slices_insertionSortCmpFunc_api_Cell_v1_J1 v=some r) ?_ ?_
 ·refine Nblk ?_
  unfold slices_insertionSortCmpFunc_api_Cell_v1_L1 at hF
  refine Nitq (fun v1:List Cell×Int=>(⟨[(0,.row 100000 0),(1,.i a0),(2,.i b),(3,.fn 136 []),(8,.i v1.2)],[],[(100000,.q 53 5 0 0 rc rn (v1.1.map e_Cell))],[],[]⟩:S)) [] hF ?_
  intro n1 v1 y1 hF ih1 dn1
  unfold slices_insertionSortCmpFunc_api_Cell_v1_B1 at hF
  refine LR0 ?_
  refine Nif hF ?_ ?_ <;> intro hb hF
  ·refine Nblk ?_
   refine LR0 ?_
   refine NmeetP (fun v2:List Cell=>(⟨[(0,.row 100000 0),(1,.i a0),(2,.i b),(3,.fn 136 []),(8,.i v1.2)],[],[(100000,.q 53 5 0 0 rc rn (v2.map e_Cell))],[],[]⟩:S)) (fun v2=>slices_insertionSortCmpFunc_api_Cell_v1_J2 v1 v2=some y1) ?_ ?_
   ·refine Nblk ?_
    unfold slices_insertionSortCmpFunc_api_Cell_v1_L2 at hF
    refine Nitq (fun v3:List Cell×Int=>(⟨[(0,.row 100000 0),(1,.i a0),(2,.i b),(3,.fn 136 []),(8,.i v1.2),(9,.i v3.2)],[],[(100000,.q 53 5 0 0 rc rn (v3.1.map e_Cell))],[],[]⟩:S)) [] hF ?_
    intro n2 v3 y2 hF ih2 dn2
    unfold slices_insertionSortCmpFunc_api_Cell_v1_B2 at hF
    obtain ⟨h0,h1,h2,h3,hF⟩:=asrt4 hF
    obtain ⟨x,h4,hF⟩:=oE hF
    refine LD [.av (e_Cell (lget v3.1 v3.2)),.av (e_Cell (lget v3.1 (w64 (v3.2 - 1)))),.callB (.i x)] (hc (fun (ga0:(decide (a0<v3.2))=true)=>(ixr_ok e_Cell (h0 ga0))) (hc (fun (ga0:(decide (a0<v3.2))=true)=>(ldr_ok e_Cell (h1 ga0))) (hc (fun (ga0:(decide (a0<v3.2))=true)=>(ixr_ok e_Cell (h2 ga0))) (hc (fun (ga0:(decide (a0<v3.2))=true)=>(ldr_ok e_Cell (h3 ga0))) (hc (fun (ga0:(decide (a0<v3.2))=true)=>(cell_Order_ok (⟨(lget v3.1 v3.2).Row,(lget v3.1 v3.2).Col,(lget v3.1 v3.2).Time,(lget v3.1 v3.2).Gone,(lget v3.1 v3.2).Value⟩:Cell) (⟨(lget v3.1 (w64 (v3.2 - 1))).Row,(lget v3.1 (w64 (v3.2 - 1))).Col,(lget v3.1 (w64 (v3.2 - 1))).Time,(lget v3.1 (w64 (v3.2 - 1))).Gone,(lget v3.1 (w64 (v3.2 - 1))).Value⟩:Cell) x (ite_t h4 ga0))) .nil))))) ?_
    refine Nif hF ?_ ?_ <;> intro hb hF
    ·refine Nblk ?_
     obtain ⟨h5,h6,h7,h8,hF⟩:=asrt4 hF
     obtain ⟨h9,h10,h11,h12,hF⟩:=asrt4 hF
     obtain ⟨v4,hv,hF⟩:=lS hF
     refine LD [.av (e_Cell (lget v3.1 (w64 (v3.2 - 1)))),.av (e_Cell (lget v3.1 v3.2)),.av (e_Cell (lget v3.1 v3.2)),.xs ((lset v3.1 v3.2 (⟨(lget v3.1 (w64 (v3.2 - 1))).Row,(lget v3.1 (w64 (v3.2 - 1))).Col,(lget v3.1 (w64 (v3.2 - 1))).Time,(lget v3.1 (w64 (v3.2 - 1))).Gone,(lget v3.1 (w64 (v3.2 - 1))).Value⟩:Cell)).map e_Cell),.av (e_Cell (lget (lset v3.1 v3.2 (⟨(lget v3.1 (w64 (v3.2 - 1))).Row,(lget v3.1 (w64 (v3.2 - 1))).Col,(lget v3.1 (w64 (v3.2 - 1))).Time,(lget v3.1 (w64 (v3.2 - 1))).Gone,(lget v3.1 (w64 (v3.2 - 1))).Value⟩:Cell)) (w64 (v3.2 - 1)))),.xs (v4.map e_Cell)] (hc (ixr_ok e_Cell h5) (hc (ldr_ok e_Cell h6) (hc (ixr_ok e_Cell h7) (hc (ldr_ok e_Cell h8) (hc (ixr_ok e_Cell h9) (hc (ldr_ok e_Cell h10) (hc (set_ok e_Cell v3.1 v3.2 (⟨(lget v3.1 (w64 (v3.2 - 1))).Row,(lget v3.1 (w64 (v3.2 - 1))).Col,(lget v3.1 (w64 (v3.2 - 1))).Time,(lget v3.1 (w64 (v3.2 - 1))).Gone,(lget v3.1 (w64 (v3.2 - 1))).Value⟩:Cell)) (hc (Nat.zero_le v3.2.toNat) (hc (ixr_ok e_Cell h11) (hc (ldr_ok e_Cell h12) (hc (setN e_Cell hv) (hc (Nat.zero_le ((w64 (v3.2 - 1)).toNat)) .nil)))))))))))) ?_
     refine LR0 ?_
     exact Nrnq [] hF ih2
    ·refine Nexit rfl ?_
     have hF:=inrO_done hF dn2
     exact metQ v3.1 [] hF
   ·intro v2 hF
    unfold slices_insertionSortCmpFunc_api_Cell_v1_J2 at hF
    refine LR0 ?_
    exact Nrnq [] hF ih1
  ·refine Nexit rfl ?_
   have hF:=inrO_done hF dn1
   exact metQ v1.1 [] hF
 ·intro v hF
  unfold slices_insertionSortCmpFunc_api_Cell_v1_J1 at hF
  cases hF
  exact Wk_end (hfin _ ⟨[100000],[],[100000],[],[],[],by kernel_rfl⟩)

end G
end Go.Proofs.YticbfakiihfgmaaGreat
