/- The program's functions as plain functions, and that they are these. Written by a program (dec2.py). -/
import Derived.Test.YticbfakiihfgmaaGreatTys
namespace Go.Proofs.YticbfakiihfgmaaGreat
open Go Go.Dm
set_option linter.unusedVariables false
set_option linter.unusedSimpArgs false
set_option maxRecDepth 100000
namespace G
noncomputable section
/- tabularylaw.oneNote -/
def law_oneNote  : Note:=
 lt ([(⟨([114]:List UInt8),([99]:List UInt8),7,false,([97]:List UInt8)⟩:Cell)]) fun (v:List Cell)=>
 (⟨1,v⟩:Note)
theorem law_oneNote_ok { r} (hF:law_oneNote  = r):Pe Tryz.prog 59 S.none [] (.agg (c_Note r)) S.none:=by
 refine PT 4 [.cell 0 50] [50] Tryz.func59 ?_
 intro Q g hfin
 unfold law_oneNote at hF
 refine LR0 ?_
 refine NRL ([(⟨([114]:List UInt8),([99]:List UInt8),7,false,([97]:List UInt8)⟩:Cell)]) (fun v:List Cell=>([],[(0,[.i 1,.sl 5 (v.map zac)])],[],[])) [.sealed] [0] [0] [] [] .nil (fun v hv=>?_)
 have hF:=lt_elim hF hv
 cases hF
 exact Wz [] hfin

/- tablet.fault -/
def zbq (code at0:Int):Fault:=
 (⟨code,at0⟩:Fault)
theorem zay {code at0 r} (hF:zbq code at0=r):Pe Tryz.prog 65 S.none [.i code,.i at0] (.agg (zae r)) S.none:=by
 refine PT 8 [.cell 4 35] [35] Tryz.func65 ?_
 intro Q g hfin
 unfold zbq at hF
 refine LR0 ?_
 refine LR0 ?_
 cases hF
 exact Wz [] hfin

/- disk.fault -/
def disk_fault (code at0:Int):Fault:=
 (⟨code,at0⟩:Fault)
theorem disk_fault_ok {code at0 r} (hF:disk_fault code at0=r):Pe Tryz.prog 110 S.none [.i code,.i at0] (.agg (zae r)) S.none:=by
 refine PT 8 [.cell 4 35] [35] Tryz.func110 ?_
 intro Q g hfin
 unfold disk_fault at hF
 refine LR0 ?_
 refine LR0 ?_
 cases hF
 exact Wz [] hfin

/- disk.Check -/
def disk_Check (d:Disk):Fault:=
 if (decide (60000<(d.Bytes.length:Int)))=true then
  lt (disk_fault 8 0) fun x=>
  x
 else
  if ((decide (d.Kept<0))||(decide ((d.Bytes.length:Int)<d.Kept)))=true then
   lt (disk_fault 3 0) fun x1=>
   x1
  else
   (⟨0,0⟩:Fault)
theorem disk_Check_ok {d r} (hF:disk_Check d=r):Pe Tryz.prog 109 S.none [.agg (c_Disk d)] (.agg (zae r)) S.none:=by
 refine PT 21 [.cell 2 35] [35] Tryz.func109 ?_
 intro Q g hfin
 unfold disk_Check at hF
 refine LR0 ?_
 refine RJ (.l zaq d.Bytes .z) ?_
 refine Nif hF ?_ ?_ <;> intro hb hF
 ·obtain ⟨x,h0,hF⟩:=lS hF
  refine RJ (.b (disk_fault_ok h0) .z) ?_
  cases hF
  exact Wz [] hfin
 ·refine RJ (.a (.nat (d.Bytes.length:Int)) (.g (fun (_:(!(decide (d.Kept<0)))=true)=>(len_ok zaq d.Bytes)) .z)) ?_
  refine Nif hF ?_ ?_ <;> intro hb hF
  ·obtain ⟨x1,h1,hF⟩:=lS hF
   refine RJ (.b (disk_fault_ok h1) .z) ?_
   cases hF
   exact Wz [] hfin
  ·refine LR0 ?_
   cases hF
   exact Wz [] hfin

/- wire.Crc -/
def wire_Crc_J1 (v:Int):Option Int:=
 lt (bitsOp .xor .u32 (if IntKind.signed .u32=true then -1 else IntKind.max .u32) v) fun v1=>
 some v1
def wire_Crc_J2 (v2:Int×Int) (v3:Int):Option ((Int×Int)⊕Int):=
 some (Sum.inl (v3,w64 (v2.2+1)))
def wire_Crc_B2 (v2 v4:Int×Int):Option ((Int×Int)⊕((Int×Int)⊕Int)):=
 if (decide (v4.2<8))=true then
  ob (
   if (decide ((bitsOp .and .u32 v4.1 1)=1))=true then
    lt (bitsOp .xor .u32 (Int.fdiv v4.1 (2 ^ (min (1:Int).toNat 32))) 3988292384) fun v6=>
    some v6
   else
    some (Int.fdiv v4.1 (2 ^ (min (1:Int).toNat 32)))) fun v5=>
  some (Sum.inl (v5,w64 (v4.2+1)))
 else
  inrO (wire_Crc_J2 v2 v4.1)
def wire_Crc_L2 (v2 v0:Int×Int):Option ((Int×Int)⊕Int):=
 zbe (fun y=>wire_Crc_B2 v2 y) v0
def wire_Crc_B1 (b:List UInt8) (v2:Int×Int):Option ((Int×Int)⊕Int):=
 if (decide (v2.2<(b.length:Int)))=true then
  zan (0≤v2.2∧v2.2<(b.length:Int)) <|
  wire_Crc_L2 v2 (bitsOp .xor .u32 v2.1 (IntKind.u32.wrap ((zad b v2.2).toNat:Int)),0)
 else
  inrO (wire_Crc_J1 v2.1)
def wire_Crc_L1 (b:List UInt8) (v0:Int×Int):Option Int:=
 zbe (fun y=>wire_Crc_B1 b y) v0
def wire_Crc (b:List UInt8):Option Int:=
 wire_Crc_L1 b (4294967295,0)
theorem wire_Crc_ok {b r} (hF:wire_Crc b=some r):Pe Tryz.prog 143 S.none [.sl 1 (b.map zaq)] (.int .u32 r) S.none:=by
 refine PT 31 [.tmp 2] [124] Tryz.func143 ?_
 intro Q g hfin
 unfold wire_Crc at hF
 refine LR0 ?_
 refine LR0 ?_
 refine RJ (.l zaq b .z) ?_
 refine NmQ (fun v=>wire_Crc_J1 v=some r) (fun v=>⟨[(3,.int .u32 v)],[],[],[],[]⟩) ?_ ?_
 ·refine zcd ?_
  unfold wire_Crc_L1 at hF
  refine Nits hF [] (fun Z v2=>Z.up [3,7,8,9] [] [] [] [(3,.int .u32 v2.1),(9,.i v2.2)] [] [] []) ?_
  intro n1 v2 y1 hF ih1 dn1
  unfold wire_Crc_B1 at hF
  refine LR0 ?_
  refine Nif hF ?_ ?_ <;> intro hb hF
  ·refine zcd ?_
   obtain ⟨h0,hF⟩:=aE hF
   refine RJ (.i zaq h0 .z) ?_
   refine LR0 ?_
   refine LR0 ?_
   refine NmS (fun v3=>wire_Crc_J2 v2 v3=some y1) (fun Z v3=>Z.up [3,7,8,9] [] [] [] [(3,.int .u32 v3)] [] [] []) ?_ ?_
   ·refine zcd ?_
    unfold wire_Crc_L2 at hF
    refine Nits hF [] (fun Z v4=>Z.up [3,7,8,9,17] [] [] [] [(3,.int .u32 v4.1),(17,.i v4.2)] [] [] []) ?_
    intro n2 v4 y2 hF ih2 dn2
    unfold wire_Crc_B2 at hF
    refine LR0 ?_
    refine Nif hF ?_ ?_ <;> intro hb hF
    ·refine zcd ?_
     refine LR0 ?_
     refine RJ (.g (by decide:(0:Int)≤1) .z) ?_
     refine LR0 ?_
     obtain ⟨v5,hv,hF⟩:=oE hF
     refine NmT (fun Z=>Z.up [3,7,8,9,17] [] [] [] [(3,.int .u32 v5)] [] [] []) ?_ ?_
     ·have hF:=hv
      refine Nif hF ?_ ?_ <;> intro hb hF
      ·refine NRL (bitsOp .xor .u32 (Int.fdiv v4.1 (2 ^ (min (1:Int).toNat 32))) 3988292384) (fun v6:Int=>([(3,.int .u32 v6)],[],[],[])) [] [3,7,8,9,17] [] [] [] .nil (fun v6 hv=>?_)
       have hF:=lt_elim hF hv
       cases hF
       exact met' []
      ·cases hF
       exact met' []
     ·refine LR0 ?_
      exact Nrnq [] hF ih2
    ·refine zbr rfl ?_
     have hF:=zai hF dn2
     exact metQ v4.1 [] hF
   ·intro v3 hF
    unfold wire_Crc_J2 at hF
    refine LR0 ?_
    exact Nrnq [] hF ih1
  ·refine zbr rfl ?_
   have hF:=zai hF dn1
   exact metQ v2.1 [] hF
 ·intro v hF
  unfold wire_Crc_J1 at hF
  refine NRL (bitsOp .xor .u32 (if IntKind.signed .u32=true then -1 else IntKind.max .u32) v) (fun v1:Int=>([(2,.int .u32 v1)],[],[],[])) [] [2] [] [] [] .nil (fun v1 hv=>?_)
  have hF:=lt_elim hF hv
  cases hF
  exact Wz [] hfin

/- slices.Equal[[]byte,byte] -/
def slices_Equal_byte_byte_J1 (v:Unit):Option Bool:=
 some true
def slices_Equal_byte_byte_B1 (s1 s2:List UInt8) (v1:Int):Option (Int⊕Bool):=
 if (decide (v1<(s1.length:Int)))=true then
  zan (0≤v1∧v1<(s1.length:Int)) <|
  zan (0≤v1∧v1<(s2.length:Int)) <|
  if (!decide (((zad s1 v1).toNat:Int)=((zad s2 v1).toNat:Int)))=true then
   some (Sum.inr false)
  else
   some (Sum.inl (w64 (v1+1)))
 else
  inrO (slices_Equal_byte_byte_J1 ())
def slices_Equal_byte_byte_L1 (s1 s2:List UInt8) (v0:Int):Option Bool:=
 zbe (fun y=>slices_Equal_byte_byte_B1 s1 s2 y) v0
def slices_Equal_byte_byte (s1 s2:List UInt8):Option Bool:=
 if (!decide ((s1.length:Int)=(s2.length:Int)))=true then
  some false
 else
  slices_Equal_byte_byte_L1 s1 s2 0
theorem slices_Equal_byte_byte_ok {s1 s2 r} (hF:slices_Equal_byte_byte s1 s2=some r):Pe Tryz.prog 146 S.none [.sl 1 (s1.map zaq),.sl 1 (s2.map zaq)] (.bool r) S.none:=by
 refine PT 26 [.tmp 4] [4] Tryz.func146 ?_
 intro Q g hfin
 unfold slices_Equal_byte_byte at hF
 refine LR0 ?_
 refine RJ (.l zaq s1 (.l zaq s2 .z)) ?_
 refine Nif hF ?_ ?_ <;> intro hb hF
 ·refine LR0 ?_
  cases hF
  exact Wz [] hfin
 ·refine RJ (.l zaq s1 .z) ?_
  refine NmQ (fun v=>slices_Equal_byte_byte_J1 v=some r) (fun v=>(.w [])) ?_ ?_
  ·refine zcd ?_
   unfold slices_Equal_byte_byte_L1 at hF
   refine Nits hF [] (fun Z v1=>Z.up [0,1,12,13] [] [] [] [(13,.i v1)] [] [] []) ?_
   intro n1 v1 y1 hF ih1 dn1
   unfold slices_Equal_byte_byte_B1 at hF
   refine LR0 ?_
   refine Nif hF ?_ ?_ <;> intro hb hF
   ·refine zcd ?_
    refine LR0 ?_
    obtain ⟨h0,h1,hF⟩:=asrt2 hF
    refine DJ (.i zaq h0 (.i zaq h1 .z)) ?_
    refine Nif hF ?_ ?_ <;> intro hb hF
    ·refine LR0 ?_
     have hF:=ret_done hF dn1
     cases hF
     exact Wz [] hfin
    ·refine LR0 ?_
     exact Nrnq [] hF ih1
   ·refine zbr rfl ?_
    have hF:=zai hF dn1
    exact metQ () [] hF
  ·intro v hF
   unfold slices_Equal_byte_byte_J1 at hF
   refine LR0 ?_
   cases hF
   exact Wz [] hfin

/- slices.Clone[[]byte,byte] -/
def zce (s0:List UInt8):Option (List UInt8):=
 ubO (decide (s0.length=0)) (
  some ([]:List UInt8)) (
  zan (((([]:List UInt8)++s0).length:Int)*1≤140737488351232) <|
  some (([]:List UInt8)++s0))
theorem slices_Clone_byte_byte_ok {s0 r} (hF:zce s0=some r):Pe Tryz.prog 140 (.w []) [.sl 1 (s0.map zaq)] (.row 5 0) ⟨[],[],[(5,.o 5 1 0 (r.map zaq))],[],[]⟩:=by
 refine PT 8 [.tmp 2] [22] Tryz.func140 ?_
 intro Q g hfin
 unfold zce at hF
 refine LR0 ?_
 refine NR [.bo (decide (s0.length=0))] [0,4] [] [] [(0,.sl 1 (s0.map zaq)),(4,.ub (decide (s0.length=0)) true)] (hc (ubn_ok zaq s0) .nil) ?_
 refine Wk_ub 4 rfl fun b hb1 hb2=>?_
 refine Nsplit rfl (fun hb=>?_) (fun hb=>?_)
 ·have hb:=hb1 hb
  have hF:=(ubO_elim hF).1 hb
  refine NR [] [2] [] [] [(2,.nils)] .nil ?_
  cases hF
  refine zao 2 60000 5 1 rfl rfl rfl ?_
  refine zat ⟨[],[(60000,5)],[],[]⟩ rfl ?_
  exact Wz [(5,⟨0,true,false,false⟩)] hfin
 ·have hF:=(ubO_elim hF).2
  obtain ⟨h0,hF⟩:=aE hF
  refine RJ (.p zaq h0 .z) ?_
  cases hF
  exact Wz [(5,⟨0,true,true,false⟩)] hfin

/- wire.Opened -/
def wire_Opened_J1 (v:List (List UInt8)×Int):Option (List (List UInt8)×Int):=
 some (v.1,v.2)
def wire_Opened_B1 (b:List UInt8) (v1:List (List UInt8)×Int):Option ((List (List UInt8)×Int)⊕(List (List UInt8)×Int)):=
 if (decide (6≤(w64 ((b.length:Int) - v1.2))))=true then
  zan (0≤v1.2∧v1.2<(b.length:Int)) <|
  zan (0≤w64 (v1.2+1)∧w64 (v1.2+1)<(b.length:Int)) <|
  lt (bitsOp .or .i64 (w64 ((w64 ((zad b v1.2).toNat:Int))*2 ^ (min (8:Int).toNat 64))) (w64 ((zad b (w64 (v1.2+1))).toNat:Int))) fun v2=>
  if (decide ((b.length:Int)<(w64 ((w64 ((w64 (v1.2+2))+v2))+4))))=true then
   inrO (wire_Opened_J1 (v1.1,v1.2))
  else
   zan (0≤v1.2∧v1.2≤w64 ((w64 (v1.2+2))+v2)∧w64 ((w64 (v1.2+2))+v2)≤(b.length:Int)) <|
   ob (wire_Crc (ldrop (ltake b (w64 ((w64 (v1.2+2))+v2))) v1.2)) fun x=>
   zan (0≤w64 ((w64 (v1.2+2))+v2)∧w64 ((w64 (v1.2+2))+v2)≤w64 ((w64 ((w64 (v1.2+2))+v2))+4)∧w64 ((w64 ((w64 (v1.2+2))+v2))+4)≤(b.length:Int)) <|
   ob (slices_Equal_byte_byte (ldrop (ltake b (w64 ((w64 ((w64 (v1.2+2))+v2))+4))) (w64 ((w64 (v1.2+2))+v2))) ([toU8 (Int.fdiv x (2 ^ (min (24:Int).toNat 32))),toU8 (Int.fdiv x (2 ^ (min (16:Int).toNat 32))),toU8 (Int.fdiv x (2 ^ (min (8:Int).toNat 32))),toU8 x]:List UInt8)) fun x1=>
   if (!x1)=true then
    inrO (wire_Opened_J1 (v1.1,v1.2))
   else
    zan (0≤w64 (v1.2+2)∧w64 (v1.2+2)≤w64 ((w64 (v1.2+2))+v2)∧w64 ((w64 (v1.2+2))+v2)≤(b.length:Int)) <|
    ob (zce (ldrop (ltake b (w64 ((w64 (v1.2+2))+v2))) (w64 (v1.2+2)))) fun x2=>
    zan (((v1.1++([x2]:List (List UInt8))).length:Int)*24≤140737488351232) <|
    some (Sum.inl ((v1.1++([x2]:List (List UInt8))),w64 ((w64 ((w64 (v1.2+2))+v2))+4)))
 else
  inrO (wire_Opened_J1 (v1.1,v1.2))
def wire_Opened_L1 (b:List UInt8) (v0:List (List UInt8)×Int):Option (List (List UInt8)×Int):=
 zbe (fun y=>wire_Opened_B1 b y) v0
def wire_Opened (b:List UInt8):Option (List (List UInt8)×Int):=
 wire_Opened_L1 b (([]:List (List UInt8)),0)
theorem wire_Opened_ok {b r} (hF:wire_Opened b=some r):Pe Tryz.prog 118 (.w []) [.sl 1 (b.map zaq)] (.tup [.row 66 0,.i r.2]) ⟨[],[],[(66,.z 22 1 0 (r.1.map zah))],[],[]⟩:=by
 refine PT 71 [.tmp 2,.tmp 3] [25,3] Tryz.func118 ?_
 intro Q g hfin
 unfold wire_Opened at hF
 refine NR [] [0,2,3] [] [] [(0,.sl 1 (b.map zaq)),(2,.nils),(3,.i 0)] .nil ?_
 refine NmQ (fun v=>wire_Opened_J1 v=some r) (fun v=>⟨[(2,.row 66 0),(3,.i v.2)],[],[(66,.z 22 1 0 (v.1.map zah))],[],[]⟩) ?_ ?_
 ·refine zcd ?_
  unfold wire_Opened_L1 at hF
  refine zao 2 60000 22 1 rfl rfl rfl ?_
  refine Wk_trim (fs:=[0,2,3]) (bs:=[]) (rs:=[60000]) (ms:=[]) (aa:=[]) (nv:=[]) rfl ?_
  refine zat ⟨[],[(60000,66)],[],[]⟩ rfl ?_
  refine Nitr hF [] (fun v1=>⟨[(0,.sl 1 (b.map zaq)),(2,.row 66 0),(3,.i v1.2)],[],[(66,.z 22 1 0 (v1.1.map zah))],[],[]⟩) ?_
  intro n1 v1 y1 hF ih1 dn1
  unfold wire_Opened_B1 at hF
  refine RJ (.l zaq b .z) ?_
  refine Nif hF ?_ ?_ <;> intro hb hF
  ·refine zcd ?_
   obtain ⟨h0,h1,hF⟩:=asrt2 hF
   refine NDL (bitsOp .or .i64 (w64 ((w64 ((zad b v1.2).toNat:Int))*2 ^ (min (8:Int).toNat 64))) (w64 ((zad b (w64 (v1.2+1))).toNat:Int))) (fun v2:Int=>([(4,.i v2)],[],[],[])) [.av (zaq (zad b v1.2)),.av (zaq (zad b (w64 (v1.2+1))))] [0,2,3,4] [] [66] [] (hc (idx_ok zaq h0) (hc (by decide:(0:Int)≤8) (hc (idx_ok zaq h1) .nil))) (fun v2 hv=>?_)
   have hF:=lt_elim hF hv
   refine LR0 ?_
   refine RJ (.l zaq b .z) ?_
   refine Nif hF ?_ ?_ <;> intro hb hF
   ·refine zbr rfl ?_
    have hF:=zai hF dn1
    exact metQ (v1.1,v1.2) [] hF
   ·obtain ⟨h2,hF⟩:=aE hF
    obtain ⟨x,h3,hF⟩:=oE hF
    refine RJ (.s11 zaq h2 (.b (wire_Crc_ok h3) .z)) ?_
    obtain ⟨h4,hF⟩:=aE hF
    obtain ⟨x1,h5,hF⟩:=oE hF
    refine RJ (.s11 zaq h4 (.g (by decide:(0:Int)≤24) (.g (by decide:(0:Int)≤16) (.g (by decide:(0:Int)≤8) (.a (.sealed) (.b (slices_Equal_byte_byte_ok h5) .z)))))) ?_
    refine Nif hF ?_ ?_ <;> intro hb hF
    ·refine zbr rfl ?_
     have hF:=zai hF dn1
     exact metQ (v1.1,v1.2) [] hF
    ·obtain ⟨h6,hF⟩:=aE hF
     obtain ⟨x2,h7,hF⟩:=oE hF
     have p8:=(Pe.ren (slices_Clone_byte_byte_ok h7) ⟨[],[(5,64)],[],[]⟩)
     obtain ⟨h9,hF⟩:=aE hF
     refine RJ (.s11 zaq h6 (.e [] [] p8 (.a (.sealed) (.p zah h9 .z)))) ?_
     refine LR0 ?_
     exact Nrnq [(66,⟨0,true,true,false⟩)] hF ih1
  ·refine zbr rfl ?_
   have hF:=zai hF dn1
   exact metQ (v1.1,v1.2) [] hF
 ·intro v hF
  unfold wire_Opened_J1 at hF
  refine LR0 ?_
  cases hF
  exact Wz [] hfin

/- wal.fault -/
def wal_fault (code at0:Int):Fault:=
 (⟨code,at0⟩:Fault)
theorem wal_fault_ok {code at0 r} (hF:wal_fault code at0=r):Pe Tryz.prog 107 S.none [.i code,.i at0] (.agg (zae r)) S.none:=by
 refine PT 8 [.cell 4 35] [35] Tryz.func107 ?_
 intro Q g hfin
 unfold wal_fault at hF
 refine LR0 ?_
 refine LR0 ?_
 cases hF
 exact Wz [] hfin

/- wal.Read$1 -/
def wal_Read_1 (x:UInt8):Bool:=
 decide ((x.toNat:Int)<((128:UInt8).toNat:Int))
theorem wal_Read_1_ok {x r} (hF:wal_Read_1 x=r):Pe Tryz.prog 148 S.none [.int .u8 ((x).toNat:Int)] (.bool r) S.none:=by
 refine PT 5 [.tmp 2] [4] Tryz.func148 ?_
 intro Q g hfin
 unfold wal_Read_1 at hF
 refine LR0 ?_
 refine LR0 ?_
 cases hF
 exact Wz [] hfin

/- slices.IndexFunc[[]byte,byte] -/
def slices_IndexFunc_byte_byte_J1 (v:Unit):Option Int:=
 some (-1)
def zaz (s0:List UInt8) (v1:Int):Option (Int⊕Int):=
 if (decide (v1<(s0.length:Int)))=true then
  zan (0≤v1∧v1<(s0.length:Int)) <|
  lt (wal_Read_1 (zad s0 v1)) fun x=>
  if x=true then
   some (Sum.inr v1)
  else
   some (Sum.inl (w64 (v1+1)))
 else
  inrO (slices_IndexFunc_byte_byte_J1 ())
def slices_IndexFunc_byte_byte_L1 (s0:List UInt8) (v0:Int):Option Int:=
 zbe (fun y=>zaz s0 y) v0
def slices_IndexFunc_byte_byte (s0:List UInt8):Option Int:=
 slices_IndexFunc_byte_byte_L1 s0 0
theorem slices_IndexFunc_byte_byte_ok {s0 r} (hF:slices_IndexFunc_byte_byte s0=some r):Pe Tryz.prog 147 S.none [.sl 1 (s0.map zaq),.fn 148 []] (.i r) S.none:=by
 refine PT 19 [.tmp 4] [3] Tryz.func147 ?_
 intro Q g hfin
 unfold slices_IndexFunc_byte_byte at hF
 refine LR0 ?_
 refine RJ (.l zaq s0 .z) ?_
 refine NmQ (fun v=>slices_IndexFunc_byte_byte_J1 v=some r) (fun v=>(.w [])) ?_ ?_
 ·refine zcd ?_
  unfold slices_IndexFunc_byte_byte_L1 at hF
  refine Nits hF [] (fun Z v1=>Z.up [0,1,7,8] [] [] [] [(8,.i v1)] [] [] []) ?_
  intro n1 v1 y1 hF ih1 dn1
  unfold zaz at hF
  refine LR0 ?_
  refine Nif hF ?_ ?_ <;> intro hb hF
  ·refine zcd ?_
   refine LR0 ?_
   obtain ⟨h0,hF⟩:=aE hF
   obtain ⟨x,h1,hF⟩:=lS hF
   refine RJ (.i zaq h0 (.b (wal_Read_1_ok h1) .z)) ?_
   refine Nif hF ?_ ?_ <;> intro hb hF
   ·refine LR0 ?_
    have hF:=ret_done hF dn1
    cases hF
    exact Wz [] hfin
   ·refine LR0 ?_
    exact Nrnq [] hF ih1
  ·refine zbr rfl ?_
   have hF:=zai hF dn1
   exact metQ () [] hF
 ·intro v hF
  unfold slices_IndexFunc_byte_byte_J1 at hF
  refine LR0 ?_
  cases hF
  exact Wz [] hfin

/- wire.Read -/
def wire_Read (b:List UInt8):Reader:=
 (⟨b,false⟩:Reader)
theorem wire_Read_ok {b r} (hF:wire_Read b=r):Pe Tryz.prog 149 (.w []) [.sl 1 (b.map zaq)] (.ptr 5 0) ⟨[],[(5,(c_Reader r))],[],[],[]⟩:=by
 refine PT 6 [.tmp 2] [171] Tryz.func149 ?_
 intro Q g hfin
 unfold wire_Read at hF
 refine LR0 ?_
 refine LR0 ?_
 cases hF
 exact Wz [] hfin

/- (*wire.Reader).Num -/
def wire_Reader_Num_J1 (v:Reader):Option (Int×Reader):=
 some (0,(⟨([]:List UInt8),true⟩:Reader))
def wire_Reader_Num_B1 (v1:Reader×Int×List UInt8×Int×Int):Option ((Reader×Int×List UInt8×Int×Int)⊕(Int×Reader)):=
 if (decide (v1.2.2.2.2<v1.2.2.2.1))=true then
  zan (0≤v1.2.2.2.2∧v1.2.2.2.2<(v1.2.2.1.length:Int)) <|
  zan (0≤(w64 (7*v1.2.2.2.2))) <|
  lt (bitsOp .or .i64 v1.2.1 (w64 ((w64 ((toU8 (((BitVec.ofInt 8 ((zad v1.2.2.1 v1.2.2.2.2).toNat:Int) &&& BitVec.ofInt 8 ((127:UInt8).toNat:Int)).toNat:Int))).toNat:Int))*2 ^ (min (w64 (7*v1.2.2.2.2)).toNat 64)))) fun v2=>
  if ((decide (4<v1.2.2.2.2))||(decide (1000000000<v2)))=true then
   inrO (wire_Reader_Num_J1 v1.1)
  else
   if (decide (((zad v1.2.2.1 v1.2.2.2.2).toNat:Int)<((128:UInt8).toNat:Int)))=true then
    if ((decide (0<v1.2.2.2.2))&&(decide (((zad v1.2.2.1 v1.2.2.2.2).toNat:Int)=((0:UInt8).toNat:Int))))=true then
     inrO (wire_Reader_Num_J1 v1.1)
    else
     zan (0≤w64 (v1.2.2.2.2+1)∧w64 (v1.2.2.2.2+1)≤(v1.1.b.length:Int)) <|
     some (Sum.inr (v2,(⟨(ldrop v1.1.b (w64 (v1.2.2.2.2+1))),v1.1.bad⟩:Reader)))
   else
    some (Sum.inl (v1.1,v2,v1.2.2.1,v1.2.2.2.1,w64 (v1.2.2.2.2+1)))
 else
  inrO (wire_Reader_Num_J1 v1.1)
def wire_Reader_Num_L1 (v0:Reader×Int×List UInt8×Int×Int):Option (Int×Reader):=
 zbe (fun y=>wire_Reader_Num_B1 y) v0
def zb9 (box:Reader):Option (Int×Reader):=
 wire_Reader_Num_L1 (box,0,box.b,(box.b.length:Int),0)
theorem wire_Reader_Num_ok {box r} (hF:zb9 box=some r):Pe Tryz.prog 150 ⟨[],[(100000,(c_Reader box))],[],[],[]⟩ [.ptr 100000 0] (.i r.1) ⟨[],[(100000,(c_Reader r.2))],[],[],[]⟩:=by
 refine PT 56 [.tmp 2] [3] Tryz.func150 ?_
 intro Q g hfin
 unfold zb9 at hF
 refine LR0 ?_
 refine LR0 ?_
 refine RJ (.l zaq box.b .z) ?_
 refine NmS (fun v=>wire_Reader_Num_J1 v=some r) (fun Z v=>Z.up [0] [100000] [] [] [] [(100000,(c_Reader v))] [] []) ?_ ?_
 ·refine zcd ?_
  unfold wire_Reader_Num_L1 at hF
  refine Nitr hF [] (fun v1=>⟨[(0,.ptr 100000 0),(3,.i v1.2.1),(9,.sl 1 (v1.2.2.1.map zaq)),(10,.i v1.2.2.2.1),(11,.i v1.2.2.2.2)],[(100000,(c_Reader v1.1))],[],[],[]⟩) ?_
  intro n1 v1 y1 hF ih1 dn1
  unfold wire_Reader_Num_B1 at hF
  refine LR0 ?_
  refine Nif hF ?_ ?_ <;> intro hb hF
  ·refine zcd ?_
   obtain ⟨h0,hF⟩:=aE hF
   refine RJ (.i zaq h0 .z) ?_
   obtain ⟨h1,hF⟩:=aE hF
   refine NRL (bitsOp .or .i64 v1.2.1 (w64 ((w64 ((toU8 (((BitVec.ofInt 8 ((zad v1.2.2.1 v1.2.2.2.2).toNat:Int) &&& BitVec.ofInt 8 ((127:UInt8).toNat:Int)).toNat:Int))).toNat:Int))*2 ^ (min (w64 (7*v1.2.2.2.2)).toNat 64)))) (fun v2:Int=>([(3,.i v2)],[],[],[])) [] [0,3,4,5,9,10,11] [100000] [] [] (hc h1 .nil) (fun v2 hv=>?_)
   have hF:=lt_elim hF hv
   refine LR0 ?_
   refine Nif hF ?_ ?_ <;> intro hb hF
   ·refine zbr rfl ?_
    have hF:=zai hF dn1
    exact metQ v1.1 [] hF
   ·refine LR0 ?_
    refine Nif hF ?_ ?_ <;> intro hb hF
    ·refine LR0 ?_
     refine Nif hF ?_ ?_ <;> intro hb hF
     ·refine zbr rfl ?_
      have hF:=zai hF dn1
      exact metQ v1.1 [] hF
     ·obtain ⟨h2,hF⟩:=aE hF
      refine RJ (.s10 zaq h2 .z) ?_
      refine LR0 ?_
      have hF:=ret_done hF dn1
      cases hF
      exact Wz [] hfin
    ·refine LR0 ?_
     exact Nrnq [] hF ih1
  ·refine zbr rfl ?_
   have hF:=zai hF dn1
   exact metQ v1.1 [] hF
 ·intro v hF
  unfold wire_Reader_Num_J1 at hF
  refine LR0 ?_
  refine VR [] [2] [100000] [] [] [(2,.i 0)] [(100000,[.nils,.bool true])] [] [] .nil ?_
  cases hF
  refine Wk_coeB 100000 [.sl 1 (([]:List UInt8).map zaq),.bool true] rfl (.cons (CoeS.nils 1) (.cons (CoeS.refl _) .nil)) ?_
  exact Wz [] hfin

/- (*wire.Reader).Ok -/
def wire_Reader_Ok (box:Reader):Bool:=
 (!box.bad)&&(decide ((box.b.length:Int)=0))
theorem wire_Reader_Ok_ok {box r} (hF:wire_Reader_Ok box=r):Pe Tryz.prog 151 ⟨[],[(100000,(c_Reader box))],[],[],[]⟩ [.ptr 100000 0] (.bool r) ⟨[],[(100000,(c_Reader box))],[],[],[]⟩:=by
 refine PT 16 [.tmp 2] [4] Tryz.func151 ?_
 intro Q g hfin
 unfold wire_Reader_Ok at hF
 refine LR0 ?_
 refine RJ (.a (.nat (box.b.length:Int)) (.g (fun (_:(!box.bad)=true)=>(len_ok zaq box.b)) .z)) ?_
 cases hF
 exact Wz [] hfin

/- cell.fault -/
def cell_fault (code at0:Int):Fault:=
 (⟨code,at0⟩:Fault)
theorem cell_fault_ok {code at0 r} (hF:cell_fault code at0=r):Pe Tryz.prog 134 S.none [.i code,.i at0] (.agg (zae r)) S.none:=by
 refine PT 8 [.cell 4 35] [35] Tryz.func134 ?_
 intro Q g hfin
 unfold cell_fault at hF
 refine LR0 ?_
 refine LR0 ?_
 cases hF
 exact Wz [] hfin

/- (*wire.Reader).More -/
def wire_Reader_More (box:Reader):Bool:=
 decide (0<(box.b.length:Int))
theorem wire_Reader_More_ok {box r} (hF:wire_Reader_More box=r):Pe Tryz.prog 167 ⟨[],[(100000,(c_Reader box))],[],[],[]⟩ [.ptr 100000 0] (.bool r) ⟨[],[(100000,(c_Reader box))],[],[],[]⟩:=by
 refine PT 9 [.tmp 2] [4] Tryz.func167 ?_
 intro Q g hfin
 unfold wire_Reader_More at hF
 refine LR0 ?_
 refine RJ (.l zaq box.b .z) ?_
 cases hF
 exact Wz [] hfin

/- (*wire.Reader).Text -/
def wire_Reader_Text (box:Reader):Option (List UInt8×Reader):=
 ob (zb9 box) fun x=>
 if (x.2.bad||(decide ((x.2.b.length:Int)<x.1)))=true then
  some (([]:List UInt8),(⟨([]:List UInt8),true⟩:Reader))
 else
  zan (0≤x.1∧x.1≤(x.2.b.length:Int)) <|
  zan (0≤x.1∧x.1≤(x.2.b.length:Int)) <|
  some ((ltake x.2.b x.1),(⟨(ldrop x.2.b x.1),x.2.bad⟩:Reader))
theorem wire_Reader_Text_ok {box r} (hF:wire_Reader_Text box=some r):Pe Tryz.prog 169 ⟨[],[(100000,(c_Reader box))],[],[],[]⟩ [.ptr 100000 0] (.str r.1) ⟨[],[(100000,(c_Reader r.2))],[],[],[]⟩:=by
 refine PT 43 [.tmp 2] [9] Tryz.func169 ?_
 intro Q g hfin
 unfold wire_Reader_Text at hF
 refine LR0 ?_
 obtain ⟨x,h0,hF⟩:=oE hF
 have p1:=(Pe.ren (wire_Reader_Num_ok h0) ⟨[],[],[],[]⟩)
 refine RJ (.e [100000] [] p1 .z) ?_
 refine RJ (.a (.nat (x.2.b.length:Int)) (.g (fun (_:(!x.2.bad)=true)=>(len_ok zaq x.2.b)) .z)) ?_
 refine Nif hF ?_ ?_ <;> intro hb hF
 ·refine LR0 ?_
  refine VR [] [2] [100000] [] [] [(2,.str ([]:List UInt8))] [(100000,[.nils,.bool true])] [] [] .nil ?_
  cases hF
  refine Wk_coeB 100000 [.sl 1 (([]:List UInt8).map zaq),.bool true] rfl (.cons (CoeS.nils 1) (.cons (CoeS.refl _) .nil)) ?_
  exact Wz [] hfin
 ·obtain ⟨h2,hF⟩:=aE hF
  refine RJ (.s01 zaq h2 (.a (.str (ltake x.2.b x.1)) (.g (u8s_ok (ltake x.2.b x.1)) .z))) ?_
  obtain ⟨h3,hF⟩:=aE hF
  refine RJ (.s10 zaq h3 .z) ?_
  refine LR0 ?_
  cases hF
  exact Wz [] hfin

/- (*wire.Reader).Fine -/
def wire_Reader_Fine (box:Reader):Bool:=
 !box.bad
theorem wire_Reader_Fine_ok {box r} (hF:wire_Reader_Fine box=r):Pe Tryz.prog 176 ⟨[],[(100000,(c_Reader box))],[],[],[]⟩ [.ptr 100000 0] (.bool r) ⟨[],[(100000,(c_Reader box))],[],[],[]⟩:=by
 refine PT 8 [.tmp 2] [4] Tryz.func176 ?_
 intro Q g hfin
 unfold wire_Reader_Fine at hF
 refine LR0 ?_
 refine LR0 ?_
 cases hF
 exact Wz [] hfin

/- cell.code -/
def cell_code (c:Cell):Int:=
 if ((((decide (c.Row=([]:List UInt8)))||(decide (40<(c.Row.length:Int))))||(decide (40<(c.Col.length:Int))))||(decide (200<(c.Value.length:Int))))=true then
  8
 else
  if ((decide (c.Time<0))||(decide (1000000000<c.Time)))=true then
   3
  else
   if (c.Gone&&(!decide (c.Value=([]:List UInt8))))=true then
    5
   else
    0
theorem cell_code_ok {c r} (hF:cell_code c=r):Pe Tryz.prog 141 S.none [.agg (c_Cell c)] (.i r) S.none:=by
 refine PT 42 [.tmp 2] [3] Tryz.func141 ?_
 intro Q g hfin
 unfold cell_code at hF
 refine LR0 ?_
 refine zcd ?_
 refine LR0 ?_
 refine Nif hF ?_ ?_ <;> intro hb hF
 ·refine LR0 ?_
  cases hF
  exact Wz [] hfin
 ·refine LR0 ?_
  refine Nif hF ?_ ?_ <;> intro hb hF
  ·refine LR0 ?_
   cases hF
   exact Wz [] hfin
  ·refine LR0 ?_
   refine Nif hF ?_ ?_ <;> intro hb hF
   ·refine LR0 ?_
    cases hF
    exact Wz [] hfin
   ·refine LR0 ?_
    cases hF
    exact Wz [] hfin

/- cell.From -/
def cell_From (box:Reader):Option (Cell×Bool×Reader):=
 ob (wire_Reader_Text box) fun x=>
 ob (wire_Reader_Text x.2) fun x1=>
 ob (zb9 x1.2) fun x2=>
 ob (zb9 x2.2) fun x3=>
 ob (wire_Reader_Text x3.2) fun x4=>
 lt (wire_Reader_Fine x4.2) fun x5=>
 lt (cell_code (⟨x.1,x1.1,x2.1,decide (x3.1=1),x4.1⟩:Cell)) fun x6=>
 some ((⟨x.1,x1.1,x2.1,decide (x3.1=1),x4.1⟩:Cell),((decide (x3.1<2))&&x5)&&(decide (x6=0)),x4.2)
theorem cell_From_ok {box r} (hF:cell_From box=some r):Pe Tryz.prog 168 ⟨[],[(100000,(c_Reader box))],[],[],[]⟩ [.ptr 100000 0] (.tup [.agg (c_Cell r.1),.bool r.2.1]) ⟨[],[(100000,(c_Reader r.2.2))],[],[],[]⟩:=by
 refine PT 33 [.cell 2 53,.tmp 3] [53,4] Tryz.func168 ?_
 intro Q g hfin
 unfold cell_From at hF
 refine LR0 ?_
 obtain ⟨x,h0,hF⟩:=oE hF
 have p1:=(Pe.ren (wire_Reader_Text_ok h0) ⟨[],[],[],[]⟩)
 obtain ⟨x1,h2,hF⟩:=oE hF
 have p3:=(Pe.ren (wire_Reader_Text_ok h2) ⟨[],[],[],[]⟩)
 obtain ⟨x2,h4,hF⟩:=oE hF
 have p5:=(Pe.ren (wire_Reader_Num_ok h4) ⟨[],[],[],[]⟩)
 refine RJ (.e [100000] [] p1 (.e [100000] [] p3 (.e [100000] [] p5 .z))) ?_
 obtain ⟨x3,h6,hF⟩:=oE hF
 have p7:=(Pe.ren (wire_Reader_Num_ok h6) ⟨[],[],[],[]⟩)
 refine RJ (.e [100000] [] p7 .z) ?_
 obtain ⟨x4,h8,hF⟩:=oE hF
 have p9:=(Pe.ren (wire_Reader_Text_ok h8) ⟨[],[],[],[]⟩)
 refine RJ (.e [100000] [] p9 .z) ?_
 obtain ⟨x5,h10,hF⟩:=lS hF
 obtain ⟨x6,h11,hF⟩:=lS hF
 refine DJ (.a (.callR [100000] [] [] [] (.bool x5)) (.g (fun (ga0:(decide (x3.1<2))=true)=>(Pe.ren (wire_Reader_Fine_ok h10) ⟨[],[],[],[]⟩)) (.a (.callB (.i x6)) (.g (fun (ga0:((decide (x3.1<2))&&x5)=true)=>(cell_code_ok h11)) .z)))) ?_
 cases hF
 exact Wz [] hfin

/- cmp.isNaN[string] -/
def cmp_isNaN_string (x:List UInt8):Bool:=
 !decide (x=x)
theorem cmp_isNaN_string_ok {x r} (hF:cmp_isNaN_string x=r):Pe Tryz.prog 172 S.none [.str x] (.bool r) S.none:=by
 refine PT 6 [.tmp 2] [4] Tryz.func172 ?_
 intro Q g hfin
 unfold cmp_isNaN_string at hF
 refine LR0 ?_
 refine LR0 ?_
 cases hF
 exact Wz [] hfin

/- cmp.Compare[string] -/
def cmp_Compare_string (x y0:List UInt8):Int:=
 lt (cmp_isNaN_string x) fun x1=>
 lt (cmp_isNaN_string y0) fun x2=>
 if x1=true then
  if x2=true then
   0
  else
   (-1)
 else
  if x2=true then
   1
  else
   if (Op.bytesLess x y0)=true then
    (-1)
   else
    if (Op.bytesLess y0 x)=true then
     1
    else
     0
theorem cmp_Compare_string_ok {x y0 r} (hF:cmp_Compare_string x y0=r):Pe Tryz.prog 162 S.none [.str x,.str y0] (.i r) S.none:=by
 refine PT 20 [.tmp 4] [3] Tryz.func162 ?_
 intro Q g hfin
 unfold cmp_Compare_string at hF
 refine LR0 ?_
 obtain ⟨x1,h0,hF⟩:=lS hF
 refine RJ (.b (cmp_isNaN_string_ok h0) .z) ?_
 obtain ⟨x2,h1,hF⟩:=lS hF
 refine RJ (.b (cmp_isNaN_string_ok h1) .z) ?_
 refine LR0 ?_
 refine Nif hF ?_ ?_ <;> intro hb hF
 ·refine LR0 ?_
  refine Nif hF ?_ ?_ <;> intro hb hF
  ·refine LR0 ?_
   cases hF
   exact Wz [] hfin
  ·refine LR0 ?_
   cases hF
   exact Wz [] hfin
 ·refine LR0 ?_
  refine Nif hF ?_ ?_ <;> intro hb hF
  ·refine LR0 ?_
   cases hF
   exact Wz [] hfin
  ·refine LR0 ?_
   refine Nif hF ?_ ?_ <;> intro hb hF
   ·refine LR0 ?_
    cases hF
    exact Wz [] hfin
   ·refine LR0 ?_
    refine Nif hF ?_ ?_ <;> intro hb hF
    ·refine LR0 ?_
     cases hF
     exact Wz [] hfin
    ·refine LR0 ?_
     cases hF
     exact Wz [] hfin

/- cmp.isNaN[int] -/
def cmp_isNaN_int (x:Int):Bool:=
 !decide (x=x)
theorem cmp_isNaN_int_ok {x r} (hF:cmp_isNaN_int x=r):Pe Tryz.prog 173 S.none [.i x] (.bool r) S.none:=by
 refine PT 6 [.tmp 2] [4] Tryz.func173 ?_
 intro Q g hfin
 unfold cmp_isNaN_int at hF
 refine LR0 ?_
 refine LR0 ?_
 cases hF
 exact Wz [] hfin

/- cmp.Compare[int] -/
def cmp_Compare_int (x y0:Int):Int:=
 lt (cmp_isNaN_int x) fun x1=>
 lt (cmp_isNaN_int y0) fun x2=>
 if x1=true then
  if x2=true then
   0
  else
   (-1)
 else
  if x2=true then
   1
  else
   if (decide (x<y0))=true then
    (-1)
   else
    if (decide (y0<x))=true then
     1
    else
     0
theorem cmp_Compare_int_ok {x y0 r} (hF:cmp_Compare_int x y0=r):Pe Tryz.prog 163 S.none [.i x,.i y0] (.i r) S.none:=by
 refine PT 20 [.tmp 4] [3] Tryz.func163 ?_
 intro Q g hfin
 unfold cmp_Compare_int at hF
 refine LR0 ?_
 obtain ⟨x1,h0,hF⟩:=lS hF
 refine RJ (.b (cmp_isNaN_int_ok h0) .z) ?_
 obtain ⟨x2,h1,hF⟩:=lS hF
 refine RJ (.b (cmp_isNaN_int_ok h1) .z) ?_
 refine LR0 ?_
 refine Nif hF ?_ ?_ <;> intro hb hF
 ·refine LR0 ?_
  refine Nif hF ?_ ?_ <;> intro hb hF
  ·refine LR0 ?_
   cases hF
   exact Wz [] hfin
  ·refine LR0 ?_
   cases hF
   exact Wz [] hfin
 ·refine LR0 ?_
  refine Nif hF ?_ ?_ <;> intro hb hF
  ·refine LR0 ?_
   cases hF
   exact Wz [] hfin
  ·refine LR0 ?_
   refine Nif hF ?_ ?_ <;> intro hb hF
   ·refine LR0 ?_
    cases hF
    exact Wz [] hfin
   ·refine LR0 ?_
    refine Nif hF ?_ ?_ <;> intro hb hF
    ·refine LR0 ?_
     cases hF
     exact Wz [] hfin
    ·refine LR0 ?_
     cases hF
     exact Wz [] hfin

/- cmp.Or[int] -/
def cmp_Or_int_J1 (v:Unit):Option Int:=
 some 0
def cmp_Or_int_B1 (vals:List Int) (v1:Int):Option (Int⊕Int):=
 if (decide (v1<(vals.length:Int)))=true then
  zan (0≤v1∧v1<(vals.length:Int)) <|
  if (!decide ((zad vals v1)=0))=true then
   some (Sum.inr (zad vals v1))
  else
   some (Sum.inl (w64 (v1+1)))
 else
  inrO (cmp_Or_int_J1 ())
def cmp_Or_int_L1 (vals:List Int) (v0:Int):Option Int:=
 zbe (fun y=>cmp_Or_int_B1 vals y) v0
def cmp_Or_int (vals:List Int):Option Int:=
 cmp_Or_int_L1 vals 0
theorem cmp_Or_int_ok {vals r} (hF:cmp_Or_int vals=some r):Pe Tryz.prog 161 S.none [.sl 1 (vals.map e_i64)] (.i r) S.none:=by
 refine PT 18 [.tmp 2] [3] Tryz.func161 ?_
 intro Q g hfin
 unfold cmp_Or_int at hF
 refine LR0 ?_
 refine LR0 ?_
 refine RJ (.l e_i64 vals .z) ?_
 refine NmS (fun v=>cmp_Or_int_J1 v=some r) (fun Z v=>Z.up [3] [] [] [] [] [] [] []) ?_ ?_
 ·refine zcd ?_
  unfold cmp_Or_int_L1 at hF
  refine Nits hF [] (fun Z v1=>Z.up [3,6,7,8] [] [] [] [(8,.i v1)] [] [] []) ?_
  intro n1 v1 y1 hF ih1 dn1
  unfold cmp_Or_int_B1 at hF
  refine LR0 ?_
  refine Nif hF ?_ ?_ <;> intro hb hF
  ·refine zcd ?_
   obtain ⟨h0,hF⟩:=aE hF
   refine RJ (.i e_i64 h0 .z) ?_
   refine LR0 ?_
   refine Nif hF ?_ ?_ <;> intro hb hF
   ·refine LR0 ?_
    have hF:=ret_done hF dn1
    cases hF
    exact Wz [] hfin
   ·refine LR0 ?_
    exact Nrnq [] hF ih1
  ·refine zbr rfl ?_
   have hF:=zai hF dn1
   exact metQ () [] hF
 ·intro v hF
  unfold cmp_Or_int_J1 at hF
  refine LR0 ?_
  cases hF
  exact Wz [] hfin

/- cell.Order -/
def cell_Order (a0 b:Cell):Option Int:=
 lt (cmp_Compare_string a0.Row b.Row) fun x=>
 lt (cmp_Compare_string a0.Col b.Col) fun x1=>
 lt (cmp_Compare_int b.Time a0.Time) fun x2=>
 ob (cmp_Or_int ([x,x1,x2]:List Int)) fun x3=>
 some x3
theorem cell_Order_ok {a0 b r} (hF:cell_Order a0 b=some r):Pe Tryz.prog 136 S.none [.agg (c_Cell a0),.agg (c_Cell b)] (.i r) S.none:=by
 refine PT 22 [.tmp 4] [3] Tryz.func136 ?_
 intro Q g hfin
 unfold cell_Order at hF
 refine LR0 ?_
 obtain ⟨x,h0,hF⟩:=lS hF
 obtain ⟨x1,h1,hF⟩:=lS hF
 obtain ⟨x2,h2,hF⟩:=lS hF
 obtain ⟨x3,h3,hF⟩:=oE hF
 refine DJ (.b (cmp_Compare_string_ok h0) (.b (cmp_Compare_string_ok h1) (.b (cmp_Compare_int_ok h2) (.a (.sealed) (.b (cmp_Or_int_ok h3) .z))))) ?_
 cases hF
 exact Wz [] hfin

/- cell.Check -/
def cell_Check_J1 (v:Fault):Option Fault:=
 some (⟨0,0⟩:Fault)
def cell_Check_B1 (l:List Cell) (v1:Fault×Int):Option ((Fault×Int)⊕Fault):=
 if (decide (v1.2<(l.length:Int)))=true then
  zan (0≤v1.2∧v1.2<(l.length:Int)) <|
  lt (cell_code (⟨(zad l v1.2).Row,(zad l v1.2).Col,(zad l v1.2).Time,(zad l v1.2).Gone,(zad l v1.2).Value⟩:Cell)) fun x1=>
  if (!decide (x1=0))=true then
   lt (cell_fault x1 v1.2) fun x2=>
   some (Sum.inr x2)
  else
   zan ((decide (0<v1.2))=true→0≤w64 (v1.2 - 1)∧w64 (v1.2 - 1)<(l.length:Int)) <|
   ob (if (decide (0<v1.2))=true then (cell_Order (⟨(zad l (w64 (v1.2 - 1))).Row,(zad l (w64 (v1.2 - 1))).Col,(zad l (w64 (v1.2 - 1))).Time,(zad l (w64 (v1.2 - 1))).Gone,(zad l (w64 (v1.2 - 1))).Value⟩:Cell) (⟨(zad l v1.2).Row,(zad l v1.2).Col,(zad l v1.2).Time,(zad l v1.2).Gone,(zad l v1.2).Value⟩:Cell)) else some default) fun x3=>
   if ((decide (0<v1.2))&&(decide (0≤x3)))=true then
    lt (cell_fault 10 v1.2) fun x4=>
    some (Sum.inr x4)
   else
    some (Sum.inl (v1.1,w64 (v1.2+1)))
 else
  inrO (cell_Check_J1 v1.1)
def cell_Check_L1 (l:List Cell) (v0:Fault×Int):Option Fault:=
 zbe (fun y=>cell_Check_B1 l y) v0
def cell_Check (l:List Cell):Option Fault:=
 if (decide (1000<(l.length:Int)))=true then
  lt (cell_fault 2 0) fun x=>
  some x
 else
  cell_Check_L1 l ((⟨0,0⟩:Fault),0)
theorem cell_Check_ok {l r} (hF:cell_Check l=some r):Pe Tryz.prog 108 S.none [.sl 5 (l.map zac)] (.agg (zae r)) S.none:=by
 refine PT 40 [.cell 2 35] [35] Tryz.func108 ?_
 intro Q g hfin
 unfold cell_Check at hF
 refine LR0 ?_
 refine RJ (.l zac l .z) ?_
 refine Nif hF ?_ ?_ <;> intro hb hF
 ·obtain ⟨x,h0,hF⟩:=lS hF
  refine RJ (.b (cell_fault_ok h0) .z) ?_
  cases hF
  exact Wz [] hfin
 ·refine RJ (.l zac l .z) ?_
  refine NmS (fun v=>cell_Check_J1 v=some r) (fun Z v=>Z.up [2] [2] [] [] [] [(2,(zae v))] [] []) ?_ ?_
  ·refine zcd ?_
   unfold cell_Check_L1 at hF
   refine Nits hF [] (fun Z v1=>Z.up [0,2,10,11,12] [2] [] [] [(12,.i v1.2)] [(2,(zae v1.1))] [] []) ?_
   intro n1 v1 y1 hF ih1 dn1
   unfold cell_Check_B1 at hF
   refine LR0 ?_
   refine Nif hF ?_ ?_ <;> intro hb hF
   ·refine zcd ?_
    obtain ⟨h1,hF⟩:=aE hF
    refine RJ (.i zac h1 .z) ?_
    obtain ⟨x1,h2,hF⟩:=lS hF
    refine RJ (.b (cell_code_ok h2) .z) ?_
    refine LR0 ?_
    refine Nif hF ?_ ?_ <;> intro hb hF
    ·obtain ⟨x2,h3,hF⟩:=lS hF
     refine RJ (.b (cell_fault_ok h3) .z) ?_
     have hF:=ret_done hF dn1
     cases hF
     exact Wz [] hfin
    ·obtain ⟨h4,hF⟩:=aE hF
     obtain ⟨x3,h5,hF⟩:=oE hF
     refine DJ (.a (.av (zac (zad l (w64 (v1.2 - 1))))) (.g (fun (ga0:(decide (0<v1.2))=true)=>(idx_ok zac (h4 ga0))) (.a (.callB (.i x3)) (.g (fun (ga0:(decide (0<v1.2))=true)=>(cell_Order_ok (ite_t h5 ga0))) .z)))) ?_
     refine Nif hF ?_ ?_ <;> intro hb hF
     ·obtain ⟨x4,h6,hF⟩:=lS hF
      refine RJ (.b (cell_fault_ok h6) .z) ?_
      have hF:=ret_done hF dn1
      cases hF
      exact Wz [] hfin
     ·refine LR0 ?_
      exact Nrnq [] hF ih1
   ·refine zbr rfl ?_
    have hF:=zai hF dn1
    exact metQ v1.1 [] hF
  ·intro v hF
   unfold cell_Check_J1 at hF
   refine LR0 ?_
   cases hF
   exact Wz [] hfin

/- cell.Read -/
def cell_Read_J1 (v:Fault×List Cell):Option (List Cell×Fault):=
 ob (cell_Check v.2) fun x2=>
 if (!decide (x2.Code=0))=true then
  some (([]:List Cell),x2)
 else
  some (v.2,(⟨0,0⟩:Fault))
def cell_Read_B1 (v1:Fault×List Cell×Reader):Option ((Fault×List Cell×Reader)⊕(List Cell×Fault)):=
 lt (wire_Reader_More v1.2.2) fun x3=>
 if x3=true then
  ob (cell_From v1.2.2) fun x4=>
  if (!x4.2.1)=true then
   lt (cell_fault 5 (v1.2.1.length:Int)) fun x5=>
   some (Sum.inr (([]:List Cell),x5))
  else
   zan (((v1.2.1++[x4.1]).length:Int)*64≤140737488351232) <|
   some (Sum.inl (v1.1,(v1.2.1++[x4.1]),x4.2.2))
 else
  inrO (cell_Read_J1 (v1.1,v1.2.1))
def cell_Read_L1 (v0:Fault×List Cell×Reader):Option (List Cell×Fault):=
 zbe (fun y=>cell_Read_B1 y) v0
def cell_Read (b:List UInt8):Option (List Cell×Fault):=
 if (decide (60000<(b.length:Int)))=true then
  lt (cell_fault 8 0) fun x=>
  some (([]:List Cell),x)
 else
  lt (wire_Read b) fun x1=>
  cell_Read_L1 ((⟨0,0⟩:Fault),([]:List Cell),x1)
theorem cell_Read_ok {b r} (hF:cell_Read b=some r):Pe Tryz.prog 152 (.w []) [.sl 1 (b.map zaq)] (.tup [.row 30 0,.agg (zae r.2)]) ⟨[],[],[(30,.z 53 5 0 (r.1.map zac))],[],[]⟩:=by
 refine PT 39 [.tmp 2,.cell 3 35] [28,35] Tryz.func152 ?_
 intro Q g hfin
 unfold cell_Read at hF
 refine LR0 ?_
 refine RJ (.l zaq b .z) ?_
 refine Nif hF ?_ ?_ <;> intro hb hF
 ·obtain ⟨x,h0,hF⟩:=lS hF
  refine VR [.callB (.agg (zae x))] [2,3] [3] [] [] [(2,.nils),(3,.ptr 3 0)] [(3,(zae x))] [] [] (hc (cell_fault_ok h0) .nil) ?_
  cases hF
  refine zao 2 60000 53 5 rfl rfl rfl ?_
  refine zat ⟨[],[(60000,30)],[],[]⟩ rfl ?_
  exact Wz [] hfin
 ·refine LR0 ?_
  obtain ⟨x1,h1,hF⟩:=lS hF
  have p2:=(Pe.ren (wire_Read_ok h1) ⟨[(5,14)],[],[],[]⟩)
  refine VR [cE [] [] [] [] p2] [3,4,5] [3,14] [] [] [(3,.ptr 3 0),(4,.nils),(5,.ptr 14 0)] [(3,[.i 0,.i 0]),(14,(c_Reader x1))] [] [] (hc p2 .nil) ?_
  refine NmQ (fun v=>cell_Read_J1 v=some r) (fun v=>⟨[(3,.ptr 3 0),(4,.row 30 0)],[(3,(zae v.1))],[(30,.z 53 5 0 (v.2.map zac))],[],[]⟩) ?_ ?_
  ·refine zcd ?_
   unfold cell_Read_L1 at hF
   refine zao 4 60002 53 5 rfl rfl rfl ?_
   refine Wk_trim (fs:=[3,4,5]) (bs:=[3,14]) (rs:=[60002]) (ms:=[]) (aa:=[]) (nv:=[]) rfl ?_
   refine zat ⟨[],[(60002,30)],[],[]⟩ rfl ?_
   refine Nitr hF [] (fun v1=>⟨[(3,.ptr 3 0),(4,.row 30 0),(5,.ptr 14 0)],[(3,(zae v1.1)),(14,(c_Reader v1.2.2))],[(30,.z 53 5 0 (v1.2.1.map zac))],[],[]⟩) ?_
   intro n1 v1 y1 hF ih1 dn1
   unfold cell_Read_B1 at hF
   obtain ⟨x3,h4,hF⟩:=lS hF
   refine RJ (.q [14] [] (Pe.ren (wire_Reader_More_ok h4) ⟨[(100000,14)],[],[],[]⟩) .z) ?_
   refine Nif hF ?_ ?_ <;> intro hb hF
   ·refine zcd ?_
    obtain ⟨x4,h5,hF⟩:=oE hF
    have p6:=(Pe.ren (cell_From_ok h5) ⟨[(100000,14)],[],[],[]⟩)
    refine RJ (.e [14] [] p6 .z) ?_
    refine LR0 ?_
    refine Nif hF ?_ ?_ <;> intro hb hF
    ·obtain ⟨x5,h7,hF⟩:=lS hF
     refine VR [.nat (v1.2.1.length:Int),.callB (.agg (zae x5))] [2,3] [3] [] [] [(2,.nils),(3,.ptr 3 0)] [(3,(zae x5))] [] [] (hc (len_ok zac v1.2.1) (hc (cell_fault_ok h7) .nil)) ?_
     have hF:=ret_done hF dn1
     cases hF
     refine zao 2 60003 53 5 rfl rfl rfl ?_
     refine zat ⟨[],[(60003,30)],[],[]⟩ rfl ?_
     exact Wz [] hfin
    ·obtain ⟨h8,hF⟩:=aE hF
     refine RJ (.a (.sealed) (.p zac h8 .z)) ?_
     exact Nrnq [(30,⟨0,true,true,false⟩)] hF ih1
   ·refine zbr rfl ?_
    have hF:=zai hF dn1
    exact metQ (v1.1,v1.2.1) [] hF
  ·intro v hF
   unfold cell_Read_J1 at hF
   obtain ⟨x2,h3,hF⟩:=oE hF
   refine RJ (.b (cell_Check_ok h3) .z) ?_
   refine LR0 ?_
   refine Nif hF ?_ ?_ <;> intro hb hF
   ·refine VD [] [2,3] [3] [] [] [(2,.nils),(3,.ptr 3 0)] [(3,(zae x2))] [] [] .nil ?_
    cases hF
    refine zao 2 60001 53 5 rfl rfl rfl ?_
    refine zat ⟨[],[(60001,30)],[],[]⟩ rfl ?_
    exact Wz [] hfin
   ·refine LR0 ?_
    cases hF
    exact Wz [] hfin

/- wal.Check -/
def wal_Check (num:Note):Option Fault:=
 if ((decide (num.Seq<1))||(decide (1000000000<num.Seq)))=true then
  lt (wal_fault 3 (-1)) fun x=>
  some x
 else
  if ((decide ((num.Cells.length:Int)=0))||(decide (20<(num.Cells.length:Int))))=true then
   lt (wal_fault 2 (-1)) fun x1=>
   some x1
  else
   ob (cell_Check num.Cells) fun x2=>
   some x2
theorem wal_Check_ok {num r} (hF:wal_Check num=some r):Pe Tryz.prog 64 S.none [.agg (c_Note num)] (.agg (zae r)) S.none:=by
 refine PT 28 [.cell 2 35] [35] Tryz.func64 ?_
 intro Q g hfin
 unfold wal_Check at hF
 refine LR0 ?_
 refine zcd ?_
 refine LR0 ?_
 refine Nif hF ?_ ?_ <;> intro hb hF
 ·obtain ⟨x,h0,hF⟩:=lS hF
  refine RJ (.b (wal_fault_ok h0) .z) ?_
  cases hF
  exact Wz [] hfin
 ·refine RJ (.l zac num.Cells (.a (.nat (num.Cells.length:Int)) (.g (fun (_:(!(decide ((num.Cells.length:Int)=0)))=true)=>(len_ok zac num.Cells)) .z))) ?_
  refine Nif hF ?_ ?_ <;> intro hb hF
  ·obtain ⟨x1,h1,hF⟩:=lS hF
   refine RJ (.b (wal_fault_ok h1) .z) ?_
   cases hF
   exact Wz [] hfin
  ·obtain ⟨x2,h2,hF⟩:=oE hF
   refine RJ (.b (cell_Check_ok h2) .z) ?_
   cases hF
   exact Wz [] hfin

/- wal.Read -/
def wal_Read (b:List UInt8):Option (Int×List Cell×Fault):=
 if (decide (60000<(b.length:Int)))=true then
  lt (wal_fault 8 0) fun x=>
  some (0,([]:List Cell),x)
 else
  ob (slices_IndexFunc_byte_byte b) fun x1=>
  zan (0≤w64 (1+x1)∧w64 (1+x1)≤(b.length:Int)) <|
  lt (wire_Read (ltake b (w64 (1+x1)))) fun x2=>
  ob (zb9 x2) fun x3=>
  lt (wire_Reader_Ok x3.2) fun x4=>
  if (!x4)=true then
   lt (wal_fault 5 (-1)) fun x5=>
   some (0,([]:List Cell),x5)
  else
   zan (0≤w64 (1+x1)∧w64 (1+x1)≤(b.length:Int)) <|
   ob (cell_Read (ldrop b (w64 (1+x1)))) fun x6=>
   if (!decide (x6.2.Code=0))=true then
    some (0,([]:List Cell),x6.2)
   else
    ob (wal_Check (⟨x3.1,x6.1⟩:Note)) fun x7=>
    if (!decide (x7.Code=0))=true then
     some (0,([]:List Cell),x7)
    else
     some (x3.1,x6.1,x7)
theorem wal_Read_ok {b r} (hF:wal_Read b=some r):Pe Tryz.prog 119 (.w []) [.sl 1 (b.map zaq)] (.tup [.agg [.i r.1,.row 33 0],.agg (zae r.2.2)]) ⟨[],[],[(33,.z 53 5 0 (r.2.1.map zac))],[],[]⟩:=by
 refine PT 52 [.cell 2 50,.cell 3 35] [50,35] Tryz.func119 ?_
 intro Q g hfin
 unfold wal_Read at hF
 refine LR0 ?_
 refine RJ (.l zaq b .z) ?_
 refine Nif hF ?_ ?_ <;> intro hb hF
 ·obtain ⟨x,h0,hF⟩:=lS hF
  refine VR [.callB (.agg (zae x))] [2,3] [2,3] [] [] [(2,.ptr 2 0),(3,.ptr 3 0)] [(2,[.i 0,.nils]),(3,(zae x))] [] [] (hc (wal_fault_ok h0) .nil) ?_
  cases hF
  refine za0 2 1 60000 53 5 rfl rfl rfl rfl rfl ?_
  refine zat ⟨[],[(60000,33)],[],[]⟩ rfl ?_
  exact Wz [] hfin
 ·obtain ⟨x1,h1,hF⟩:=oE hF
  refine RJ (.b (slices_IndexFunc_byte_byte_ok h1) .z) ?_
  obtain ⟨h2,hF⟩:=aE hF
  obtain ⟨x2,h3,hF⟩:=lS hF
  have p4:=(Pe.ren (wire_Read_ok h3) ⟨[(5,20)],[],[],[]⟩)
  refine RJ (.s01 zaq h2 (.e [] [] p4 .z)) ?_
  obtain ⟨x3,h5,hF⟩:=oE hF
  have p6:=(Pe.ren (wire_Reader_Num_ok h5) ⟨[(100000,20)],[],[],[]⟩)
  refine RJ (.e [20] [] p6 .z) ?_
  obtain ⟨x4,h7,hF⟩:=lS hF
  refine RJ (.q [20] [] (Pe.ren (wire_Reader_Ok_ok h7) ⟨[(100000,20)],[],[],[]⟩) .z) ?_
  refine Nif hF ?_ ?_ <;> intro hb hF
  ·obtain ⟨x5,h8,hF⟩:=lS hF
   refine VR [.callB (.agg (zae x5))] [2,3] [2,3] [] [] [(2,.ptr 2 0),(3,.ptr 3 0)] [(2,[.i 0,.nils]),(3,(zae x5))] [] [] (hc (wal_fault_ok h8) .nil) ?_
   cases hF
   refine za0 2 1 60001 53 5 rfl rfl rfl rfl rfl ?_
   refine zat ⟨[],[(60001,33)],[],[]⟩ rfl ?_
   exact Wz [] hfin
  ·obtain ⟨h9,hF⟩:=aE hF
   obtain ⟨x6,h10,hF⟩:=oE hF
   have p11:=(Pe.ren (cell_Read_ok h10) ⟨[],[(30,33)],[],[]⟩)
   refine RJ (.s10 zaq h9 (.e [] [] p11 .z)) ?_
   refine LR0 ?_
   refine Nif hF ?_ ?_ <;> intro hb hF
   ·refine VD [] [2,3] [2,3] [] [] [(2,.ptr 2 0),(3,.ptr 3 0)] [(2,[.i 0,.nils]),(3,(zae x6.2))] [] [] .nil ?_
    cases hF
    refine za0 2 1 60002 53 5 rfl rfl rfl rfl rfl ?_
    refine zat ⟨[],[(60002,33)],[],[]⟩ rfl ?_
    exact Wz [] hfin
   ·refine LR0 ?_
    obtain ⟨x7,h12,hF⟩:=oE hF
    refine RJ (.b (wal_Check_ok h12) .z) ?_
    refine LR0 ?_
    refine Nif hF ?_ ?_ <;> intro hb hF
    ·refine VD [] [2,3] [2,3] [] [] [(2,.ptr 2 0),(3,.ptr 3 0)] [(2,[.i 0,.nils]),(3,(zae x7))] [] [] .nil ?_
     cases hF
     refine za0 2 1 60003 53 5 rfl rfl rfl rfl rfl ?_
     refine zat ⟨[],[(60003,33)],[],[]⟩ rfl ?_
     exact Wz [] hfin
    ·refine LD0 ?_
     cases hF
     exact Wz [] hfin

/- wal.Notes -/
def wal_Notes_J1 (v:List Note×Int):Option (List Note×Int):=
 some (v.1,v.2)
def wal_Notes_B1 (x:List (List UInt8)×Int) (v1:List Note×Int×Int):Option ((List Note×Int×Int)⊕(List Note×Int)):=
 if (decide (v1.2.2<(x.1.length:Int)))=true then
  zan (0≤v1.2.2∧v1.2.2<(x.1.length:Int)) <|
  zan (0≤v1.2.2∧v1.2.2<(x.1.length:Int)) <|
  ob (wal_Read (zad x.1 v1.2.2)) fun x1=>
  zan ((decide (0<(v1.1.length:Int)))=true→(!(!decide (x1.2.2.Code=0)))=true→0≤w64 ((v1.1.length:Int) - 1)∧w64 ((v1.1.length:Int) - 1)<(v1.1.length:Int)) <|
  zan ((decide (0<(v1.1.length:Int)))=true→(!(!decide (x1.2.2.Code=0)))=true→0≤w64 ((v1.1.length:Int) - 1)∧w64 ((v1.1.length:Int) - 1)<(v1.1.length:Int)) <|
  if ((!decide (x1.2.2.Code=0))||((decide (0<(v1.1.length:Int)))&&(!decide (x1.1=(w64 (((zad v1.1 (w64 ((v1.1.length:Int) - 1))).Seq)+1))))))=true then
   inrO (wal_Notes_J1 (v1.1,v1.2.1))
  else
   zan (((v1.1++[(⟨x1.1,x1.2.1⟩:Note)]).length:Int)*32≤140737488351232) <|
   some (Sum.inl ((v1.1++[(⟨x1.1,x1.2.1⟩:Note)]),w64 (v1.2.1+(w64 (6+((zad x.1 v1.2.2).length:Int)))),w64 (v1.2.2+1)))
 else
  inrO (wal_Notes_J1 (v1.1,v1.2.1))
def wal_Notes_L1 (x:List (List UInt8)×Int) (v0:List Note×Int×Int):Option (List Note×Int):=
 zbe (fun y=>wal_Notes_B1 x y) v0
def wal_Notes (d:Disk):Option (List Note×Int):=
 ob (wire_Opened d.Bytes) fun x=>
 wal_Notes_L1 x (([]:List Note),0,0)
theorem wal_Notes_ok {d r} (hF:wal_Notes d=some r):Pe Tryz.prog 72 (.w []) [.agg (c_Disk d)] (.tup [.row 53 0,.i r.2]) ⟨[],[],[(53,.z 50 2 0 (r.1.map zam))],[],[]⟩:=by
 refine PT 62 [.tmp 2,.tmp 3] [41,3] Tryz.func72 ?_
 intro Q g hfin
 unfold wal_Notes at hF
 refine LR0 ?_
 obtain ⟨x,h0,hF⟩:=oE hF
 have p1:=(Pe.ren (wire_Opened_ok h0) ⟨[],[(66,15)],[],[]⟩)
 refine RJ (.e [] [] p1 .z) ?_
 refine LR0 ?_
 refine LR0 ?_
 refine VR [.nat (x.1.length:Int)] [6,7,18,19,20] [] [15] [] [(6,.nils),(7,.i 0),(18,.row 15 0),(19,.i (x.1.length:Int)),(20,.i 0)] [] [(15,.z 22 1 0 (x.1.map zah))] [] (hc (len_ok zah x.1) .nil) ?_
 refine NmQ (fun v=>wal_Notes_J1 v=some r) (fun v=>⟨[(6,.row 53 0),(7,.i v.2)],[],[(53,.z 50 2 0 (v.1.map zam))],[],[]⟩) ?_ ?_
 ·refine zcd ?_
  unfold wal_Notes_L1 at hF
  refine zao 6 60000 50 2 rfl rfl rfl ?_
  refine Wk_trim (fs:=[6,7,18,19,20]) (bs:=[]) (rs:=[15,60000]) (ms:=[]) (aa:=[]) (nv:=[]) rfl ?_
  refine zat ⟨[],[(60000,53)],[],[]⟩ rfl ?_
  refine Nitr hF [] (fun v1=>⟨[(6,.row 53 0),(7,.i v1.2.1),(18,.row 15 0),(19,.i (x.1.length:Int)),(20,.i v1.2.2)],[],[(15,.z 22 1 0 (x.1.map zah)),(53,.z 50 2 0 (v1.1.map zam))],[],[]⟩) ?_
  intro n1 v1 y1 hF ih1 dn1
  unfold wal_Notes_B1 at hF
  refine LR0 ?_
  refine Nif hF ?_ ?_ <;> intro hb hF
  ·refine zcd ?_
   obtain ⟨h2,h3,hF⟩:=asrt2 hF
   refine RJ (.x zah h2 (.r zah h3 .z)) ?_
   obtain ⟨x1,h4,hF⟩:=oE hF
   have p5:=(Pe.ren (wal_Read_ok h4) ⟨[],[(33,26)],[],[]⟩)
   refine RJ (.e [] [] p5 .z) ?_
   obtain ⟨h6,h7,hF⟩:=asrt2 hF
   refine DJ (.a (.nat (v1.1.length:Int)) (.g (fun (_:(!(!decide (x1.2.2.Code=0)))=true)=>(len_ok zam v1.1)) (.a (.nat (v1.1.length:Int)) (.g (fun (_:(decide (0<(v1.1.length:Int)))=true) (_:(!(!decide (x1.2.2.Code=0)))=true)=>(len_ok zam v1.1)) (.g (fun (ga0:(decide (0<(v1.1.length:Int)))=true) (ga1:(!(!decide (x1.2.2.Code=0)))=true)=>(ixr_ok zam (h6 ga0 ga1))) (.a (.av (zam (zad v1.1 (w64 ((v1.1.length:Int) - 1))))) (.g (fun (ga0:(decide (0<(v1.1.length:Int)))=true) (ga1:(!(!decide (x1.2.2.Code=0)))=true)=>(ldr_ok zam (h7 ga0 ga1))) .z))))))) ?_
   refine Nif hF ?_ ?_ <;> intro hb hF
   ·refine zbr rfl ?_
    have hF:=zai hF dn1
    exact metQ (v1.1,v1.2.1) [] hF
   ·obtain ⟨h8,hF⟩:=aE hF
    refine RJ (.a (.sealed) (.p zam h8 .z)) ?_
    refine RJ (.l zaq (zad x.1 v1.2.2) .z) ?_
    refine LR0 ?_
    exact Nrnq [(53,⟨0,true,true,false⟩)] hF ih1
  ·refine zbr rfl ?_
   have hF:=zai hF dn1
   exact metQ (v1.1,v1.2.1) [] hF
 ·intro v hF
  unfold wal_Notes_J1 at hF
  refine LR0 ?_
  cases hF
  exact Wz [] hfin

/- file.fault -/
def file_fault (code at0:Int):Fault:=
 (⟨code,at0⟩:Fault)
theorem file_fault_ok {code at0 r} (hF:file_fault code at0=r):Pe Tryz.prog 120 S.none [.i code,.i at0] (.agg (zae r)) S.none:=by
 refine PT 8 [.cell 4 35] [35] Tryz.func120 ?_
 intro Q g hfin
 unfold file_fault at hF
 refine LR0 ?_
 refine LR0 ?_
 cases hF
 exact Wz [] hfin

/- wire.Opened -/
def wire_Opened_v1_J1 (v:List (List UInt8)×Int):Option (List (List UInt8)×Int):=
 some (v.1,v.2)
def wire_Opened_v1_B1 (b:List UInt8) (v1:List (List UInt8)×Int):Option ((List (List UInt8)×Int)⊕(List (List UInt8)×Int)):=
 if (decide (6≤(w64 ((b.length:Int) - v1.2))))=true then
  zan (0≤v1.2∧v1.2<(b.length:Int)) <|
  zan (0≤w64 (v1.2+1)∧w64 (v1.2+1)<(b.length:Int)) <|
  lt (bitsOp .or .i64 (w64 ((w64 ((zad b v1.2).toNat:Int))*2 ^ (min (8:Int).toNat 64))) (w64 ((zad b (w64 (v1.2+1))).toNat:Int))) fun v2=>
  if (decide ((b.length:Int)<(w64 ((w64 ((w64 (v1.2+2))+v2))+4))))=true then
   inrO (wire_Opened_v1_J1 (v1.1,v1.2))
  else
   zan (0≤v1.2∧v1.2≤w64 ((w64 (v1.2+2))+v2)∧w64 ((w64 (v1.2+2))+v2)≤(b.length:Int)) <|
   ob (wire_Crc (ldrop (ltake b (w64 ((w64 (v1.2+2))+v2))) v1.2)) fun x=>
   zan (0≤w64 ((w64 (v1.2+2))+v2)∧w64 ((w64 (v1.2+2))+v2)≤w64 ((w64 ((w64 (v1.2+2))+v2))+4)∧w64 ((w64 ((w64 (v1.2+2))+v2))+4)≤(b.length:Int)) <|
   ob (slices_Equal_byte_byte (ldrop (ltake b (w64 ((w64 ((w64 (v1.2+2))+v2))+4))) (w64 ((w64 (v1.2+2))+v2))) ([toU8 (Int.fdiv x (2 ^ (min (24:Int).toNat 32))),toU8 (Int.fdiv x (2 ^ (min (16:Int).toNat 32))),toU8 (Int.fdiv x (2 ^ (min (8:Int).toNat 32))),toU8 x]:List UInt8)) fun x1=>
   if (!x1)=true then
    inrO (wire_Opened_v1_J1 (v1.1,v1.2))
   else
    zan (0≤w64 (v1.2+2)∧w64 (v1.2+2)≤w64 ((w64 (v1.2+2))+v2)∧w64 ((w64 (v1.2+2))+v2)≤(b.length:Int)) <|
    ob (zce (ldrop (ltake b (w64 ((w64 (v1.2+2))+v2))) (w64 (v1.2+2)))) fun x2=>
    zan (((v1.1++([x2]:List (List UInt8))).length:Int)*24≤140737488351232) <|
    some (Sum.inl ((v1.1++([x2]:List (List UInt8))),w64 ((w64 ((w64 (v1.2+2))+v2))+4)))
 else
  inrO (wire_Opened_v1_J1 (v1.1,v1.2))
def wire_Opened_v1_L1 (b:List UInt8) (v0:List (List UInt8)×Int):Option (List (List UInt8)×Int):=
 zbe (fun y=>wire_Opened_v1_B1 b y) v0
def wire_Opened_v1 (b:List UInt8):Option (List (List UInt8)×Int):=
 wire_Opened_v1_L1 b (([]:List (List UInt8)),0)
theorem wire_Opened_v1_ok {b r} (hF:wire_Opened_v1 b=some r):Pe Tryz.prog 118 S.none [.sl 1 (b.map zaq)] (.tup [.sl 1 (r.1.map zah),.i r.2]) S.none:=by
 refine PT 71 [.tmp 2,.tmp 3] [25,3] Tryz.func118 ?_
 intro Q g hfin
 unfold wire_Opened_v1 at hF
 refine NR [] [0,2,3] [] [] [(0,.sl 1 (b.map zaq)),(2,.nils),(3,.i 0)] .nil ?_
 refine NmQ (fun v=>wire_Opened_v1_J1 v=some r) (fun v=>⟨[(2,.row 66 0),(3,.i v.2)],[],[(66,.z 22 1 0 (v.1.map zah))],[],[]⟩) ?_ ?_
 ·refine zcd ?_
  unfold wire_Opened_v1_L1 at hF
  refine zao 2 60000 22 1 rfl rfl rfl ?_
  refine Wk_trim (fs:=[0,2,3]) (bs:=[]) (rs:=[60000]) (ms:=[]) (aa:=[]) (nv:=[]) rfl ?_
  refine zat ⟨[],[(60000,66)],[],[]⟩ rfl ?_
  refine Nitr hF [] (fun v1=>⟨[(0,.sl 1 (b.map zaq)),(2,.row 66 0),(3,.i v1.2)],[],[(66,.z 22 1 0 (v1.1.map zah))],[],[]⟩) ?_
  intro n1 v1 y1 hF ih1 dn1
  unfold wire_Opened_v1_B1 at hF
  refine RJ (.l zaq b .z) ?_
  refine Nif hF ?_ ?_ <;> intro hb hF
  ·refine zcd ?_
   obtain ⟨h0,h1,hF⟩:=asrt2 hF
   refine NDL (bitsOp .or .i64 (w64 ((w64 ((zad b v1.2).toNat:Int))*2 ^ (min (8:Int).toNat 64))) (w64 ((zad b (w64 (v1.2+1))).toNat:Int))) (fun v2:Int=>([(4,.i v2)],[],[],[])) [.av (zaq (zad b v1.2)),.av (zaq (zad b (w64 (v1.2+1))))] [0,2,3,4] [] [66] [] (hc (idx_ok zaq h0) (hc (by decide:(0:Int)≤8) (hc (idx_ok zaq h1) .nil))) (fun v2 hv=>?_)
   have hF:=lt_elim hF hv
   refine LR0 ?_
   refine RJ (.l zaq b .z) ?_
   refine Nif hF ?_ ?_ <;> intro hb hF
   ·refine zbr rfl ?_
    have hF:=zai hF dn1
    exact metQ (v1.1,v1.2) [] hF
   ·obtain ⟨h2,hF⟩:=aE hF
    obtain ⟨x,h3,hF⟩:=oE hF
    refine RJ (.s11 zaq h2 (.b (wire_Crc_ok h3) .z)) ?_
    obtain ⟨h4,hF⟩:=aE hF
    obtain ⟨x1,h5,hF⟩:=oE hF
    refine RJ (.s11 zaq h4 (.g (by decide:(0:Int)≤24) (.g (by decide:(0:Int)≤16) (.g (by decide:(0:Int)≤8) (.a (.sealed) (.b (slices_Equal_byte_byte_ok h5) .z)))))) ?_
    refine Nif hF ?_ ?_ <;> intro hb hF
    ·refine zbr rfl ?_
     have hF:=zai hF dn1
     exact metQ (v1.1,v1.2) [] hF
    ·obtain ⟨h6,hF⟩:=aE hF
     obtain ⟨x2,h7,hF⟩:=oE hF
     have p8:=(Pe.ren (slices_Clone_byte_byte_ok h7) ⟨[],[(5,64)],[],[]⟩)
     obtain ⟨h9,hF⟩:=aE hF
     refine RJ (.s11 zaq h6 (.e [] [] p8 (.a (.sealed) (.p zah h9 .z)))) ?_
     refine LR0 ?_
     exact Nrnq [(66,⟨0,true,true,false⟩)] hF ih1
  ·refine zbr rfl ?_
   have hF:=zai hF dn1
   exact metQ (v1.1,v1.2) [] hF
 ·intro v hF
  unfold wire_Opened_v1_J1 at hF
  refine LR0 ?_
  cases hF
  exact Wz [] hfin

/- wire.Read -/
def wire_Read_v1 (b:List UInt8):Reader:=
 (⟨b,false⟩:Reader)
theorem wire_Read_v1_ok {b r} (hF:wire_Read_v1 b=r):Pe Tryz.prog 149 (.w []) [.sl 1 (b.map zaq)] (.ptr 5 0) ⟨[],[(5,(c_Reader r))],[],[],[]⟩:=by
 refine PT 6 [.tmp 2] [171] Tryz.func149 ?_
 intro Q g hfin
 unfold wire_Read_v1 at hF
 refine LR0 ?_
 refine LR0 ?_
 cases hF
 exact Wz [] hfin

/- file.open -/
def file_open_J1 (x1:List (List UInt8)×Int) (v:List (List UInt8)×Reader):Option (Bool×opened×Fault):=
 lt (wire_Reader_Ok v.2) fun x4=>
 if (!x4)=true then
  lt (file_fault 5 1) fun x5=>
  some (false,default,x5)
 else
  some (true,(⟨(ltake x1.1 (w64 ((x1.1.length:Int) - 2))),v.1,(zad x1.1 (w64 ((w64 ((x1.1.length:Int) - 2))+1)))⟩:opened),(⟨0,0⟩:Fault))
def file_open_B1 (x1:List (List UInt8)×Int) (v1:List (List UInt8)×Reader×Int):Option ((List (List UInt8)×Reader×Int)⊕(Bool×opened×Fault)):=
 if (decide (v1.2.2<(w64 ((x1.1.length:Int) - 2))))=true then
  ob (wire_Reader_Text v1.2.1) fun x6=>
  zan (((v1.1++([x6.1]:List (List UInt8))).length:Int)*16≤140737488351232) <|
  ob (zb9 x6.2) fun x7=>
  zan (0≤v1.2.2∧v1.2.2<(x1.1.length:Int)) <|
  if (!decide (x7.1=((zad x1.1 v1.2.2).length:Int)))=true then
   lt (file_fault 5 1) fun x8=>
   some (Sum.inr (false,default,x8))
  else
   some (Sum.inl ((v1.1++([x6.1]:List (List UInt8))),x7.2,w64 (v1.2.2+1)))
 else
  inrO (file_open_J1 x1 (v1.1,v1.2.1))
def file_open_L1 (x1:List (List UInt8)×Int) (v0:List (List UInt8)×Reader×Int):Option (Bool×opened×Fault):=
 zbe (fun y=>file_open_B1 x1 y) v0
def file_open (b:List UInt8):Option (Bool×opened×Fault):=
 if (decide (60000<(b.length:Int)))=true then
  lt (file_fault 8 0) fun x=>
  some (false,default,x)
 else
  ob (wire_Opened_v1 b) fun x1=>
  zan ((!((!decide (x1.2=(b.length:Int)))||(decide ((w64 ((x1.1.length:Int) - 2))<0))))=true→0≤w64 ((w64 ((x1.1.length:Int) - 2))+1)∧w64 ((w64 ((x1.1.length:Int) - 2))+1)<(x1.1.length:Int)) <|
  if (((!decide (x1.2=(b.length:Int)))||(decide ((w64 ((x1.1.length:Int) - 2))<0)))||(decide (((zad x1.1 (w64 ((w64 ((x1.1.length:Int) - 2))+1))).length:Int)=0)))=true then
   lt (file_fault 5 0) fun x2=>
   some (false,default,x2)
  else
   zan (0≤w64 ((x1.1.length:Int) - 2)∧w64 ((x1.1.length:Int) - 2)≤(x1.1.length:Int)) <|
   zan (0≤w64 ((w64 ((x1.1.length:Int) - 2))+1)∧w64 ((w64 ((x1.1.length:Int) - 2))+1)<(x1.1.length:Int)) <|
   zan (0≤w64 ((x1.1.length:Int) - 2)∧w64 ((x1.1.length:Int) - 2)<(x1.1.length:Int)) <|
   lt (wire_Read_v1 (zad x1.1 (w64 ((x1.1.length:Int) - 2)))) fun x3=>
   file_open_L1 x1 (([]:List (List UInt8)),x3,0)
theorem file_open_ok {b r} (hF:file_open b=some r):Pe Tryz.prog 155 S.none [.sl 1 (b.map zaq)] (.tup [.popt r.1 (.rp (.agg (c_opened r.2.1))),.agg (zae r.2.2)]) S.none:=by
 refine PT 86 [.tmp 2,.cell 3 35] [179,35] Tryz.func155 ?_
 intro Q g hfin
 unfold file_open at hF
 refine LR0 ?_
 refine RJ (.l zaq b .z) ?_
 refine Nif hF ?_ ?_ <;> intro hb hF
 ·obtain ⟨x,h0,hF⟩:=lS hF
  refine VR [.callB (.agg (zae x))] [2,3] [3] [] [] [(2,.nilp),(3,.ptr 3 0)] [(3,(zae x))] [] [] (hc (file_fault_ok h0) .nil) ?_
  cases hF
  refine Wk_coe 2 (.popt false (.rp (.agg (c_opened default)))) rfl (.cell rfl (CoeS.popF _)) ?_
  exact Wz [] hfin
 ·obtain ⟨x1,h1,hF⟩:=oE hF
  refine RJ (.c (wire_Opened_v1_ok h1) .z) ?_
  refine RJ (.l zah x1.1 .z) ?_
  obtain ⟨h2,hF⟩:=aE hF
  refine RJ (.l zaq b (.a (.av (zah (zad x1.1 (w64 ((w64 ((x1.1.length:Int) - 2))+1))))) (.g (fun (ga0:(!((!decide (x1.2=(b.length:Int)))||(decide ((w64 ((x1.1.length:Int) - 2))<0))))=true)=>(idx_ok zah (h2 ga0))) (.a (.nat ((zad x1.1 (w64 ((w64 ((x1.1.length:Int) - 2))+1))).length:Int)) (.g (fun (_:(!((!decide (x1.2=(b.length:Int)))||(decide ((w64 ((x1.1.length:Int) - 2))<0))))=true)=>(len_ok zaq (zad x1.1 (w64 ((w64 ((x1.1.length:Int) - 2))+1))))) .z))))) ?_
  refine Nif hF ?_ ?_ <;> intro hb hF
  ·obtain ⟨x2,h3,hF⟩:=lS hF
   refine VR [.callB (.agg (zae x2))] [2,3] [3] [] [] [(2,.nilp),(3,.ptr 3 0)] [(3,(zae x2))] [] [] (hc (file_fault_ok h3) .nil) ?_
   cases hF
   refine Wk_coe 2 (.popt false (.rp (.agg (c_opened default)))) rfl (.cell rfl (CoeS.popF _)) ?_
   exact Wz [] hfin
  ·obtain ⟨h4,hF⟩:=aE hF
   obtain ⟨h5,hF⟩:=aE hF
   refine DJ (.s01 zah h4 (.i zah h5 .z)) ?_
   obtain ⟨h6,hF⟩:=aE hF
   obtain ⟨x3,h7,hF⟩:=lS hF
   have p8:=(Pe.ren (wire_Read_v1_ok h7) ⟨[(5,54)],[],[],[]⟩)
   refine RJ (.i zah h6 (.e [] [] p8 .z)) ?_
   refine VR [] [3,4,7,8,55,56] [3,49,54] [] [] [(3,.ptr 3 0),(4,.sl 1 (x1.1.map zah)),(7,.ptr 49 0),(8,.ptr 54 0),(55,.i (w64 ((x1.1.length:Int) - 2))),(56,.i 0)] [(3,[.i 0,.i 0]),(49,[.sl 1 ((ltake x1.1 (w64 ((x1.1.length:Int) - 2))).map zah),.nils,.sl 1 ((zad x1.1 (w64 ((w64 ((x1.1.length:Int) - 2))+1))).map zaq)]),(54,(c_Reader x3))] [] [] .nil ?_
   refine NmS (fun v=>file_open_J1 x1 v=some r) (fun Z v=>Z.up [3,7,8] [3,49,54] [67] [] [] [(49,[.sl 1 ((ltake x1.1 (w64 ((x1.1.length:Int) - 2))).map zah),.row 67 0,.sl 1 ((zad x1.1 (w64 ((w64 ((x1.1.length:Int) - 2))+1))).map zaq)]),(54,(c_Reader v.2))] [(67,.z 9 1 0 (v.1.map zbs))] []) ?_ ?_
   ·refine zcd ?_
    unfold file_open_L1 at hF
    refine za0 49 1 60000 9 1 rfl rfl rfl rfl rfl ?_
    refine Wk_trim (fs:=[3,4,7,8,55,56]) (bs:=[3,49,54]) (rs:=[60000]) (ms:=[]) (aa:=[]) (nv:=[]) rfl ?_
    refine zat ⟨[],[(60000,67)],[],[]⟩ rfl ?_
    refine Nitr hF [] (fun v1=>⟨[(3,.ptr 3 0),(4,.sl 1 (x1.1.map zah)),(7,.ptr 49 0),(8,.ptr 54 0),(55,.i (w64 ((x1.1.length:Int) - 2))),(56,.i v1.2.2)],[(3,[.i 0,.i 0]),(49,[.sl 1 ((ltake x1.1 (w64 ((x1.1.length:Int) - 2))).map zah),.row 67 0,.sl 1 ((zad x1.1 (w64 ((w64 ((x1.1.length:Int) - 2))+1))).map zaq)]),(54,(c_Reader v1.2.1))],[(67,.z 9 1 0 (v1.1.map zbs))],[],[]⟩) ?_
    intro n1 v1 y1 hF ih1 dn1
    unfold file_open_B1 at hF
    refine LR0 ?_
    refine Nif hF ?_ ?_ <;> intro hb hF
    ·refine zcd ?_
     refine LR0 ?_
     obtain ⟨x6,h11,hF⟩:=oE hF
     have p12:=(Pe.ren (wire_Reader_Text_ok h11) ⟨[(100000,54)],[],[],[]⟩)
     obtain ⟨h13,hF⟩:=aE hF
     refine DJ (.e [54] [] p12 (.a (.sealed) (.p zbs h13 .z))) ?_
     obtain ⟨x7,h14,hF⟩:=oE hF
     have p15:=(Pe.ren (wire_Reader_Num_ok h14) ⟨[(100000,54)],[],[],[]⟩)
     obtain ⟨h16,hF⟩:=aE hF
     refine DJ (.e [54] [] p15 (.i zah h16 (.l zaq (zad x1.1 v1.2.2) .z))) ?_
     refine Nif hF ?_ ?_ <;> intro hb hF
     ·obtain ⟨x8,h17,hF⟩:=lS hF
      refine VR [.callB (.agg (zae x8))] [2,3] [3] [] [] [(2,.nilp),(3,.ptr 3 0)] [(3,(zae x8))] [] [] (hc (file_fault_ok h17) .nil) ?_
      have hF:=ret_done hF dn1
      cases hF
      refine Wk_coe 2 (.popt false (.rp (.agg (c_opened default)))) rfl (.cell rfl (CoeS.popF _)) ?_
      exact Wz [] hfin
     ·refine LR0 ?_
      exact Nrnq [(67,⟨0,true,true,false⟩)] hF ih1
    ·refine zbr rfl ?_
     have hF:=zai hF dn1
     exact metQ (v1.1,v1.2.1) [] hF
   ·intro v hF
    unfold file_open_J1 at hF
    obtain ⟨x4,h9,hF⟩:=lS hF
    refine RJ (.q [54] [] (Pe.ren (wire_Reader_Ok_ok h9) ⟨[(100000,54)],[],[],[]⟩) .z) ?_
    refine Nif hF ?_ ?_ <;> intro hb hF
    ·obtain ⟨x5,h10,hF⟩:=lS hF
     refine VR [.callB (.agg (zae x5))] [2,3] [3] [] [] [(2,.nilp),(3,.ptr 3 0)] [(3,(zae x5))] [] [] (hc (file_fault_ok h10) .nil) ?_
     cases hF
     refine Wk_coe 2 (.popt false (.rp (.agg (c_opened default)))) rfl (.cell rfl (CoeS.popF _)) ?_
     exact Wz [] hfin
    ·refine VR [] [2,3] [3,49] [67] [] [(2,.ptr 49 0),(3,.ptr 3 0)] [(3,[.i 0,.i 0]),(49,[.sl 1 ((ltake x1.1 (w64 ((x1.1.length:Int) - 2))).map zah),.row 67 0,.sl 1 ((zad x1.1 (w64 ((w64 ((x1.1.length:Int) - 2))+1))).map zaq)])] [(67,.z 9 1 0 (v.1.map zbs))] [] .nil ?_
     refine Wk_sealBX [] 49 rfl rfl ?_
     refine Wk_rpBx 2 49 [3] [3] [] [] rfl rfl rfl rfl rfl rfl rfl (by kernel_rfl) rfl ?_
     cases hF
     refine Wk_coe 2 (.popt true (.rp (.agg [.sl 1 ((ltake x1.1 (w64 ((x1.1.length:Int) - 2))).map zah),.sl 1 (v.1.map zbs),.sl 1 ((zad x1.1 (w64 ((w64 ((x1.1.length:Int) - 2))+1))).map zaq)]))) rfl (.cell rfl (CoeS.popT _)) ?_
     exact Wz [] hfin

/- (*file.opened).cells -/
def file_opened_cells_J1 (v:List Cell):Option (List Cell×Bool):=
 ob (cell_Check v) fun x=>
 some (v,decide (x.Code=0))
def zb2 (to0:Int) (v1:opened×List Cell×Int):Option ((opened×List Cell×Int)⊕(List Cell×Bool)):=
 if (decide (v1.2.2<to0))=true then
  zan (0≤v1.2.2∧v1.2.2<(v1.1.bodies.length:Int)) <|
  ob (cell_Read (zad v1.1.bodies v1.2.2)) fun x1=>
  zan ((!((!decide (x1.2.Code=0))||(decide ((x1.1.length:Int)=0))))=true→0≤(0:Int)∧0<(x1.1.length:Int)) <|
  zan ((!((!decide (x1.2.Code=0))||(decide ((x1.1.length:Int)=0))))=true→0≤(0:Int)∧0<(x1.1.length:Int)) <|
  zan ((!((!decide (x1.2.Code=0))||(decide ((x1.1.length:Int)=0))))=true→0≤v1.2.2∧v1.2.2<(v1.1.rows.length:Int)) <|
  if (((!decide (x1.2.Code=0))||(decide ((x1.1.length:Int)=0)))||(!decide (((zad x1.1 0).Row)=(zad v1.1.rows v1.2.2))))=true then
   some (Sum.inr (([]:List Cell),false))
  else
   zan (((v1.2.1++x1.1).length:Int)*64≤140737488351232) <|
   some (Sum.inl (v1.1,(v1.2.1++x1.1),w64 (v1.2.2+1)))
 else
  inrO (file_opened_cells_J1 v1.2.1)
def file_opened_cells_L1 (to0:Int) (v0:opened×List Cell×Int):Option (List Cell×Bool):=
 zbe (fun y=>zb2 to0 y) v0
def file_opened_cells (o o1:List (List UInt8)) (o2:List UInt8) (from0 to0:Int):Option (List Cell×Bool):=
 file_opened_cells_L1 to0 ((⟨o,o1,o2⟩:opened),([]:List Cell),from0)
theorem file_opened_cells_ok {o o1 o2 from0 to0 r} (hF:file_opened_cells o o1 o2 from0 to0=some r):Pe Tryz.prog 156 (.w []) [.rp (.agg [.sl 1 (o.map zah),.sl 1 (o1.map zbs),.sl 1 (o2.map zaq)]),.i from0,.i to0] (.tup [.row 53 0,.bool r.2]) ⟨[],[],[(53,.z 53 5 0 (r.1.map zac))],[],[]⟩:=by
 refine PT 59 [.tmp 6,.tmp 7] [28,4] Tryz.func156 ?_
 intro Q g hfin
 unfold file_opened_cells at hF
 refine LR0 ?_
 refine LR0 ?_
 refine NR [] [0,2,8,9] [] [] [(0,.rp (.agg [.sl 1 (o.map zah),.sl 1 (o1.map zbs),.sl 1 (o2.map zaq)])),(2,.i to0),(8,.nils),(9,.i from0)] .nil ?_
 refine NmQ (fun v=>file_opened_cells_J1 v=some r) (fun v=>⟨[(8,.row 53 0)],[],[(53,.z 53 5 0 (v.map zac))],[],[]⟩) ?_ ?_
 ·refine zcd ?_
  unfold file_opened_cells_L1 at hF
  refine zao 8 60000 53 5 rfl rfl rfl ?_
  refine Wk_trim (fs:=[0,2,8,9]) (bs:=[]) (rs:=[60000]) (ms:=[]) (aa:=[]) (nv:=[]) rfl ?_
  refine zat ⟨[],[(60000,53)],[],[]⟩ rfl ?_
  refine Nitr hF [] (fun v1=>⟨[(0,.rp (.agg (c_opened v1.1))),(2,.i to0),(8,.row 53 0),(9,.i v1.2.2)],[],[(53,.z 53 5 0 (v1.2.1.map zac))],[],[]⟩) ?_
  intro n1 v1 y1 hF ih1 dn1
  unfold zb2 at hF
  refine LR0 ?_
  refine Nif hF ?_ ?_ <;> intro hb hF
  ·refine zcd ?_
   obtain ⟨h1,hF⟩:=aE hF
   obtain ⟨x1,h2,hF⟩:=oE hF
   have p3:=(Pe.ren (cell_Read_ok h2) ⟨[],[(30,26)],[],[]⟩)
   refine RJ (.i zah h1 (.e [] [] p3 .z)) ?_
   obtain ⟨h4,h5,hF⟩:=asrt2 hF
   obtain ⟨h6,hF⟩:=aE hF
   refine DJ (.a (.nat (x1.1.length:Int)) (.g (fun (_:(!(!decide (x1.2.Code=0)))=true)=>(len_ok zac x1.1)) (.g (fun (ga0:(!((!decide (x1.2.Code=0))||(decide ((x1.1.length:Int)=0))))=true)=>(ixr_ok zac (h4 ga0))) (.a (.av (zac (zad x1.1 0))) (.g (fun (ga0:(!((!decide (x1.2.Code=0))||(decide ((x1.1.length:Int)=0))))=true)=>(ldr_ok zac (h5 ga0))) (.a (.av (zbs (zad v1.1.rows v1.2.2))) (.g (fun (ga0:(!((!decide (x1.2.Code=0))||(decide ((x1.1.length:Int)=0))))=true)=>(idx_ok zbs (h6 ga0))) .z))))))) ?_
   refine Nif hF ?_ ?_ <;> intro hb hF
   ·refine NR [] [6,7] [] [] [(6,.nils),(7,.bool false)] .nil ?_
    have hF:=ret_done hF dn1
    cases hF
    refine zao 6 60001 53 5 rfl rfl rfl ?_
    refine zat ⟨[],[(60001,53)],[],[]⟩ rfl ?_
    exact Wz [] hfin
   ·obtain ⟨h7,hF⟩:=aE hF
    refine RJ (.p zac h7 .z) ?_
    refine LR0 ?_
    exact Nrnq [(53,⟨0,true,true,false⟩)] hF ih1
  ·refine zbr rfl ?_
   have hF:=zai hF dn1
   exact metQ v1.2.1 [] hF
 ·intro v hF
  unfold file_opened_cells_J1 at hF
  obtain ⟨x,h0,hF⟩:=oE hF
  refine RJ (.b (cell_Check_ok h0) .z) ?_
  cases hF
  exact Wz [] hfin

/- file.spots -/
def file_spots_J1 (v:Arr3_3×Arr3_3):Option Arr3_3:=
 some v.2
def file_spots (row:List UInt8) (bits:Int):Option Arr3_3:=
 zan ((row.length:Int)≤140737488351232) <|
 ob (wire_Crc row) fun x=>
 zan (bits≠0) <|
 lt (Int.tmod (w64 ((Int.tmod (w64 x) 65536)+(w64 (0*(w64 (Int.tdiv (w64 x) 65536)))))) bits) fun v1=>
 zan (bits≠0) <|
 lt (Int.tmod (w64 ((Int.tmod (w64 x) 65536)+(w64 (1*(w64 (Int.tdiv (w64 x) 65536)))))) bits) fun v2=>
 zan (bits≠0) <|
 lt (Int.tmod (w64 ((Int.tmod (w64 x) 65536)+(w64 (2*(w64 (Int.tdiv (w64 x) 65536)))))) bits) fun v3=>
 file_spots_J1 ((⟨0,0,0⟩:Arr3_3),(⟨v1,v2,v3⟩:Arr3_3))
theorem file_spots_ok {row bits r} (hF:file_spots row bits=some r):Pe Tryz.prog 153 S.none [.str row,.i bits] (.agg (c_Arr3_3 r)) S.none:=by
 refine PT 28 [.cell 4 174] [174] Tryz.func153 ?_
 intro Q g hfin
 unfold file_spots at hF
 refine LR0 ?_
 obtain ⟨h0,hF⟩:=aE hF
 obtain ⟨x,h1,hF⟩:=oE hF
 refine RJ (.g (bof_ok h0) (.b (wire_Crc_ok h1) .z)) ?_
 refine LR0 ?_
 refine LR0 ?_
 refine NmS (fun v=>file_spots_J1 v=some r) (fun Z v=>Z.up [4,6] [4,6] [] [] [] [(4,(c_Arr3_3 v.1)),(6,(c_Arr3_3 v.2))] [] []) ?_ ?_
 ·refine zcd ?_
  refine Wk_unroll 9 ?_
  refine Nagain ?_
  refine LR0 ?_
  refine Ntrue (by kernel_rfl) ?_
  refine zcd ?_
  refine LR0 ?_
  obtain ⟨h2,hF⟩:=aE hF
  refine NRL (Int.tmod (w64 ((Int.tmod (w64 x) 65536)+(w64 (0*(w64 (Int.tdiv (w64 x) 65536)))))) bits) (fun v1:Int=>([],[(6,[.i v1,.i 0,.i 0])],[],[])) [] [1,4,5,6,12] [4,6] [] [] (hc (by decide:(65536:Int)≠0) (hc (by decide:(65536:Int)≠0) (hc h2 (hc (⟨by decide,by decide⟩:(0:Int)≤0∧(0:Int)<((3:Nat):Int)) .nil)))) (fun v1 hv=>?_)
  have hF:=lt_elim hF hv
  refine LR0 ?_
  refine Nagain ?_
  refine LR0 ?_
  refine Ntrue (by kernel_rfl) ?_
  refine zcd ?_
  refine LR0 ?_
  obtain ⟨h3,hF⟩:=aE hF
  refine NRL (Int.tmod (w64 ((Int.tmod (w64 x) 65536)+(w64 (1*(w64 (Int.tdiv (w64 x) 65536)))))) bits) (fun v2:Int=>([],[(6,[.i v1,.i v2,.i 0])],[],[])) [] [1,4,5,6,12] [4,6] [] [] (hc (by decide:(65536:Int)≠0) (hc (by decide:(65536:Int)≠0) (hc h3 (hc (⟨by decide,by decide⟩:(0:Int)≤1∧(1:Int)<((3:Nat):Int)) .nil)))) (fun v2 hv=>?_)
  have hF:=lt_elim hF hv
  refine LR0 ?_
  refine Nagain ?_
  refine LR0 ?_
  refine Ntrue (by kernel_rfl) ?_
  refine zcd ?_
  refine LR0 ?_
  obtain ⟨h4,hF⟩:=aE hF
  refine NRL (Int.tmod (w64 ((Int.tmod (w64 x) 65536)+(w64 (2*(w64 (Int.tdiv (w64 x) 65536)))))) bits) (fun v3:Int=>([],[(6,[.i v1,.i v2,.i v3])],[],[])) [] [1,4,5,6,12] [4,6] [] [] (hc (by decide:(65536:Int)≠0) (hc (by decide:(65536:Int)≠0) (hc h4 (hc (⟨by decide,by decide⟩:(0:Int)≤2∧(2:Int)<((3:Nat):Int)) .nil)))) (fun v3 hv=>?_)
  have hF:=lt_elim hF hv
  refine LR0 ?_
  refine Nagain ?_
  refine LR0 ?_
  refine Nfalse (by kernel_rfl) ?_
  refine zbr rfl ?_
  exact metQ ((⟨0,0,0⟩:Arr3_3),(⟨v1,v2,v3⟩:Arr3_3)) [] hF
 ·intro v hF
  unfold file_spots_J1 at hF
  refine LR0 ?_
  cases hF
  exact Wz [] hfin

/- file.filter -/
def file_filter_J2 (v1:List UInt8):Option (List UInt8):=
 some v1
def file_filter_J3 (v2:List UInt8×Int) (v3:List UInt8):Option ((List UInt8×Int)⊕(List UInt8)):=
 some (Sum.inl (v3,w64 (v2.2+1)))
def file_filter_B1 (l:List Cell) (v2:List UInt8×Int):Option ((List UInt8×Int)⊕(List UInt8)):=
 if (decide (v2.2<(l.length:Int)))=true then
  zan (0≤v2.2∧v2.2<(l.length:Int)) <|
  ob (file_spots ((zad l v2.2).Row) (w64 (8*(v2.1.length:Int)))) fun x=>
  zan (0≤w64 (Int.tdiv x.p0 8)∧w64 (Int.tdiv x.p0 8)<(v2.1.length:Int)) <|
  zan (0≤w64 (Int.tdiv x.p0 8)∧w64 (Int.tdiv x.p0 8)<(v2.1.length:Int)) <|
  zan (0≤(Int.tmod x.p0 8)) <|
  zan (0≤w64 (Int.tdiv x.p0 8)∧w64 (Int.tdiv x.p0 8)<(v2.1.length:Int)) <|
  zan (0≤w64 (Int.tdiv x.p0 8)∧w64 (Int.tdiv x.p0 8)<(v2.1.length:Int)) <|
  lt ((lset v2.1 (w64 (Int.tdiv x.p0 8)) (toU8 (((BitVec.ofInt 8 ((zad v2.1 (w64 (Int.tdiv x.p0 8))).toNat:Int) ||| BitVec.ofInt 8 ((toU8 (((1:UInt8).toNat:Int)*2 ^ (min (Int.tmod x.p0 8).toNat 8))).toNat:Int)).toNat:Int))))) fun v4=>
  zan (0≤w64 (Int.tdiv x.p1 8)∧w64 (Int.tdiv x.p1 8)<(v4.length:Int)) <|
  zan (0≤w64 (Int.tdiv x.p1 8)∧w64 (Int.tdiv x.p1 8)<(v4.length:Int)) <|
  zan (0≤(Int.tmod x.p1 8)) <|
  zan (0≤w64 (Int.tdiv x.p1 8)∧w64 (Int.tdiv x.p1 8)<(v4.length:Int)) <|
  zan (0≤w64 (Int.tdiv x.p1 8)∧w64 (Int.tdiv x.p1 8)<(v4.length:Int)) <|
  lt ((lset v4 (w64 (Int.tdiv x.p1 8)) (toU8 (((BitVec.ofInt 8 ((zad v4 (w64 (Int.tdiv x.p1 8))).toNat:Int) ||| BitVec.ofInt 8 ((toU8 (((1:UInt8).toNat:Int)*2 ^ (min (Int.tmod x.p1 8).toNat 8))).toNat:Int)).toNat:Int))))) fun v5=>
  zan (0≤w64 (Int.tdiv x.p2 8)∧w64 (Int.tdiv x.p2 8)<(v5.length:Int)) <|
  zan (0≤w64 (Int.tdiv x.p2 8)∧w64 (Int.tdiv x.p2 8)<(v5.length:Int)) <|
  zan (0≤(Int.tmod x.p2 8)) <|
  zan (0≤w64 (Int.tdiv x.p2 8)∧w64 (Int.tdiv x.p2 8)<(v5.length:Int)) <|
  zan (0≤w64 (Int.tdiv x.p2 8)∧w64 (Int.tdiv x.p2 8)<(v5.length:Int)) <|
  lt ((lset v5 (w64 (Int.tdiv x.p2 8)) (toU8 (((BitVec.ofInt 8 ((zad v5 (w64 (Int.tdiv x.p2 8))).toNat:Int) ||| BitVec.ofInt 8 ((toU8 (((1:UInt8).toNat:Int)*2 ^ (min (Int.tmod x.p2 8).toNat 8))).toNat:Int)).toNat:Int))))) fun v6=>
  file_filter_J3 v2 v6
 else
  inrO (file_filter_J2 v2.1)
def file_filter_L1 (l:List Cell) (v0:List UInt8×Int):Option (List UInt8):=
 zbe (fun y=>file_filter_B1 l y) v0
def file_filter_J1 (l:List Cell) (v:Int):Option (List UInt8):=
 zan (0≤((max 1 v):Int)∧(max 1 v)≤(max 1 v)∧(max 1 v)*1≤140737488351232) <|
 file_filter_L1 l ((List.replicate (max 1 v).toNat ((0:UInt8):UInt8)),0)
def file_filter_B2 (l:List Cell) (v7:Int×Int):Option ((Int×Int)⊕(List UInt8)):=
 if (decide (v7.2<(l.length:Int)))=true then
  zan (0≤v7.2∧v7.2<(l.length:Int)) <|
  zan ((!(decide (v7.2=0)))=true→0≤w64 (v7.2 - 1)∧w64 (v7.2 - 1)<(l.length:Int)) <|
  ob (
   if ((decide (v7.2=0))||(!decide (((zad l v7.2).Row)=((zad l (w64 (v7.2 - 1))).Row))))=true then
    some (w64 (v7.1+1))
   else
    some v7.1) fun v8=>
  some (Sum.inl (v8,w64 (v7.2+1)))
 else
  inrO (file_filter_J1 l v7.1)
def file_filter_L2 (l:List Cell) (v0:Int×Int):Option (List UInt8):=
 zbe (fun y=>file_filter_B2 l y) v0
def file_filter (l:List Cell):Option (List UInt8):=
 file_filter_L2 l (0,0)
theorem file_filter_ok {l r} (hF:file_filter l=some r):Pe Tryz.prog 124 (.w []) [.sl 5 (l.map zac)] (.row 36 0) ⟨[],[],[(36,.o 5 1 0 (r.map zaq))],[],[]⟩:=by
 refine PT 65 [.tmp 2] [22] Tryz.func124 ?_
 intro Q g hfin
 unfold file_filter at hF
 refine LR0 ?_
 refine LR0 ?_
 refine RJ (.l zac l .z) ?_
 refine NmS (fun v=>file_filter_J1 l v=some r) (fun Z v=>Z.up [0,3] [] [] [] [(3,.i v)] [] [] []) ?_ ?_
 ·refine zcd ?_
  unfold file_filter_L2 at hF
  refine Nits hF [] (fun Z v7=>Z.up [0,3,11,12,13] [] [] [] [(3,.i v7.1),(13,.i v7.2)] [] [] []) ?_
  intro n1 v7 y1 hF ih1 dn1
  unfold file_filter_B2 at hF
  refine LR0 ?_
  refine Nif hF ?_ ?_ <;> intro hb hF
  ·refine zcd ?_
   obtain ⟨h18,hF⟩:=aE hF
   refine RJ (.i zac h18 .z) ?_
   obtain ⟨h19,hF⟩:=aE hF
   refine DJ (.a (.av (zac (zad l (w64 (v7.2 - 1))))) (.g (fun (ga0:(!(decide (v7.2=0)))=true)=>(idx_ok zac (h19 ga0))) .z)) ?_
   obtain ⟨v8,hv,hF⟩:=oE hF
   refine NmT (fun Z=>Z.up [0,3,11,12,13] [] [] [] [(3,.i v8)] [] [] []) ?_ ?_
   ·have hF:=hv
    refine Nif hF ?_ ?_ <;> intro hb hF
    ·refine LR0 ?_
     cases hF
     exact met' []
    ·cases hF
     exact met' []
   ·refine LR0 ?_
    exact Nrnq [] hF ih1
  ·refine zbr rfl ?_
   have hF:=zai hF dn1
   exact metQ v7.1 [] hF
 ·intro v hF
  unfold file_filter_J1 at hF
  obtain ⟨h0,hF⟩:=aE hF
  refine RJ (.a (.xs ((List.replicate (max 1 v).toNat ((0:UInt8):UInt8)).map zaq)) (.g (mk_ok h0) (.g (rep_ok zaq (max 1 v) ((0:UInt8):UInt8)) .z))) ?_
  refine RJ (.l zac l .z) ?_
  refine NmS (fun v1=>file_filter_J2 v1=some r) (fun Z v1=>Z.up [6] [] [36] [] [] [] [(36,.o 5 1 0 (v1.map zaq))] []) ?_ ?_
  ·refine zcd ?_
   unfold file_filter_L1 at hF
   refine Nits hF [] (fun Z v2=>Z.up [6,37,38,39] [] [36] [] [(39,.i v2.2)] [] [(36,.o 5 1 0 (v2.1.map zaq))] []) ?_
   intro n1 v2 y1 hF ih1 dn1
   unfold file_filter_B1 at hF
   refine LR0 ?_
   refine Nif hF ?_ ?_ <;> intro hb hF
   ·refine zcd ?_
    obtain ⟨h1,hF⟩:=aE hF
    refine RJ (.i zac h1 .z) ?_
    obtain ⟨x,h2,hF⟩:=oE hF
    refine RJ (.l zaq v2.1 (.b (file_spots_ok h2) .z)) ?_
    refine NmS (fun v3=>file_filter_J3 v2 v3=some y1) (fun Z v3=>Z.up [6,37,38,39] [] [36] [] [] [] [(36,.o 5 1 0 (v3.map zaq))] []) ?_ ?_
    ·refine zcd ?_
     refine Wk_unroll 9 ?_
     refine Nagain ?_
     refine LR0 ?_
     refine Ntrue (by kernel_rfl) ?_
     refine zcd ?_
     refine RJ (.g (⟨by decide,by decide⟩:(0:Int)≤0∧(0:Int)<((3:Nat):Int)) .z) ?_
     obtain ⟨h3,h4,h5,h6,hF⟩:=asrt4 hF
     obtain ⟨h7,hF⟩:=aE hF
     obtain ⟨v4,hv,hF⟩:=lS hF
     refine DJ (.g (by decide:(8:Int)≠0) (.x zaq h3 (.r zaq h4 (.g (by decide:(8:Int)≠0) (.g h5 (.x zaq h6 (.wN zaq h7 hv .z))))))) ?_
     refine LR0 ?_
     refine Nagain ?_
     refine LR0 ?_
     refine Ntrue (by kernel_rfl) ?_
     refine zcd ?_
     refine RJ (.g (⟨by decide,by decide⟩:(0:Int)≤1∧(1:Int)<((3:Nat):Int)) .z) ?_
     obtain ⟨h8,h9,h10,h11,hF⟩:=asrt4 hF
     obtain ⟨h12,hF⟩:=aE hF
     obtain ⟨v5,hv,hF⟩:=lS hF
     refine DJ (.g (by decide:(8:Int)≠0) (.x zaq h8 (.r zaq h9 (.g (by decide:(8:Int)≠0) (.g h10 (.x zaq h11 (.wN zaq h12 hv .z))))))) ?_
     refine LR0 ?_
     refine Nagain ?_
     refine LR0 ?_
     refine Ntrue (by kernel_rfl) ?_
     refine zcd ?_
     refine RJ (.g (⟨by decide,by decide⟩:(0:Int)≤2∧(2:Int)<((3:Nat):Int)) .z) ?_
     obtain ⟨h13,h14,h15,h16,hF⟩:=asrt4 hF
     obtain ⟨h17,hF⟩:=aE hF
     obtain ⟨v6,hv,hF⟩:=lS hF
     refine DJ (.g (by decide:(8:Int)≠0) (.x zaq h13 (.r zaq h14 (.g (by decide:(8:Int)≠0) (.g h15 (.x zaq h16 (.wN zaq h17 hv .z))))))) ?_
     refine LR0 ?_
     refine Nagain ?_
     refine LR0 ?_
     refine Nfalse (by kernel_rfl) ?_
     refine zbr rfl ?_
     exact metQ v6 [] hF
    ·intro v3 hF
     unfold file_filter_J3 at hF
     refine LR0 ?_
     exact Nrnq [] hF ih1
   ·refine zbr rfl ?_
    have hF:=zai hF dn1
    exact metQ v2.1 [] hF
  ·intro v1 hF
   unfold file_filter_J2 at hF
   refine LR0 ?_
   cases hF
   exact Wz [] hfin

/- file.Open -/
def file_Open (b:List UInt8):Option (List Cell×Fault):=
 ob (file_open b) fun x=>
 if (!decide (x.2.2.Code=0))=true then
  some (([]:List Cell),x.2.2)
 else
  zan (x.1=true) <|
  ob (file_opened_cells x.2.1.bodies x.2.1.rows x.2.1.filter 0 (x.2.1.bodies.length:Int)) fun x1=>
  if ((!x1.2)||(decide (500<(x1.1.length:Int))))=true then
   lt (file_fault 5 2) fun x2=>
   some (([]:List Cell),x2)
  else
   ob (file_filter x1.1) fun x3=>
   ob (slices_Equal_byte_byte x3 x.2.1.filter) fun x4=>
   if (!x4)=true then
    lt (file_fault 5 3) fun x5=>
    some (([]:List Cell),x5)
   else
    some (x1.1,x.2.2)
theorem file_Open_ok {b r} (hF:file_Open b=some r):Pe Tryz.prog 130 (.w []) [.sl 1 (b.map zaq)] (.tup [.row 24 0,.agg (zae r.2)]) ⟨[],[],[(24,⟨53,5,0,(r.1.map zac).length,0,true,0,[],(r.1.map zac)⟩)],[],[]⟩:=by
 refine PT 46 [.tmp 2,.cell 3 35] [28,35] Tryz.func130 ?_
 intro Q g hfin
 unfold file_Open at hF
 refine LR0 ?_
 obtain ⟨x,h0,hF⟩:=oE hF
 refine RJ (.c (file_open_ok h0) .z) ?_
 refine VR [] [3,4,5,15] [3,5] [] [] [(3,.ptr 3 0),(4,.popt x.1 (.rp (.agg (c_opened x.2.1)))),(5,.ptr 5 0),(15,.bool (!decide (x.2.2.Code=0)))] [(3,[.i 0,.i 0]),(5,(zae x.2.2))] [] [] .nil ?_
 refine Nif hF ?_ ?_ <;> intro hb hF
 ·refine VD [] [2,3] [3] [] [] [(2,.nils),(3,.ptr 3 0)] [(3,(zae x.2.2))] [] [] .nil ?_
  cases hF
  refine zao 2 60000 53 5 rfl rfl rfl ?_
  refine zat ⟨[],[(60000,24)],[],[]⟩ rfl ?_
  exact Wz [(24,⟨0,true,true,true⟩)] hfin
 ·obtain ⟨h1,hF⟩:=aE hF
  refine Wk_coe 4 (.rp (.agg (c_opened x.2.1))) rfl (.cell rfl (CoeS.unp h1)) ?_
  obtain ⟨x1,h2,hF⟩:=oE hF
  have p3:=(Pe.ren (file_opened_cells_ok h2) ⟨[],[(53,24)],[],[]⟩)
  refine RJ (.l zah x.2.1.bodies (.e [] [] p3 .z)) ?_
  refine RJ (.a (.nat (x1.1.length:Int)) (.g (fun (_:(!(!x1.2))=true)=>(len_ok zac x1.1)) .z)) ?_
  refine Nif hF ?_ ?_ <;> intro hb hF
  ·obtain ⟨x2,h4,hF⟩:=lS hF
   refine VR [.callB (.agg (zae x2))] [2,3] [3] [] [] [(2,.nils),(3,.ptr 3 0)] [(3,(zae x2))] [] [] (hc (file_fault_ok h4) .nil) ?_
   cases hF
   refine zao 2 60001 53 5 rfl rfl rfl ?_
   refine zat ⟨[],[(60001,24)],[],[]⟩ rfl ?_
   exact Wz [(24,⟨0,true,true,true⟩)] hfin
  ·obtain ⟨x3,h5,hF⟩:=oE hF
   have p6:=(Pe.ren (file_filter_ok h5) ⟨[],[],[],[]⟩)
   obtain ⟨x4,h7,hF⟩:=oE hF
   refine DJ (.e [] [] p6 (.b (slices_Equal_byte_byte_ok h7) .z)) ?_
   refine Nif hF ?_ ?_ <;> intro hb hF
   ·obtain ⟨x5,h8,hF⟩:=lS hF
    refine VR [.callB (.agg (zae x5))] [2,3] [3] [] [] [(2,.nils),(3,.ptr 3 0)] [(3,(zae x5))] [] [] (hc (file_fault_ok h8) .nil) ?_
    cases hF
    refine zao 2 60002 53 5 rfl rfl rfl ?_
    refine zat ⟨[],[(60002,24)],[],[]⟩ rfl ?_
    exact Wz [(24,⟨0,true,true,true⟩)] hfin
   ·refine LD0 ?_
    cases hF
    exact Wz [] hfin

/- (*tablet.tab).fill$1 -/
def tablet_tab_fill_1 (num:Note) (box:List UInt8) (box1:Int) (box2:List (List UInt8)) (box3 box4 box5:Int) (row:List Note) (row1:List (List Cell)):Bool:=
 decide (box3<num.Seq)
theorem tablet_tab_fill_1_ok (rk rc:Nat) (rn:Bool) (rk1 rc1:Nat) (rn1:Bool) {num box box1 box2 box3 box4 box5 row row1 r} (hF:tablet_tab_fill_1 num box box1 box2 box3 box4 box5 row row1=r):Pe Tryz.prog 115 ⟨[],[(100000,[.ptr 100001 0]),(100001,[.sl 1 (box.map zaq),.i box1,.sl 1 (box2.map zah),.i box3,.i box4,.row 100000 0,.i box5,.nils,.row 100001 0])],[(100000,.q 50 2 0 rk rc rn (row.map zam)),(100001,.q 28 1 0 rk1 rc1 rn1 (row1.map zar))],[],[]⟩ [.agg (c_Note num),.ptr 100000 0] (.bool r) ⟨[],[(100000,[.ptr 100001 0]),(100001,[.sl 1 (box.map zaq),.i box1,.sl 1 (box2.map zah),.i box3,.i box4,.row 100000 0,.i box5,.nils,.row 100001 0])],[(100000,.q 50 2 0 rk rc rn (row.map zam)),(100001,.q 28 1 0 rk1 rc1 rn1 (row1.map zar))],[],[]⟩:=by
 refine PT 12 [.tmp 3] [4] Tryz.func115 ?_
 intro Q g hfin
 unfold tablet_tab_fill_1 at hF
 refine LR0 ?_
 refine LD0 ?_
 cases hF
 exact Wz [] hfin

/- slices.IndexFunc[[]api.Note,api.Note] -/
def slices_IndexFunc_api_Note_api_Note_J1 (v:Unit):Option Int:=
 some (-1)
def zbm (box:List UInt8) (box1:Int) (box2:List (List UInt8)) (box3 box4 box5:Int) (row:List Note) (row1:List (List Cell)) (v1:Int):Option (Int⊕Int):=
 if (decide (v1<(row.length:Int)))=true then
  zan (0≤v1∧v1<(row.length:Int)) <|
  zan (0≤v1∧v1<(row.length:Int)) <|
  lt (tablet_tab_fill_1 (⟨(zad row v1).Seq,(zad row v1).Cells⟩:Note) box box1 box2 box3 box4 box5 row row1) fun x=>
  if x=true then
   some (Sum.inr v1)
  else
   some (Sum.inl (w64 (v1+1)))
 else
  inrO (slices_IndexFunc_api_Note_api_Note_J1 ())
def slices_IndexFunc_api_Note_api_Note_L1 (box:List UInt8) (box1:Int) (box2:List (List UInt8)) (box3 box4 box5:Int) (row:List Note) (row1:List (List Cell)) (v0:Int):Option Int:=
 zbe (fun y=>zbm box box1 box2 box3 box4 box5 row row1 y) v0
def slices_IndexFunc_api_Note_api_Note (box:List UInt8) (box1:Int) (box2:List (List UInt8)) (box3 box4 box5:Int) (row:List Note) (row1:List (List Cell)):Option Int:=
 slices_IndexFunc_api_Note_api_Note_L1 box box1 box2 box3 box4 box5 row row1 0
theorem slices_IndexFunc_api_Note_api_Note_ok (rk rc:Nat) (rn:Bool) (rk1 rc1:Nat) (rn1:Bool) {box box1 box2 box3 box4 box5 row row1 r} (hF:slices_IndexFunc_api_Note_api_Note box box1 box2 box3 box4 box5 row row1=some r):Pe Tryz.prog 114 ⟨[],[(100000,[.ptr 100001 0]),(100001,[.sl 1 (box.map zaq),.i box1,.sl 1 (box2.map zah),.i box3,.i box4,.row 100000 0,.i box5,.nils,.row 100001 0])],[(100000,.q 50 2 0 rk rc rn (row.map zam)),(100001,.q 28 1 0 rk1 rc1 rn1 (row1.map zar))],[],[]⟩ [.row 100000 0,.fn 115 [.ptr 100000 0]] (.i r) ⟨[],[(100000,[.ptr 100001 0]),(100001,[.sl 1 (box.map zaq),.i box1,.sl 1 (box2.map zah),.i box3,.i box4,.row 100000 0,.i box5,.nils,.row 100001 0])],[(100000,.q 50 2 0 rk rc rn (row.map zam)),(100001,.q 28 1 0 rk1 rc1 rn1 (row1.map zar))],[],[]⟩:=by
 refine PT 19 [.tmp 4] [3] Tryz.func114 ?_
 intro Q g hfin
 unfold slices_IndexFunc_api_Note_api_Note at hF
 refine LR0 ?_
 refine RJ (.l zam row .z) ?_
 refine NmS (fun v=>slices_IndexFunc_api_Note_api_Note_J1 v=some r) (fun Z v=>Z.up [] [100000,100001] [100000,100001] [] [] [] [] []) ?_ ?_
 ·refine zcd ?_
  unfold slices_IndexFunc_api_Note_api_Note_L1 at hF
  refine Nits hF [] (fun Z v1=>Z.up [0,1,7,8] [100000,100001] [100000,100001] [] [(8,.i v1)] [] [] []) ?_
  intro n1 v1 y1 hF ih1 dn1
  unfold zbm at hF
  refine LR0 ?_
  refine Nif hF ?_ ?_ <;> intro hb hF
  ·refine zcd ?_
   refine LR0 ?_
   obtain ⟨h0,h1,hF⟩:=asrt2 hF
   obtain ⟨x,h2,hF⟩:=lS hF
   refine RJ (.x zam h0 (.r zam h1 (.q [100000,100001] [100000,100001] (Pe.ren (tablet_tab_fill_1_ok rk rc rn rk1 rc1 rn1 h2) ⟨[],[],[],[]⟩) .z))) ?_
   refine Nif hF ?_ ?_ <;> intro hb hF
   ·refine LR0 ?_
    have hF:=ret_done hF dn1
    cases hF
    exact Wz [] hfin
   ·refine LR0 ?_
    exact Nrnq [] hF ih1
  ·refine zbr rfl ?_
   have hF:=zai hF dn1
   exact metQ () [] hF
 ·intro v hF
  unfold slices_IndexFunc_api_Note_api_Note_J1 at hF
  refine LR0 ?_
  cases hF
  exact Wz [] hfin

/- slices.Grow[[]api.Cell,api.Cell] -/
def zcc (num:Int):Option (List Cell):=
 ob (
  if (decide (num<0))=true then
   none
  else
   some ()) fun v=>
 ob (
  if (decide (0<(w64 (num - (w64 (0 - 0))))))=true then
   zan (0≤(w64 (num - (w64 (0 - 0))))∧(w64 (num - (w64 (0 - 0)))).toNat*64≤140737488351232) <|
   zan (0≤(0:Int)∧(0:Int)≤((List.replicate (w64 (num - (w64 (0 - 0)))).toNat ((⟨([]:List UInt8),([]:List UInt8),0,false,([]:List UInt8)⟩:Cell):Cell)).length:Int)) <|
   lt ((List.replicate (w64 (num - (w64 (0 - 0)))).toNat ((⟨([]:List UInt8),([]:List UInt8),0,false,([]:List UInt8)⟩:Cell):Cell))) fun (v2:List Cell)=>
   zan (((0:Int).toNat)≤v2.length) <|
   some (v2.take ((0:Int).toNat))
  else
   some ([]:List Cell)) fun (v1:List Cell)=>
 some v1
theorem slices_Grow_api_Cell_api_Cell_v1_ok {num r} (hF:zcc num=some r):Pe Tryz.prog 170 (.w []) [.nils,.i num] (.row 22 0) ⟨[],[],[(22,.o 53 5 0 (r.map zac))],[],[]⟩:=by
 refine PT 27 [.tmp 4] [28] Tryz.func170 ?_
 intro Q g hfin
 unfold zcc at hF
 refine LR0 ?_
 refine LR0 ?_
 obtain ⟨v,hv,hF⟩:=oE hF
 refine NmT (fun Z=>Z.up [0,1] [] [] [] [] [] [] []) ?_ ?_
 ·have hF:=hv
  refine Nif hF ?_ ?_ <;> intro hb hF
  ·cases hF
  ·cases hF
   exact met' []
 ·refine LR0 ?_
  refine NR [] [0,1,16] [] [] [(0,.nils),(1,.i (w64 (num - (w64 (0 - 0))))),(16,.bool (decide (0<(w64 (num - (w64 (0 - 0)))))))] .nil ?_
  obtain ⟨v1,hv,hF⟩:=oE hF
  refine Nmeet (⟨[(0,.row 22 0)],[],[(22,.o 53 5 0 (v1.map zac))],[],[]⟩:S) ?_ ?_
  ·have hF:=hv
   refine Nif hF ?_ ?_ <;> intro hb hF
   ·obtain ⟨h0,hF⟩:=aE hF
    obtain ⟨h1,hF⟩:=aE hF
    refine NRL ((List.replicate (w64 (num - (w64 (0 - 0)))).toNat ((⟨([]:List UInt8),([]:List UInt8),0,false,([]:List UInt8)⟩:Cell):Cell))) (fun v2:List Cell=>([(0,.rowv 22 0 0 ((0:Int).toNat))],[],[(22,.z 53 5 0 (v2.map zac))],[])) [.xs ((List.replicate (w64 (num - (w64 (0 - 0)))).toNat ((⟨([]:List UInt8),([]:List UInt8),0,false,([]:List UInt8)⟩:Cell):Cell)).map zac),.vw ((0:Int).toNat)] [0] [] [22] [] (hc (rfl:(0:Int)=0) (hc h0 (hc (rep_ok zac (w64 (num - (w64 (0 - 0)))) ((⟨([]:List UInt8),([]:List UInt8),0,false,([]:List UInt8)⟩:Cell):Cell)) (hc (vw01_ok (cm:=0) zac h1) .nil)))) (fun v2 hv=>?_)
    have hF:=lt_elim hF hv
    obtain ⟨h2,hF⟩:=aE hF
    refine Wk_truncL 0 22 0 ((0:Int).toNat) ((v2.take ((0:Int).toNat)).map zac) rfl rfl rfl rfl (tk_ok zac h2).1 (Nat.zero_le _) (List.map_take).symm ?_
    cases hF
    exact met' [(22,⟨0,false,true,false⟩)]
   ·refine zao 0 60000 53 5 rfl rfl rfl ?_
    refine Wk_trim (fs:=[0]) (bs:=[]) (rs:=[60000]) (ms:=[]) (aa:=[]) (nv:=[]) rfl ?_
    refine zat ⟨[],[(60000,22)],[],[]⟩ rfl ?_
    cases hF
    exact met' [(22,⟨0,true,false,false⟩)]
  ·refine LR0 ?_
   cases hF
   exact Wz [] hfin

/- slices.Concat[[]api.Cell,api.Cell] -/
def slices_Concat_api_Cell_api_Cell_J2 (v1:List Cell):Option (List Cell):=
 some v1
def slices_Concat_api_Cell_api_Cell_B1 (slices:List (List Cell)) (v2:List Cell×Int):Option ((List Cell×Int)⊕(List Cell)):=
 if (decide (v2.2<(slices.length:Int)))=true then
  zan (0≤v2.2∧v2.2<(slices.length:Int)) <|
  zan (((v2.1++(zad slices v2.2)).length:Int)*64≤140737488351232) <|
  some (Sum.inl ((v2.1++(zad slices v2.2)),w64 (v2.2+1)))
 else
  inrO (slices_Concat_api_Cell_api_Cell_J2 v2.1)
def slices_Concat_api_Cell_api_Cell_L1 (slices:List (List Cell)) (v0:List Cell×Int):Option (List Cell):=
 zbe (fun y=>slices_Concat_api_Cell_api_Cell_B1 slices y) v0
def slices_Concat_api_Cell_api_Cell_J1 (slices:List (List Cell)) (v:Int):Option (List Cell):=
 ob (zcc v) fun x=>
 slices_Concat_api_Cell_api_Cell_L1 slices (x,0)
def zb5 (slices:List (List Cell)) (v3:Int×Int):Option ((Int×Int)⊕(List Cell)):=
 if (decide (v3.2<(slices.length:Int)))=true then
  zan (0≤v3.2∧v3.2<(slices.length:Int)) <|
  ob (
   if (decide ((w64 (v3.1+((zad slices v3.2).length:Int)))<0))=true then
    none
   else
    some ()) fun v4=>
  some (Sum.inl (w64 (v3.1+((zad slices v3.2).length:Int)),w64 (v3.2+1)))
 else
  inrO (slices_Concat_api_Cell_api_Cell_J1 slices v3.1)
def slices_Concat_api_Cell_api_Cell_L2 (slices:List (List Cell)) (v0:Int×Int):Option (List Cell):=
 zbe (fun y=>zb5 slices y) v0
def slices_Concat_api_Cell_api_Cell (slices:List (List Cell)):Option (List Cell):=
 slices_Concat_api_Cell_api_Cell_L2 slices (0,0)
theorem slices_Concat_api_Cell_api_Cell_ok {slices r} (hF:slices_Concat_api_Cell_api_Cell slices=some r):Pe Tryz.prog 157 (.w []) [.sl 1 (slices.map zar)] (.row 24 0) ⟨[],[],[(24,.o 53 5 0 (r.map zac))],[],[]⟩:=by
 refine PT 36 [.tmp 2] [28] Tryz.func157 ?_
 intro Q g hfin
 unfold slices_Concat_api_Cell_api_Cell at hF
 refine LR0 ?_
 refine LR0 ?_
 refine RJ (.l zar slices .z) ?_
 refine NmS (fun v=>slices_Concat_api_Cell_api_Cell_J1 slices v=some r) (fun Z v=>Z.up [0,3] [] [] [] [(3,.i v)] [] [] []) ?_ ?_
 ·refine zcd ?_
  unfold slices_Concat_api_Cell_api_Cell_L2 at hF
  refine Nits hF [] (fun Z v3=>Z.up [0,3,9,10,11] [] [] [] [(3,.i v3.1),(11,.i v3.2)] [] [] []) ?_
  intro n1 v3 y1 hF ih1 dn1
  unfold zb5 at hF
  refine LR0 ?_
  refine Nif hF ?_ ?_ <;> intro hb hF
  ·refine zcd ?_
   obtain ⟨h4,hF⟩:=aE hF
   refine RJ (.i zar h4 .z) ?_
   refine RJ (.l zac (zad slices v3.2) .z) ?_
   refine LR0 ?_
   obtain ⟨v4,hv,hF⟩:=oE hF
   refine NmT (fun Z=>Z.up [0,3,9,10,11] [] [] [] [] [] [] []) ?_ ?_
   ·have hF:=hv
    refine Nif hF ?_ ?_ <;> intro hb hF
    ·cases hF
    ·cases hF
     exact met' []
   ·refine LR0 ?_
    exact Nrnq [] hF ih1
  ·refine zbr rfl ?_
   have hF:=zai hF dn1
   exact metQ v3.1 [] hF
 ·intro v hF
  unfold slices_Concat_api_Cell_api_Cell_J1 at hF
  obtain ⟨x,h0,hF⟩:=oE hF
  have p1:=(Pe.ren (slices_Grow_api_Cell_api_Cell_v1_ok h0) ⟨[],[(22,24)],[],[]⟩)
  refine RJ (.a (.raw [0]) (.a (cE [] [] [] [] p1) (.g p1 .z))) ?_
  refine RJ (.l zar slices .z) ?_
  refine NmS (fun v1=>slices_Concat_api_Cell_api_Cell_J2 v1=some r) (fun Z v1=>Z.up [6] [] [24] [] [] [] [(24,.o 53 5 0 (v1.map zac))] []) ?_ ?_
  ·refine zcd ?_
   unfold slices_Concat_api_Cell_api_Cell_L1 at hF
   refine Nits hF [] (fun Z v2=>Z.up [6,25,26,27] [] [24] [] [(27,.i v2.2)] [] [(24,.o 53 5 0 (v2.1.map zac))] []) ?_
   intro n1 v2 y1 hF ih1 dn1
   unfold slices_Concat_api_Cell_api_Cell_B1 at hF
   refine LR0 ?_
   refine Nif hF ?_ ?_ <;> intro hb hF
   ·refine zcd ?_
    obtain ⟨h2,hF⟩:=aE hF
    refine RJ (.i zar h2 .z) ?_
    obtain ⟨h3,hF⟩:=aE hF
    refine RJ (.p zac h3 .z) ?_
    refine LR0 ?_
    exact Nrnq [(24,⟨0,true,true,false⟩)] hF ih1
   ·refine zbr rfl ?_
    have hF:=zai hF dn1
    exact metQ v2.1 [] hF
  ·intro v1 hF
   unfold slices_Concat_api_Cell_api_Cell_J2 at hF
   refine LR0 ?_
   cases hF
   exact Wz [] hfin

/- slices.insertionSortCmpFunc[api.Cell] -/
def slices_insertionSortCmpFunc_api_Cell_v1_J1 (v:List Cell):Option (List Cell):=
 some v
def slices_insertionSortCmpFunc_api_Cell_v1_J2 (v1:List Cell×Int) (v2:List Cell):Option ((List Cell×Int)⊕(List Cell)):=
 some (Sum.inl (v2,w64 (v1.2+1)))
def za7 (a0:Int) (v1 v3:List Cell×Int):Option ((List Cell×Int)⊕((List Cell×Int)⊕(List Cell))):=
 zan ((decide (a0<v3.2))=true→0≤v3.2∧v3.2<(v3.1.length:Int)) <|
 zan ((decide (a0<v3.2))=true→0≤v3.2∧v3.2<(v3.1.length:Int)) <|
 zan ((decide (a0<v3.2))=true→0≤w64 (v3.2 - 1)∧w64 (v3.2 - 1)<(v3.1.length:Int)) <|
 zan ((decide (a0<v3.2))=true→0≤w64 (v3.2 - 1)∧w64 (v3.2 - 1)<(v3.1.length:Int)) <|
 ob (if (decide (a0<v3.2))=true then (cell_Order (⟨(zad v3.1 v3.2).Row,(zad v3.1 v3.2).Col,(zad v3.1 v3.2).Time,(zad v3.1 v3.2).Gone,(zad v3.1 v3.2).Value⟩:Cell) (⟨(zad v3.1 (w64 (v3.2 - 1))).Row,(zad v3.1 (w64 (v3.2 - 1))).Col,(zad v3.1 (w64 (v3.2 - 1))).Time,(zad v3.1 (w64 (v3.2 - 1))).Gone,(zad v3.1 (w64 (v3.2 - 1))).Value⟩:Cell)) else some default) fun x=>
 if ((decide (a0<v3.2))&&(decide (x<0)))=true then
  zan (0≤w64 (v3.2 - 1)∧w64 (v3.2 - 1)<(v3.1.length:Int)) <|
  zan (0≤w64 (v3.2 - 1)∧w64 (v3.2 - 1)<(v3.1.length:Int)) <|
  zan (0≤v3.2∧v3.2<(v3.1.length:Int)) <|
  zan (0≤v3.2∧v3.2<(v3.1.length:Int)) <|
  zan (0≤v3.2∧v3.2<(v3.1.length:Int)) <|
  zan (0≤v3.2∧v3.2<(v3.1.length:Int)) <|
  zan (0≤w64 (v3.2 - 1)∧w64 (v3.2 - 1)<((lset v3.1 v3.2 (⟨(zad v3.1 (w64 (v3.2 - 1))).Row,(zad v3.1 (w64 (v3.2 - 1))).Col,(zad v3.1 (w64 (v3.2 - 1))).Time,(zad v3.1 (w64 (v3.2 - 1))).Gone,(zad v3.1 (w64 (v3.2 - 1))).Value⟩:Cell)).length:Int)) <|
  zan (0≤w64 (v3.2 - 1)∧w64 (v3.2 - 1)<((lset v3.1 v3.2 (⟨(zad v3.1 (w64 (v3.2 - 1))).Row,(zad v3.1 (w64 (v3.2 - 1))).Col,(zad v3.1 (w64 (v3.2 - 1))).Time,(zad v3.1 (w64 (v3.2 - 1))).Gone,(zad v3.1 (w64 (v3.2 - 1))).Value⟩:Cell)).length:Int)) <|
  lt ((lset (lset v3.1 v3.2 (⟨(zad v3.1 (w64 (v3.2 - 1))).Row,(zad v3.1 (w64 (v3.2 - 1))).Col,(zad v3.1 (w64 (v3.2 - 1))).Time,(zad v3.1 (w64 (v3.2 - 1))).Gone,(zad v3.1 (w64 (v3.2 - 1))).Value⟩:Cell)) (w64 (v3.2 - 1)) (⟨(zad v3.1 v3.2).Row,(zad v3.1 v3.2).Col,(zad v3.1 v3.2).Time,(zad v3.1 v3.2).Gone,(zad v3.1 v3.2).Value⟩:Cell))) fun v4=>
  some (Sum.inl (v4,w64 (v3.2 - 1)))
 else
  inrO (slices_insertionSortCmpFunc_api_Cell_v1_J2 v1 v3.1)
def slices_insertionSortCmpFunc_api_Cell_v1_L2 (a0:Int) (v1 v0:List Cell×Int):Option ((List Cell×Int)⊕(List Cell)):=
 zbe (fun y=>za7 a0 v1 y) v0
def zba (a0 b:Int) (v1:List Cell×Int):Option ((List Cell×Int)⊕(List Cell)):=
 if (decide (v1.2<b))=true then
  slices_insertionSortCmpFunc_api_Cell_v1_L2 a0 v1 (v1.1,v1.2)
 else
  inrO (slices_insertionSortCmpFunc_api_Cell_v1_J1 v1.1)
def zbv (a0 b:Int) (v0:List Cell×Int):Option (List Cell):=
 zbe (fun y=>zba a0 b y) v0
def za4 (a0 b:Int) (row:List Cell):Option (List Cell):=
 zbv a0 b (row,w64 (a0+1))
theorem slices_insertionSortCmpFunc_api_Cell_v1_ok (rk rc:Nat) (rn:Bool) {a0 b row r} (hF:za4 a0 b row=some r):Pe Tryz.prog 177 (.w [(100000,.q 53 5 0 0 rc rn (row.map zac))]) [.row 100000 0,.i a0,.i b,.fn 136 []] (.tup []) (.w [(100000,.q 53 5 0 0 rc rn (r.map zac))]):=by
 refine PT 53 [] [] Tryz.func177 ?_
 intro Q g hfin
 unfold za4 at hF
 refine LR0 ?_
 refine NmQ (fun v=>slices_insertionSortCmpFunc_api_Cell_v1_J1 v=some r) (fun v=>(.w [(100000,.q 53 5 0 0 rc rn (v.map zac))])) ?_ ?_
 ·refine zcd ?_
  unfold zbv at hF
  refine Nits hF [] (fun Z v1=>Z.up [0,1,2,3,8] [] [100000] [] [(8,.i v1.2)] [] [(100000,.q 53 5 0 0 rc rn (v1.1.map zac))] []) ?_
  intro n1 v1 y1 hF ih1 dn1
  unfold zba at hF
  refine LR0 ?_
  refine Nif hF ?_ ?_ <;> intro hb hF
  ·refine zcd ?_
   refine LR0 ?_
   refine NmS (fun v2=>slices_insertionSortCmpFunc_api_Cell_v1_J2 v1 v2=some y1) (fun Z v2=>Z.up [0,1,2,3,8] [] [100000] [] [] [] [(100000,.q 53 5 0 0 rc rn (v2.map zac))] []) ?_ ?_
   ·refine zcd ?_
    unfold slices_insertionSortCmpFunc_api_Cell_v1_L2 at hF
    refine Nits hF [] (fun Z v3=>Z.up [0,1,2,3,8,9] [] [100000] [] [(9,.i v3.2)] [] [(100000,.q 53 5 0 0 rc rn (v3.1.map zac))] []) ?_
    intro n2 v3 y2 hF ih2 dn2
    unfold za7 at hF
    obtain ⟨h0,h1,h2,h3,hF⟩:=asrt4 hF
    obtain ⟨x,h4,hF⟩:=oE hF
    refine DJ (.g (fun (ga0:(decide (a0<v3.2))=true)=>(ixr_ok zac (h0 ga0))) (.a (.av (zac (zad v3.1 v3.2))) (.g (fun (ga0:(decide (a0<v3.2))=true)=>(ldr_ok zac (h1 ga0))) (.g (fun (ga0:(decide (a0<v3.2))=true)=>(ixr_ok zac (h2 ga0))) (.a (.av (zac (zad v3.1 (w64 (v3.2 - 1))))) (.g (fun (ga0:(decide (a0<v3.2))=true)=>(ldr_ok zac (h3 ga0))) (.a (.callB (.i x)) (.g (fun (ga0:(decide (a0<v3.2))=true)=>(cell_Order_ok (ite_t h4 ga0))) .z)))))))) ?_
    refine Nif hF ?_ ?_ <;> intro hb hF
    ·refine zcd ?_
     obtain ⟨h5,h6,h7,h8,hF⟩:=asrt4 hF
     obtain ⟨h9,h10,h11,h12,hF⟩:=asrt4 hF
     obtain ⟨v4,hv,hF⟩:=lS hF
     refine DJ (.x zac h5 (.r zac h6 (.x zac h7 (.r zac h8 (.x zac h9 (.w zac h10 (⟨(zad v3.1 (w64 (v3.2 - 1))).Row,(zad v3.1 (w64 (v3.2 - 1))).Col,(zad v3.1 (w64 (v3.2 - 1))).Time,(zad v3.1 (w64 (v3.2 - 1))).Gone,(zad v3.1 (w64 (v3.2 - 1))).Value⟩:Cell) (.x zac h11 (.wN zac h12 hv .z)))))))) ?_
     refine LR0 ?_
     exact Nrnq [] hF ih2
    ·refine zbr rfl ?_
     have hF:=zai hF dn2
     exact metQ v3.1 [] hF
   ·intro v2 hF
    unfold slices_insertionSortCmpFunc_api_Cell_v1_J2 at hF
    refine LR0 ?_
    exact Nrnq [] hF ih1
  ·refine zbr rfl ?_
   have hF:=zai hF dn1
   exact metQ v1.1 [] hF
 ·intro v hF
  unfold slices_insertionSortCmpFunc_api_Cell_v1_J1 at hF
  cases hF
  exact Wk_end (hfin _ ⟨[100000],[],[100000],[],[],[],by kernel_rfl⟩)

/- slices.swapRangeCmpFunc[api.Cell] -/
def slices_swapRangeCmpFunc_api_Cell_v1_J1 (v:List Cell):Option (List Cell):=
 some v
def zca (a0 b num:Int) (v1:List Cell×Int):Option ((List Cell×Int)⊕(List Cell)):=
 if (decide (v1.2<num))=true then
  zan (0≤w64 (b+v1.2)∧w64 (b+v1.2)<(v1.1.length:Int)) <|
  zan (0≤w64 (b+v1.2)∧w64 (b+v1.2)<(v1.1.length:Int)) <|
  zan (0≤w64 (a0+v1.2)∧w64 (a0+v1.2)<(v1.1.length:Int)) <|
  zan (0≤w64 (a0+v1.2)∧w64 (a0+v1.2)<(v1.1.length:Int)) <|
  zan (0≤w64 (a0+v1.2)∧w64 (a0+v1.2)<(v1.1.length:Int)) <|
  zan (0≤w64 (a0+v1.2)∧w64 (a0+v1.2)<(v1.1.length:Int)) <|
  zan (0≤w64 (b+v1.2)∧w64 (b+v1.2)<((lset v1.1 (w64 (a0+v1.2)) (⟨(zad v1.1 (w64 (b+v1.2))).Row,(zad v1.1 (w64 (b+v1.2))).Col,(zad v1.1 (w64 (b+v1.2))).Time,(zad v1.1 (w64 (b+v1.2))).Gone,(zad v1.1 (w64 (b+v1.2))).Value⟩:Cell)).length:Int)) <|
  zan (0≤w64 (b+v1.2)∧w64 (b+v1.2)<((lset v1.1 (w64 (a0+v1.2)) (⟨(zad v1.1 (w64 (b+v1.2))).Row,(zad v1.1 (w64 (b+v1.2))).Col,(zad v1.1 (w64 (b+v1.2))).Time,(zad v1.1 (w64 (b+v1.2))).Gone,(zad v1.1 (w64 (b+v1.2))).Value⟩:Cell)).length:Int)) <|
  lt ((lset (lset v1.1 (w64 (a0+v1.2)) (⟨(zad v1.1 (w64 (b+v1.2))).Row,(zad v1.1 (w64 (b+v1.2))).Col,(zad v1.1 (w64 (b+v1.2))).Time,(zad v1.1 (w64 (b+v1.2))).Gone,(zad v1.1 (w64 (b+v1.2))).Value⟩:Cell)) (w64 (b+v1.2)) (⟨(zad v1.1 (w64 (a0+v1.2))).Row,(zad v1.1 (w64 (a0+v1.2))).Col,(zad v1.1 (w64 (a0+v1.2))).Time,(zad v1.1 (w64 (a0+v1.2))).Gone,(zad v1.1 (w64 (a0+v1.2))).Value⟩:Cell))) fun v2=>
  some (Sum.inl (v2,w64 (v1.2+1)))
 else
  inrO (slices_swapRangeCmpFunc_api_Cell_v1_J1 v1.1)
def slices_swapRangeCmpFunc_api_Cell_v1_L1 (a0 b num:Int) (v0:List Cell×Int):Option (List Cell):=
 zbe (fun y=>zca a0 b num y) v0
def za2 (a0 b num:Int) (row:List Cell):Option (List Cell):=
 slices_swapRangeCmpFunc_api_Cell_v1_L1 a0 b num (row,0)
theorem slices_swapRangeCmpFunc_api_Cell_v1_ok (rk rc:Nat) (rn:Bool) {a0 b num row r} (hF:za2 a0 b num row=some r):Pe Tryz.prog 182 (.w [(100000,.q 53 5 0 0 rc rn (row.map zac))]) [.row 100000 0,.i a0,.i b,.i num,.fn 136 []] (.tup []) (.w [(100000,.q 53 5 0 0 rc rn (r.map zac))]):=by
 refine PT 38 [] [] Tryz.func182 ?_
 intro Q g hfin
 unfold za2 at hF
 refine LR0 ?_
 refine NmQ (fun v=>slices_swapRangeCmpFunc_api_Cell_v1_J1 v=some r) (fun v=>(.w [(100000,.q 53 5 0 0 rc rn (v.map zac))])) ?_ ?_
 ·refine zcd ?_
  unfold slices_swapRangeCmpFunc_api_Cell_v1_L1 at hF
  refine Nits hF [] (fun Z v1=>Z.up [0,1,2,3,10] [] [100000] [] [(10,.i v1.2)] [] [(100000,.q 53 5 0 0 rc rn (v1.1.map zac))] []) ?_
  intro n1 v1 y1 hF ih1 dn1
  unfold zca at hF
  refine LR0 ?_
  refine Nif hF ?_ ?_ <;> intro hb hF
  ·refine zcd ?_
   obtain ⟨h0,h1,h2,h3,hF⟩:=asrt4 hF
   obtain ⟨h4,h5,h6,h7,hF⟩:=asrt4 hF
   obtain ⟨v2,hv,hF⟩:=lS hF
   refine DJ (.x zac h0 (.r zac h1 (.x zac h2 (.r zac h3 (.x zac h4 (.w zac h5 (⟨(zad v1.1 (w64 (b+v1.2))).Row,(zad v1.1 (w64 (b+v1.2))).Col,(zad v1.1 (w64 (b+v1.2))).Time,(zad v1.1 (w64 (b+v1.2))).Gone,(zad v1.1 (w64 (b+v1.2))).Value⟩:Cell) (.x zac h6 (.wN zac h7 hv .z)))))))) ?_
   refine LR0 ?_
   exact Nrnq [] hF ih1
  ·refine zbr rfl ?_
   have hF:=zai hF dn1
   exact metQ v1.1 [] hF
 ·intro v hF
  unfold slices_swapRangeCmpFunc_api_Cell_v1_J1 at hF
  cases hF
  exact Wk_end (hfin _ ⟨[100000],[],[100000],[],[],[],by kernel_rfl⟩)

/- slices.rotateCmpFunc[api.Cell] -/
def slices_rotateCmpFunc_api_Cell_v1_J1 (m:Int) (v:List Cell×Int):Option (List Cell):=
 ob (za2 (w64 (m - v.2)) m v.2 v.1) fun x=>
 some x
def zb0 (m:Int) (v1:List Cell×Int×Int):Option ((List Cell×Int×Int)⊕(List Cell)):=
 if (!decide (v1.2.1=v1.2.2))=true then
  if (decide (v1.2.2<v1.2.1))=true then
   ob (za2 (w64 (m - v1.2.1)) m v1.2.2 v1.1) fun x1=>
   some (Sum.inl (x1,w64 (v1.2.1 - v1.2.2),v1.2.2))
  else
   ob (za2 (w64 (m - v1.2.1)) (w64 ((w64 (m+v1.2.2)) - v1.2.1)) v1.2.1 v1.1) fun x2=>
   some (Sum.inl (x2,v1.2.1,w64 (v1.2.2 - v1.2.1)))
 else
  inrO (slices_rotateCmpFunc_api_Cell_v1_J1 m (v1.1,v1.2.1))
def slices_rotateCmpFunc_api_Cell_v1_L1 (m:Int) (v0:List Cell×Int×Int):Option (List Cell):=
 zbe (fun y=>zb0 m y) v0
def zbn (a0 m b:Int) (row:List Cell):Option (List Cell):=
 slices_rotateCmpFunc_api_Cell_v1_L1 m (row,w64 (m - a0),w64 (b - m))
theorem slices_rotateCmpFunc_api_Cell_v1_ok (rk rc:Nat) (rn:Bool) {a0 m b row r} (hF:zbn a0 m b row=some r):Pe Tryz.prog 180 (.w [(100000,.q 53 5 0 0 rc rn (row.map zac))]) [.row 100000 0,.i a0,.i m,.i b,.fn 136 []] (.tup []) (.w [(100000,.q 53 5 0 0 rc rn (r.map zac))]):=by
 refine PT 58 [] [] Tryz.func180 ?_
 intro Q g hfin
 unfold zbn at hF
 refine LR0 ?_
 refine LR0 ?_
 refine NmS (fun v=>slices_rotateCmpFunc_api_Cell_v1_J1 m v=some r) (fun Z v=>Z.up [0,2,4,10] [] [100000] [] [(10,.i v.2)] [] [(100000,.q 53 5 0 0 rc rn (v.1.map zac))] []) ?_ ?_
 ·refine zcd ?_
  unfold slices_rotateCmpFunc_api_Cell_v1_L1 at hF
  refine Nits hF [] (fun Z v1=>Z.up [0,2,4,10,11] [] [100000] [] [(10,.i v1.2.1),(11,.i v1.2.2)] [] [(100000,.q 53 5 0 0 rc rn (v1.1.map zac))] []) ?_
  intro n1 v1 y1 hF ih1 dn1
  unfold zb0 at hF
  refine LR0 ?_
  refine Nif hF ?_ ?_ <;> intro hb hF
  ·refine zcd ?_
   refine LR0 ?_
   refine Nif hF ?_ ?_ <;> intro hb hF
   ·obtain ⟨x1,h2,hF⟩:=oE hF
    have p3:=(Pe.ren (slices_swapRangeCmpFunc_api_Cell_v1_ok 0 rc rn h2) ⟨[],[],[],[]⟩)
    refine RJ (.e [] [100000] p3 .z) ?_
    refine LR0 ?_
    exact Nrnq [] hF ih1
   ·obtain ⟨x2,h4,hF⟩:=oE hF
    have p5:=(Pe.ren (slices_swapRangeCmpFunc_api_Cell_v1_ok 0 rc rn h4) ⟨[],[],[],[]⟩)
    refine RJ (.e [] [100000] p5 .z) ?_
    refine LR0 ?_
    exact Nrnq [] hF ih1
  ·refine zbr rfl ?_
   have hF:=zai hF dn1
   exact metQ (v1.1,v1.2.1) [] hF
 ·intro v hF
  unfold slices_rotateCmpFunc_api_Cell_v1_J1 at hF
  obtain ⟨x,h0,hF⟩:=oE hF
  have p1:=(Pe.ren (slices_swapRangeCmpFunc_api_Cell_v1_ok 0 rc rn h0) ⟨[],[],[],[]⟩)
  refine RJ (.e [] [100000] p1 .z) ?_
  cases hF
  exact Wk_end (hfin _ ⟨[100000],[],[100000],[],[],[],by kernel_rfl⟩)

end
end G
end Go.Proofs.YticbfakiihfgmaaGreat
