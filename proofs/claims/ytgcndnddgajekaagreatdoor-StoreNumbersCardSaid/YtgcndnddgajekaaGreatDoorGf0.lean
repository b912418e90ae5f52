/- The program's functions as plain functions, and that they are these. Written by a program (dec2.py). -/
import Derived.Test.YtgcndnddgajekaaGreatDoorTys
namespace Go.Proofs.YtgcndnddgajekaaGreatDoor
open Go Go.Dm
set_option linter.unusedVariables false
set_option linter.unusedSimpArgs false
set_option maxRecDepth 100000
namespace G
noncomputable section
/- tabularylaw.storeBegun -/
def zma:Option Bool:=some true
theorem law_storeBegun_ok (r:Bool)(hF:zma=some r):Pe Tryz.prog 4 S.none [] (.bool r) S.none:=by
 cases hF;exact begunP

/- tabularylaw.vastTablet -/
def ze0 (v:Tablet×Int):Option Bool:=
 some ((decide (20000<v.2))||(decide (100<(v.1.Files.length:Int))))
def zed (v1:Tablet×Int×Int):Option ((Tablet×Int×Int)⊕Bool):=
 if (decide (v1.2.2<(v1.1.Files.length:Int)))=true then
  zao (0<=v1.2.2/\v1.2.2<(v1.1.Files.length:Int)) <|
  some (Sum.inl ((⟨(⟨v1.1.Log.Bytes,v1.1.Log.Kept⟩:Disk),v1.1.Files,v1.1.Done,v1.1.Since⟩:Tablet),w64 (v1.2.1+((zad v1.1.Files v1.2.2).length:Int)),w64 (v1.2.2+1)))
 else
  zey (ze0 ((⟨(⟨v1.1.Log.Bytes,v1.1.Log.Kept⟩:Disk),v1.1.Files,v1.1.Done,v1.1.Since⟩:Tablet),v1.2.1))
def ze2 (v0:Tablet×Int×Int):Option Bool:=
 zb7 (fun y=>zed y) v0
def zfw (t0:Tablet):Option Bool:=
 ze2 ((⟨(⟨t0.Log.Bytes,t0.Log.Kept⟩:Disk),t0.Files,t0.Done,t0.Since⟩:Tablet),(t0.Log.Bytes.length:Int),0)
theorem law_vastTablet_ok {t0 r}(hF:zfw t0=some r):Pe Tryz.prog 5 S.none [.agg (zdo t0)] (.bool r) S.none:=by
 refine PT 32 [.tmp 2] [4] Tryz.func5 ?_;intro Q g hfin;unfold zfw at hF;refine LR0 ?_;refine RJ (.l za8 t0.Log.Bytes .z) ?_;refine LR0 ?_;refine NmQ (fun v=>ze0 v=some r) (fun v=>⟨[(1,.ptr 1 0),(3,.i v.2)],[(1,(zdo v.1))],[],[],[]⟩) ?_ ?_
 ·refine zdb ?_;unfold ze2 at hF;refine Nitr hF [] (fun v1=>⟨[(1,.ptr 1 0),(3,.i v1.2.1),(4,.i v1.2.2)],[(1,(zdo v1.1))],[],[],[]⟩) ?_;intro n1 v1 y1 hF ih1 dn1;unfold zed at hF;refine RJ (.l zal v1.1.Files .z) ?_;refine Nif hF ?_ ?_ <;> intro hb hF
  ·refine zdb ?_;have⟨h0,hF⟩:=aE hF;refine RJ (.i zal h0 (.l za8 (zad v1.1.Files v1.2.2) .z)) ?_;refine LR0 ?_;exact zg1 [] hF ih1
  ·refine zcp rfl ?_;have hF:=zak hF dn1;exact zfr ((⟨(⟨v1.1.Log.Bytes,v1.1.Log.Kept⟩:Disk),v1.1.Files,v1.1.Done,v1.1.Since⟩:Tablet),v1.2.1) [] hF
 ·intro v hF;unfold ze0 at hF;refine RJ (.a (.nat (v.1.Files.length:Int)) (.g (fun (_:(!(decide (20000<v.2)))=true)=>(zfb zal v.1.Files)) .z)) ?_;cases hF;exact Wz [] hfin

/- tabularylaw.ownBytes -/
def ze3 (b:B8):Option B8:=
 zao ((b.length:Int)*1<=140737488351232) <|
 some b
theorem zl5 {b r}(hF:ze3 b=some r):Pe Tryz.prog 28 S.none [.sl 1 (b.map za8)] (.sl 1 (r.map za8)) S.none:=by
 refine PT 5 [.tmp 2] [22] Tryz.func28 ?_;intro Q g hfin;unfold ze3 at hF;refine LR0 ?_;have⟨h0,hF⟩:=aE hF;refine RJ (.p0 za8 h0 .z) ?_;cases hF;exact Wz [] hfin

/- tabularylaw.ownDisk -/
def zov (d:Disk):Option Disk:=
 ob (ze3 d.Bytes) fun x=>
 some (⟨x,d.Kept⟩:Disk)
theorem law_ownDisk_ok {d r}(hF:zov d=some r):Pe Tryz.prog 12 S.none [.agg (c_Disk d)] (.agg (c_Disk r)) S.none:=by
 refine PT 9 [.cell 2 24] [24] Tryz.func12 ?_;intro Q g hfin;unfold zov at hF;refine LR0 ?_;have⟨x,h0,hF⟩:=oE hF;refine DJ (.c (zl5 h0) .z) ?_;cases hF;exact Wz [] hfin

/- tabularylaw.ownBodies -/
def zfn (v:B9):Option B9:=
 some v
def zfo (l:B9)(v1:B9×Int):Option ((B9×Int)⊕B9):=
 if (decide (v1.2<(l.length:Int)))=true then
  zao (0<=v1.2/\v1.2<(l.length:Int)) <|
  ob (ze3 (zad l v1.2)) fun x=>
  zao (((v1.1++([x]:B9)).length:Int)*24<=140737488351232) <|
  some (Sum.inl ((v1.1++([x]:B9)),w64 (v1.2+1)))
 else
  zey (zfn v1.1)
def zho (l:B9)(v0:B9×Int):Option B9:=
 zb7 (fun y=>zfo l y) v0
def zhe (l:B9):Option B9:=
 zho l (([]:B9),0)
theorem law_ownBodies_v1_ok {l r}(hF:zhe l=some r):Pe Tryz.prog 13 S.none [.sl 1 (l.map zal)] (.sl 1 (r.map zal)) S.none:=by
 refine PT 20 [.tmp 2] [25] Tryz.func13 ?_;intro Q g hfin;unfold zhe at hF;refine LR0 ?_;refine LR0 ?_;refine NR [] [0,3,4] [] [] [(0,.sl 1 (l.map zal)),(3,.nils),(4,.i 0)] .nil ?_;refine NmQ (fun v=>zfn v=some r) (fun v=>⟨[(3,.row 18 0)],[],[(18,.z 22 1 0 (v.map zal))],[],[]⟩) ?_ ?_
 ·refine zdb ?_;unfold zho at hF;refine zas 3 60000 22 1 rfl rfl rfl ?_;refine zd9 (fs:=[0,3,4]) (bs:=[]) (rs:=[60000]) (ms:=[]) (aa:=[]) (nv:=[]) rfl ?_;refine za9 ⟨[],[(60000,18)],[],[]⟩ rfl ?_;refine Nitr hF [] (fun v1=>⟨[(0,.sl 1 (l.map zal)),(3,.row 18 0),(4,.i v1.2)],[],[(18,.z 22 1 0 (v1.1.map zal))],[],[]⟩) ?_;intro n1 v1 y1 hF ih1 dn1;unfold zfo at hF;refine RJ (.l zal l .z) ?_;refine Nif hF ?_ ?_ <;> intro hb hF
  ·refine zdb ?_;have⟨h0,hF⟩:=aE hF;have⟨x,h1,hF⟩:=oE hF;have⟨h2,hF⟩:=aE hF;refine RJ (.i zal h0 (.c (zl5 h1) (.a (.sealed) (.p zal h2 .z)))) ?_;refine LR0 ?_;exact zg1 [(18,⟨0,true,true,false⟩)] hF ih1
  ·refine zcp rfl ?_;have hF:=zak hF dn1;exact zfr v1.1 [] hF
 ·intro v hF;unfold zfn at hF;refine LR0 ?_;cases hF;exact Wz [] hfin

/- tabularylaw.ownTablet -/
def zim (t0:Tablet):Option Tablet:=
 ob (zov t0.Log) fun x=>
 ob (zhe t0.Files) fun x1=>
 some (⟨x,x1,t0.Done,t0.Since⟩:Tablet)
theorem law_ownTablet_ok {t0 r}(hF:zim t0=some r):Pe Tryz.prog 6 S.none [.agg (zdo t0)] (.agg (zdo r)) S.none:=by
 refine PT 12 [.cell 2 27] [27] Tryz.func6 ?_;intro Q g hfin;unfold zim at hF;refine LR0 ?_;have⟨x,h0,hF⟩:=oE hF;refine RJ (.c (law_ownDisk_ok h0) .z) ?_;have⟨x1,h1,hF⟩:=oE hF;refine RJ (.c (law_ownBodies_v1_ok h1) .z) ?_;refine LR0 ?_;cases hF;exact Wz [] hfin

/- tablet.fault -/
def zc8 (code at0:Int):Fault:=
 (⟨code,at0⟩:Fault)
theorem zbu {code at0 r}(hF:zc8 code at0=r):Pe Tryz.prog 30 S.none [.i code,.i at0] (.agg (zag r)) S.none:=by
 refine PT 8 [.cell 4 32] [32] Tryz.func30 ?_;intro Q g hfin;unfold zc8 at hF;refine LR0 ?_;refine LR0 ?_;cases hF;exact Wz [] hfin

/- disk.fault -/
def disk_fault (code at0:Int):Fault:=
 (⟨code,at0⟩:Fault)
theorem disk_fault_ok {code at0 r}(hF:disk_fault code at0=r):Pe Tryz.prog 76 S.none [.i code,.i at0] (.agg (zag r)) S.none:=by
 refine PT 8 [.cell 4 32] [32] Tryz.func76 ?_;intro Q g hfin;unfold disk_fault at hF;refine LR0 ?_;refine LR0 ?_;cases hF;exact Wz [] hfin

/- disk.Check -/
def zm6 (d:Disk):Fault:=
 if (decide (60000<(d.Bytes.length:Int)))=true then
  lt (disk_fault 8 0) fun x=>
  x
 else
  if ((decide (d.Kept<0))||(decide ((d.Bytes.length:Int)<d.Kept)))=true then
   lt (disk_fault 3 0) fun x1=>
   x1
  else
   (⟨0,0⟩:Fault)
theorem disk_Check_ok {d r}(hF:zm6 d=r):Pe Tryz.prog 49 S.none [.agg (c_Disk d)] (.agg (zag r)) S.none:=by
 refine PT 21 [.cell 2 32] [32] Tryz.func49 ?_;intro Q g hfin;unfold zm6 at hF;refine LR0 ?_;refine RJ (.l za8 d.Bytes .z) ?_;refine Nif hF ?_ ?_ <;> intro hb hF
 ·have⟨x,h0,hF⟩:=lS hF;refine RJ (.b (disk_fault_ok h0) .z) ?_;cases hF;exact Wz [] hfin
 ·refine RJ (.a (.nat (d.Bytes.length:Int)) (.g (fun (_:(!(decide (d.Kept<0)))=true)=>(zfb za8 d.Bytes)) .z)) ?_;refine Nif hF ?_ ?_ <;> intro hb hF
  ·have⟨x1,h1,hF⟩:=lS hF;refine RJ (.b (disk_fault_ok h1) .z) ?_;cases hF;exact Wz [] hfin
  ·refine LR0 ?_;cases hF;exact Wz [] hfin

/- wire.Crc -/
def zk6 (v:Int):Option Int:=
 lt (zeh .xor .u32 (if IntKind.signed .u32=true then -1 else IntKind.max .u32) v) fun v1=>
 some v1
def wire_Crc_J2 (v2:Int×Int)(v3:Int):Option ((Int×Int)⊕Int):=
 some (Sum.inl (v3,w64 (v2.2+1)))
def znm (v2 v4:Int×Int):Option ((Int×Int)⊕((Int×Int)⊕Int)):=
 if (decide (v4.2<8))=true then
  ob (
   if (decide ((zeh .and .u32 v4.1 1)=1))=true then
    lt (zeh .xor .u32 (Int.fdiv v4.1 (2 ^ (min (1:Int).toNat 32))) 3988292384) fun v6=>
    some v6
   else
    some (Int.fdiv v4.1 (2 ^ (min (1:Int).toNat 32)))) fun v5=>
  some (Sum.inl (v5,w64 (v4.2+1)))
 else
  zey (wire_Crc_J2 v2 v4.1)
def wire_Crc_L2 (v2 v0:Int×Int):Option ((Int×Int)⊕Int):=
 zb7 (fun y=>znm v2 y) v0
def zos (b:B8)(v2:Int×Int):Option ((Int×Int)⊕Int):=
 if (decide (v2.2<(b.length:Int)))=true then
  zao (0<=v2.2/\v2.2<(b.length:Int)) <|
  wire_Crc_L2 v2 (zeh .xor .u32 v2.1 (IntKind.u32.wrap ((zad b v2.2).toNat:Int)),0)
 else
  zey (zk6 v2.1)
def wire_Crc_L1 (b:B8)(v0:Int×Int):Option Int:=
 zb7 (fun y=>zos b y) v0
def wire_Crc (b:B8):Option Int:=
 wire_Crc_L1 b (4294967295,0)
theorem wire_Crc_ok {b r}(hF:wire_Crc b=some r):Pe Tryz.prog 127 S.none [.sl 1 (b.map za8)] (.int .u32 r) S.none:=by
 refine PT 31 [.tmp 2] [209] Tryz.func127 ?_;intro Q g hfin;unfold wire_Crc at hF;refine LR0 ?_;refine LR0 ?_;refine RJ (.l za8 b .z) ?_;refine NmQ (fun v=>zk6 v=some r) (fun v=>⟨[(3,.int .u32 v)],[],[],[],[]⟩) ?_ ?_
 ·refine zdb ?_;unfold wire_Crc_L1 at hF;refine znj hF [] (fun Z v2=>Z.up [3,7,8,9] [] [] [] [(3,.int .u32 v2.1),(9,.i v2.2)] [] [] []) ?_;intro n1 v2 y1 hF ih1 dn1;unfold zos at hF;refine LR0 ?_;refine Nif hF ?_ ?_ <;> intro hb hF
  ·refine zdb ?_;have⟨h0,hF⟩:=aE hF;refine RJ (.i za8 h0 .z) ?_;refine LR0 ?_;refine LR0 ?_;refine NmS (fun v3=>wire_Crc_J2 v2 v3=some y1) (fun Z v3=>Z.up [3,7,8,9] [] [] [] [(3,.int .u32 v3)] [] [] []) ?_ ?_
   ·refine zdb ?_;unfold wire_Crc_L2 at hF;refine znj hF [] (fun Z v4=>Z.up [3,7,8,9,17] [] [] [] [(3,.int .u32 v4.1),(17,.i v4.2)] [] [] []) ?_;intro n2 v4 y2 hF ih2 dn2;unfold znm at hF;refine LR0 ?_;refine Nif hF ?_ ?_ <;> intro hb hF
    ·refine zdb ?_;refine LR0 ?_;refine RJ (.g (by decide:(0:Int)<=1) .z) ?_;refine LR0 ?_;have⟨v5,hv,hF⟩:=oE hF;refine NmT (fun Z=>Z.up [3,7,8,9,17] [] [] [] [(3,.int .u32 v5)] [] [] []) ?_ ?_
     ·have hF:=hv;refine Nif hF ?_ ?_ <;> intro hb hF
      ·refine NRL (zeh .xor .u32 (Int.fdiv v4.1 (2 ^ (min (1:Int).toNat 32))) 3988292384) (fun v6:Int=>([(3,.int .u32 v6)],[],[],[])) [] [3,7,8,9,17] [] [] [] .nil (fun v6 hv=>?_);have hF:=zei hF hv;cases hF;exact zmf []
      ·cases hF;exact zmf []
     ·refine LR0 ?_;exact zg1 [] hF ih2
    ·refine zcp rfl ?_;have hF:=zak hF dn2;exact zfr v4.1 [] hF
   ·intro v3 hF;unfold wire_Crc_J2 at hF;refine LR0 ?_;exact zg1 [] hF ih1
  ·refine zcp rfl ?_;have hF:=zak hF dn1;exact zfr v2.1 [] hF
 ·intro v hF;unfold zk6 at hF;refine NRL (zeh .xor .u32 (if IntKind.signed .u32=true then -1 else IntKind.max .u32) v) (fun v1:Int=>([(2,.int .u32 v1)],[],[],[])) [] [2] [] [] [] .nil (fun v1 hv=>?_);have hF:=zei hF hv;cases hF;exact Wz [] hfin

/- slices.Equal[[]byte,byte] -/
def zdx (v:Unit):Option Bool:=
 some true
def zdc (s1 s2:B8)(v1:Int):Option (Int⊕Bool):=
 if (decide (v1<(s1.length:Int)))=true then
  zao (0<=v1/\v1<(s1.length:Int)) <|
  zao (0<=v1/\v1<(s2.length:Int)) <|
  if (!decide (((zad s1 v1).toNat:Int)=((zad s2 v1).toNat:Int)))=true then
   some (Sum.inr false)
  else
   some (Sum.inl (w64 (v1+1)))
 else
  zey (zdx ())
def zev (s1 s2:B8)(v0:Int):Option Bool:=
 zb7 (fun y=>zdc s1 s2 y) v0
def zco (s1 s2:B8):Option Bool:=
 if (!decide ((s1.length:Int)=(s2.length:Int)))=true then
  some false
 else
  zev s1 s2 0
theorem zes {s1 s2 r}(hF:zco s1 s2=some r):Pe Tryz.prog 82 S.none [.sl 1 (s1.map za8),.sl 1 (s2.map za8)] (.bool r) S.none:=by
 refine PT 26 [.tmp 4] [4] Tryz.func82 ?_;intro Q g hfin;unfold zco at hF;refine LR0 ?_;refine RJ (.l za8 s1 (.l za8 s2 .z)) ?_;refine Nif hF ?_ ?_ <;> intro hb hF
 ·refine LR0 ?_;cases hF;exact Wz [] hfin
 ·refine RJ (.l za8 s1 .z) ?_;refine NmQ (fun v=>zdx v=some r) (fun v=>(.w [])) ?_ ?_
  ·refine zdb ?_;unfold zev at hF;refine znj hF [] (fun Z v1=>Z.up [0,1,12,13] [] [] [] [(13,.i v1)] [] [] []) ?_;intro n1 v1 y1 hF ih1 dn1;unfold zdc at hF;refine LR0 ?_;refine Nif hF ?_ ?_ <;> intro hb hF
   ·refine zdb ?_;refine LR0 ?_;have⟨h0,h1,hF⟩:=zhi hF;refine DJ (.i za8 h0 (.i za8 h1 .z)) ?_;refine Nif hF ?_ ?_ <;> intro hb hF
    ·refine LR0 ?_;have hF:=zde hF dn1;cases hF;exact Wz [] hfin
    ·refine LR0 ?_;exact zg1 [] hF ih1
   ·refine zcp rfl ?_;have hF:=zak hF dn1;exact zfr () [] hF
  ·intro v hF;unfold zdx at hF;refine LR0 ?_;cases hF;exact Wz [] hfin

/- slices.Clone[[]byte,byte] -/
def zda (s0:B8):Option B8:=
 ubO (decide (s0.length=0)) (
  some ([]:B8)) (
  zao (((([]:B8)++s0).length:Int)*1<=140737488351232) <|
  some (([]:B8)++s0))
theorem zg7 {s0 r}(hF:zda s0=some r):Pe Tryz.prog 48 (.w []) [.sl 1 (s0.map za8)] (.row 5 0) ⟨[],[],[(5,.o 5 1 0 (r.map za8))],[],[]⟩:=by
 refine PT 8 [.tmp 2] [22] Tryz.func48 ?_;intro Q g hfin;unfold zda at hF;refine LR0 ?_;refine NR [.bo (decide (s0.length=0))] [0,4] [] [] [(0,.sl 1 (s0.map za8)),(4,.ub (decide (s0.length=0)) true)] (hc (ubn_ok za8 s0) .nil) ?_;refine Wk_ub 4 rfl fun b hb1 hb2=>?_;refine Nsplit rfl (fun hb=>?_) (fun hb=>?_)
 ·have hb:=hb1 hb;have hF:=(ubO_elim hF).1 hb;refine NR [] [2] [] [] [(2,.nils)] .nil ?_;cases hF;refine zas 2 60000 5 1 rfl rfl rfl ?_;refine za9 ⟨[],[(60000,5)],[],[]⟩ rfl ?_;exact Wz [(5,⟨0,true,false,false⟩)] hfin
 ·have hF:=(ubO_elim hF).2;have⟨h0,hF⟩:=aE hF;refine RJ (.p za8 h0 .z) ?_;cases hF;exact Wz [(5,⟨0,true,true,false⟩)] hfin

/- wire.Opened -/
def zg3 (v:B9×Int):Option (B9×Int):=
 some (v.1,v.2)
def wire_Opened_B1 (b:B8)(v1:B9×Int):Option ((B9×Int)⊕(B9×Int)):=
 if (decide (6<=(w64 ((b.length:Int) - v1.2))))=true then
  zao (0<=v1.2/\v1.2<(b.length:Int)) <|
  zao (0<=w64 (v1.2+1)/\w64 (v1.2+1)<(b.length:Int)) <|
  lt (zeh .or .i64 (w64 ((w64 ((zad b v1.2).toNat:Int))*2 ^ (min (8:Int).toNat 64))) (w64 ((zad b (w64 (v1.2+1))).toNat:Int))) fun v2=>
  if (decide ((b.length:Int)<(w64 ((w64 ((w64 (v1.2+2))+v2))+4))))=true then
   zey (zg3 (v1.1,v1.2))
  else
   zao (0<=v1.2/\v1.2<=w64 ((w64 (v1.2+2))+v2)/\w64 ((w64 (v1.2+2))+v2)<=(b.length:Int)) <|
   ob (wire_Crc (zdt (zdq b (w64 ((w64 (v1.2+2))+v2))) v1.2)) fun x=>
   zao (0<=w64 ((w64 (v1.2+2))+v2)/\w64 ((w64 (v1.2+2))+v2)<=w64 ((w64 ((w64 (v1.2+2))+v2))+4)/\w64 ((w64 ((w64 (v1.2+2))+v2))+4)<=(b.length:Int)) <|
   ob (zco (zdt (zdq b (w64 ((w64 ((w64 (v1.2+2))+v2))+4))) (w64 ((w64 (v1.2+2))+v2))) ([zfq (Int.fdiv x (2 ^ (min (24:Int).toNat 32))),zfq (Int.fdiv x (2 ^ (min (16:Int).toNat 32))),zfq (Int.fdiv x (2 ^ (min (8:Int).toNat 32))),zfq x]:B8)) fun x1=>
   if (!x1)=true then
    zey (zg3 (v1.1,v1.2))
   else
    zao (0<=w64 (v1.2+2)/\w64 (v1.2+2)<=w64 ((w64 (v1.2+2))+v2)/\w64 ((w64 (v1.2+2))+v2)<=(b.length:Int)) <|
    ob (zda (zdt (zdq b (w64 ((w64 (v1.2+2))+v2))) (w64 (v1.2+2)))) fun x2=>
    zao (((v1.1++([x2]:B9)).length:Int)*24<=140737488351232) <|
    some (Sum.inl ((v1.1++([x2]:B9)),w64 ((w64 ((w64 (v1.2+2))+v2))+4)))
 else
  zey (zg3 (v1.1,v1.2))
def wire_Opened_L1 (b:B8)(v0:B9×Int):Option (B9×Int):=
 zb7 (fun y=>wire_Opened_B1 b y) v0
def znu (b:B8):Option (B9×Int):=
 wire_Opened_L1 b (([]:B9),0)
theorem wire_Opened_ok {b r}(hF:znu b=some r):Pe Tryz.prog 77 (.w []) [.sl 1 (b.map za8)] (.tup [.row 66 0,.i r.2]) ⟨[],[],[(66,.z 22 1 0 (r.1.map zal))],[],[]⟩:=by
 refine PT 71 [.tmp 2,.tmp 3] [25,3] Tryz.func77 ?_;intro Q g hfin;unfold znu at hF;refine NR [] [0,2,3] [] [] [(0,.sl 1 (b.map za8)),(2,.nils),(3,.i 0)] .nil ?_;refine NmQ (fun v=>zg3 v=some r) (fun v=>⟨[(2,.row 66 0),(3,.i v.2)],[],[(66,.z 22 1 0 (v.1.map zal))],[],[]⟩) ?_ ?_
 ·refine zdb ?_;unfold wire_Opened_L1 at hF;refine zas 2 60000 22 1 rfl rfl rfl ?_;refine zd9 (fs:=[0,2,3]) (bs:=[]) (rs:=[60000]) (ms:=[]) (aa:=[]) (nv:=[]) rfl ?_;refine za9 ⟨[],[(60000,66)],[],[]⟩ rfl ?_;refine Nitr hF [] (fun v1=>⟨[(0,.sl 1 (b.map za8)),(2,.row 66 0),(3,.i v1.2)],[],[(66,.z 22 1 0 (v1.1.map zal))],[],[]⟩) ?_;intro n1 v1 y1 hF ih1 dn1;unfold wire_Opened_B1 at hF;refine RJ (.l za8 b .z) ?_;refine Nif hF ?_ ?_ <;> intro hb hF
  ·refine zdb ?_;have⟨h0,h1,hF⟩:=zhi hF;refine NDL (zeh .or .i64 (w64 ((w64 ((zad b v1.2).toNat:Int))*2 ^ (min (8:Int).toNat 64))) (w64 ((zad b (w64 (v1.2+1))).toNat:Int))) (fun v2:Int=>([(4,.i v2)],[],[],[])) [.av (za8 (zad b v1.2)),.av (za8 (zad b (w64 (v1.2+1))))] [0,2,3,4] [] [66] [] (hc (ze5 za8 h0) (hc (by decide:(0:Int)<=8) (hc (ze5 za8 h1) .nil))) (fun v2 hv=>?_);have hF:=zei hF hv;refine LR0 ?_;refine RJ (.l za8 b .z) ?_;refine Nif hF ?_ ?_ <;> intro hb hF
   ·refine zcp rfl ?_;have hF:=zak hF dn1;exact zfr (v1.1,v1.2) [] hF
   ·have⟨h2,hF⟩:=aE hF;have⟨x,h3,hF⟩:=oE hF;refine RJ (.s11 za8 h2 (.b (wire_Crc_ok h3) .z)) ?_;have⟨h4,hF⟩:=aE hF;have⟨x1,h5,hF⟩:=oE hF;refine RJ (.s11 za8 h4 (.g (by decide:(0:Int)<=24) (.g (by decide:(0:Int)<=16) (.g (by decide:(0:Int)<=8) (.a (.sealed) (.b (zes h5) .z)))))) ?_;refine Nif hF ?_ ?_ <;> intro hb hF
    ·refine zcp rfl ?_;have hF:=zak hF dn1;exact zfr (v1.1,v1.2) [] hF
    ·have⟨h6,hF⟩:=aE hF;have⟨x2,h7,hF⟩:=oE hF;have p8:=(Pe.ren (zg7 h7) ⟨[],[(5,64)],[],[]⟩);have⟨h9,hF⟩:=aE hF;refine RJ (.s11 za8 h6 (.e [] [] p8 (.a (.sealed) (.p zal h9 .z)))) ?_;refine LR0 ?_;exact zg1 [(66,⟨0,true,true,false⟩)] hF ih1
  ·refine zcp rfl ?_;have hF:=zak hF dn1;exact zfr (v1.1,v1.2) [] hF
 ·intro v hF;unfold zg3 at hF;refine LR0 ?_;cases hF;exact Wz [] hfin

/- wal.fault -/
def znb (code at0:Int):Fault:=
 (⟨code,at0⟩:Fault)
theorem zlr {code at0 r}(hF:znb code at0=r):Pe Tryz.prog 128 S.none [.i code,.i at0] (.agg (zag r)) S.none:=by
 refine PT 8 [.cell 4 32] [32] Tryz.func128 ?_;intro Q g hfin;unfold znb at hF;refine LR0 ?_;refine LR0 ?_;cases hF;exact Wz [] hfin

/- wal.Read$1 -/
def zi3 (x:UInt8):Bool:=
 decide ((x.toNat:Int)<((128:UInt8).toNat:Int))
theorem wal_Read_1_ok {x r}(hF:zi3 x=r):Pe Tryz.prog 130 S.none [.int .u8 ((x).toNat:Int)] (.bool r) S.none:=by
 refine PT 5 [.tmp 2] [4] Tryz.func130 ?_;intro Q g hfin;unfold zi3 at hF;refine LR0 ?_;refine LR0 ?_;cases hF;exact Wz [] hfin

/- slices.IndexFunc[[]byte,byte] -/
def zd3 (v:Unit):Option Int:=
 some (-1)
def zau (s0:B8)(v1:Int):Option (Int⊕Int):=
 if (decide (v1<(s0.length:Int)))=true then
  zao (0<=v1/\v1<(s0.length:Int)) <|
  lt (zi3 (zad s0 v1)) fun x=>
  if x=true then
   some (Sum.inr v1)
  else
   some (Sum.inl (w64 (v1+1)))
 else
  zey (zd3 ())
def zft (s0:B8)(v0:Int):Option Int:=
 zb7 (fun y=>zau s0 y) v0
def zb9 (s0:B8):Option Int:=
 zft s0 0
theorem zjz {s0 r}(hF:zb9 s0=some r):Pe Tryz.prog 129 S.none [.sl 1 (s0.map za8),.fn 130 []] (.i r) S.none:=by
 refine PT 19 [.tmp 4] [3] Tryz.func129 ?_;intro Q g hfin;unfold zb9 at hF;refine LR0 ?_;refine RJ (.l za8 s0 .z) ?_;refine NmQ (fun v=>zd3 v=some r) (fun v=>(.w [])) ?_ ?_
 ·refine zdb ?_;unfold zft at hF;refine znj hF [] (fun Z v1=>Z.up [0,1,7,8] [] [] [] [(8,.i v1)] [] [] []) ?_;intro n1 v1 y1 hF ih1 dn1;unfold zau at hF;refine LR0 ?_;refine Nif hF ?_ ?_ <;> intro hb hF
  ·refine zdb ?_;refine LR0 ?_;have⟨h0,hF⟩:=aE hF;have⟨x,h1,hF⟩:=lS hF;refine RJ (.i za8 h0 (.b (wal_Read_1_ok h1) .z)) ?_;refine Nif hF ?_ ?_ <;> intro hb hF
   ·refine LR0 ?_;have hF:=zde hF dn1;cases hF;exact Wz [] hfin
   ·refine LR0 ?_;exact zg1 [] hF ih1
  ·refine zcp rfl ?_;have hF:=zak hF dn1;exact zfr () [] hF
 ·intro v hF;unfold zd3 at hF;refine LR0 ?_;cases hF;exact Wz [] hfin

/- wire.Read -/
def wire_Read (b:B8):Reader:=
 (⟨b,false⟩:Reader)
theorem wire_Read_ok {b r}(hF:wire_Read b=r):Pe Tryz.prog 131 (.w []) [.sl 1 (b.map za8)] (.ptr 5 0) ⟨[],[(5,(zdy r))],[],[],[]⟩:=by
 refine PT 6 [.tmp 2] [213] Tryz.func131 ?_;intro Q g hfin;unfold wire_Read at hF;refine LR0 ?_;refine LR0 ?_;cases hF;exact Wz [] hfin

/- (*wire.Reader).Num -/
def zd2 (v:Reader):Option (Int×Reader):=
 some (0,(⟨([]:B8),true⟩:Reader))
def zc7 (v1:Reader×Int×B8×Int×Int):Option ((Reader×Int×B8×Int×Int)⊕(Int×Reader)):=
 if (decide (v1.2.2.2.2<v1.2.2.2.1))=true then
  zao (0<=v1.2.2.2.2/\v1.2.2.2.2<(v1.2.2.1.length:Int)) <|
  zao (0<=(w64 (7*v1.2.2.2.2))) <|
  lt (zeh .or .i64 v1.2.1 (w64 ((w64 ((zfq (((BitVec.ofInt 8 ((zad v1.2.2.1 v1.2.2.2.2).toNat:Int) &&& BitVec.ofInt 8 ((127:UInt8).toNat:Int)).toNat:Int))).toNat:Int))*2 ^ (min (w64 (7*v1.2.2.2.2)).toNat 64)))) fun v2=>
  if ((decide (4<v1.2.2.2.2))||(decide (1000000000<v2)))=true then
   zey (zd2 v1.1)
  else
   if (decide (((zad v1.2.2.1 v1.2.2.2.2).toNat:Int)<((128:UInt8).toNat:Int)))=true then
    if ((decide (0<v1.2.2.2.2))&&(decide (((zad v1.2.2.1 v1.2.2.2.2).toNat:Int)=((0:UInt8).toNat:Int))))=true then
     zey (zd2 v1.1)
    else
     zao (0<=w64 (v1.2.2.2.2+1)/\w64 (v1.2.2.2.2+1)<=(v1.1.b.length:Int)) <|
     some (Sum.inr (v2,(⟨(zdt v1.1.b (w64 (v1.2.2.2.2+1))),v1.1.bad⟩:Reader)))
   else
    some (Sum.inl (v1.1,v2,v1.2.2.1,v1.2.2.2.1,w64 (v1.2.2.2.2+1)))
 else
  zey (zd2 v1.1)
def zio (v0:Reader×Int×B8×Int×Int):Option (Int×Reader):=
 zb7 (fun y=>zc7 y) v0
def zb1 (box:Reader):Option (Int×Reader):=
 zio (box,0,box.b,(box.b.length:Int),0)
theorem zem {box r}(hF:zb1 box=some r):Pe Tryz.prog 132 ⟨[],[(100000,(zdy box))],[],[],[]⟩ [.ptr 100000 0] (.i r.1) ⟨[],[(100000,(zdy r.2))],[],[],[]⟩:=by
 refine PT 56 [.tmp 2] [3] Tryz.func132 ?_;intro Q g hfin;unfold zb1 at hF;refine LR0 ?_;refine LR0 ?_;refine RJ (.l za8 box.b .z) ?_;refine NmS (fun v=>zd2 v=some r) (fun Z v=>Z.up [0] [100000] [] [] [] [(100000,(zdy v))] [] []) ?_ ?_
 ·refine zdb ?_;unfold zio at hF;refine Nitr hF [] (fun v1=>⟨[(0,.ptr 100000 0),(3,.i v1.2.1),(9,.sl 1 (v1.2.2.1.map za8)),(10,.i v1.2.2.2.1),(11,.i v1.2.2.2.2)],[(100000,(zdy v1.1))],[],[],[]⟩) ?_;intro n1 v1 y1 hF ih1 dn1;unfold zc7 at hF;refine LR0 ?_;refine Nif hF ?_ ?_ <;> intro hb hF
  ·refine zdb ?_;have⟨h0,hF⟩:=aE hF;refine RJ (.i za8 h0 .z) ?_;have⟨h1,hF⟩:=aE hF;refine NRL (zeh .or .i64 v1.2.1 (w64 ((w64 ((zfq (((BitVec.ofInt 8 ((zad v1.2.2.1 v1.2.2.2.2).toNat:Int) &&& BitVec.ofInt 8 ((127:UInt8).toNat:Int)).toNat:Int))).toNat:Int))*2 ^ (min (w64 (7*v1.2.2.2.2)).toNat 64)))) (fun v2:Int=>([(3,.i v2)],[],[],[])) [] [0,3,4,5,9,10,11] [100000] [] [] (hc h1 .nil) (fun v2 hv=>?_);have hF:=zei hF hv;refine LR0 ?_;refine Nif hF ?_ ?_ <;> intro hb hF
   ·refine zcp rfl ?_;have hF:=zak hF dn1;exact zfr v1.1 [] hF
   ·refine LR0 ?_;refine Nif hF ?_ ?_ <;> intro hb hF
    ·refine LR0 ?_;refine Nif hF ?_ ?_ <;> intro hb hF
     ·refine zcp rfl ?_;have hF:=zak hF dn1;exact zfr v1.1 [] hF
     ·have⟨h2,hF⟩:=aE hF;refine RJ (.s10 za8 h2 .z) ?_;refine LR0 ?_;have hF:=zde hF dn1;cases hF;exact Wz [] hfin
    ·refine LR0 ?_;exact zg1 [] hF ih1
  ·refine zcp rfl ?_;have hF:=zak hF dn1;exact zfr v1.1 [] hF
 ·intro v hF;unfold zd2 at hF;refine LR0 ?_;refine VR [] [2] [100000] [] [] [(2,.i 0)] [(100000,[.nils,.bool true])] [] [] .nil ?_;cases hF;refine Wk_coeB 100000 [.sl 1 (([]:B8).map za8),.bool true] rfl (.cons (CoeS.nils 1) (.cons (CoeS.refl _) .nil)) ?_;exact Wz [] hfin

/- (*wire.Reader).Ok -/
def zfv (box:Reader):Bool:=
 (!box.bad)&&(decide ((box.b.length:Int)=0))
theorem zmx {box r}(hF:zfv box=r):Pe Tryz.prog 133 ⟨[],[(100000,(zdy box))],[],[],[]⟩ [.ptr 100000 0] (.bool r) ⟨[],[(100000,(zdy box))],[],[],[]⟩:=by
 refine PT 16 [.tmp 2] [4] Tryz.func133 ?_;intro Q g hfin;unfold zfv at hF;refine LR0 ?_;refine RJ (.a (.nat (box.b.length:Int)) (.g (fun (_:(!box.bad)=true)=>(zfb za8 box.b)) .z)) ?_;cases hF;exact Wz [] hfin

/- cell.fault -/
def zi7 (code at0:Int):Fault:=
 (⟨code,at0⟩:Fault)
theorem zis {code at0 r}(hF:zi7 code at0=r):Pe Tryz.prog 187 S.none [.i code,.i at0] (.agg (zag r)) S.none:=by
 refine PT 8 [.cell 4 32] [32] Tryz.func187 ?_;intro Q g hfin;unfold zi7 at hF;refine LR0 ?_;refine LR0 ?_;cases hF;exact Wz [] hfin

/- (*wire.Reader).More -/
def zek (box:Reader):Bool:=
 decide (0<(box.b.length:Int))
theorem wire_Reader_More_ok {box r}(hF:zek box=r):Pe Tryz.prog 188 ⟨[],[(100000,(zdy box))],[],[],[]⟩ [.ptr 100000 0] (.bool r) ⟨[],[(100000,(zdy box))],[],[],[]⟩:=by
 refine PT 9 [.tmp 2] [4] Tryz.func188 ?_;intro Q g hfin;unfold zek at hF;refine LR0 ?_;refine RJ (.l za8 box.b .z) ?_;cases hF;exact Wz [] hfin

/- (*wire.Reader).Text -/
def zb6 (box:Reader):Option (B8×Reader):=
 ob (zb1 box) fun x=>
 if (x.2.bad||(decide ((x.2.b.length:Int)<x.1)))=true then
  some (([]:B8),(⟨([]:B8),true⟩:Reader))
 else
  zao (0<=x.1/\x.1<=(x.2.b.length:Int)) <|
  zao (0<=x.1/\x.1<=(x.2.b.length:Int)) <|
  some ((zdq x.2.b x.1),(⟨(zdt x.2.b x.1),x.2.bad⟩:Reader))
theorem zfi {box r}(hF:zb6 box=some r):Pe Tryz.prog 136 ⟨[],[(100000,(zdy box))],[],[],[]⟩ [.ptr 100000 0] (.str r.1) ⟨[],[(100000,(zdy r.2))],[],[],[]⟩:=by
 refine PT 43 [.tmp 2] [9] Tryz.func136 ?_;intro Q g hfin;unfold zb6 at hF;refine LR0 ?_;have⟨x,h0,hF⟩:=oE hF;have p1:=(Pe.ren (zem h0) ⟨[],[],[],[]⟩);refine RJ (.e [100000] [] p1 .z) ?_;refine RJ (.a (.nat (x.2.b.length:Int)) (.g (fun (_:(!x.2.bad)=true)=>(zfb za8 x.2.b)) .z)) ?_;refine Nif hF ?_ ?_ <;> intro hb hF
 ·refine LR0 ?_;refine VR [] [2] [100000] [] [] [(2,.str ([]:B8))] [(100000,[.nils,.bool true])] [] [] .nil ?_;cases hF;refine Wk_coeB 100000 [.sl 1 (([]:B8).map za8),.bool true] rfl (.cons (CoeS.nils 1) (.cons (CoeS.refl _) .nil)) ?_;exact Wz [] hfin
 ·have⟨h2,hF⟩:=aE hF;refine RJ (.s01 za8 h2 (.a (.str (zdq x.2.b x.1)) (.g (u8s_ok (zdq x.2.b x.1)) .z))) ?_;have⟨h3,hF⟩:=aE hF;refine RJ (.s10 za8 h3 .z) ?_;refine LR0 ?_;cases hF;exact Wz [] hfin

/- (*wire.Reader).Fine -/
def zdf (box:Reader):Bool:=
 !box.bad
theorem wire_Reader_Fine_ok {box r}(hF:zdf box=r):Pe Tryz.prog 219 ⟨[],[(100000,(zdy box))],[],[],[]⟩ [.ptr 100000 0] (.bool r) ⟨[],[(100000,(zdy box))],[],[],[]⟩:=by
 refine PT 8 [.tmp 2] [4] Tryz.func219 ?_;intro Q g hfin;unfold zdf at hF;refine LR0 ?_;refine LR0 ?_;cases hF;exact Wz [] hfin

/- cell.code -/
def cell_code (c:Cell):Int:=
 if ((((decide (c.Row=([]:B8)))||(decide (40<(c.Row.length:Int))))||(decide (40<(c.Col.length:Int))))||(decide (200<(c.Value.length:Int))))=true then
  8
 else
  if ((decide (c.Time<0))||(decide (1000000000<c.Time)))=true then
   3
  else
   if (c.Gone&&(!decide (c.Value=([]:B8))))=true then
    5
   else
    0
theorem cell_code_ok {c r}(hF:cell_code c=r):Pe Tryz.prog 190 S.none [.agg (zfa c)] (.i r) S.none:=by
 refine PT 42 [.tmp 2] [3] Tryz.func190 ?_;intro Q g hfin;unfold cell_code at hF;refine LR0 ?_;refine zdb ?_;refine LR0 ?_;refine Nif hF ?_ ?_ <;> intro hb hF
 ·refine LR0 ?_;cases hF;exact Wz [] hfin
 ·refine LR0 ?_;refine Nif hF ?_ ?_ <;> intro hb hF
  ·refine LR0 ?_;cases hF;exact Wz [] hfin
  ·refine LR0 ?_;refine Nif hF ?_ ?_ <;> intro hb hF
   ·refine LR0 ?_;cases hF;exact Wz [] hfin
   ·refine LR0 ?_;cases hF;exact Wz [] hfin

/- cell.From -/
def zmp (box:Reader):Option (Cell×Bool×Reader):=
 ob (zb6 box) fun x=>
 ob (zb6 x.2) fun x1=>
 ob (zb1 x1.2) fun x2=>
 ob (zb1 x2.2) fun x3=>
 ob (zb6 x3.2) fun x4=>
 lt (zdf x4.2) fun x5=>
 lt (cell_code (⟨x.1,x1.1,x2.1,decide (x3.1=1),x4.1⟩:Cell)) fun x6=>
 some ((⟨x.1,x1.1,x2.1,decide (x3.1=1),x4.1⟩:Cell),((decide (x3.1<2))&&x5)&&(decide (x6=0)),x4.2)
theorem cell_From_ok {box r}(hF:zmp box=some r):Pe Tryz.prog 189 ⟨[],[(100000,(zdy box))],[],[],[]⟩ [.ptr 100000 0] (.tup [.agg (zfa r.1),.bool r.2.1]) ⟨[],[(100000,(zdy r.2.2))],[],[],[]⟩:=by
 refine PT 33 [.cell 2 75,.tmp 3] [75,4] Tryz.func189 ?_;intro Q g hfin;unfold zmp at hF;refine LR0 ?_;have⟨x,h0,hF⟩:=oE hF;have p1:=(Pe.ren (zfi h0) ⟨[],[],[],[]⟩);have⟨x1,h2,hF⟩:=oE hF;have p3:=(Pe.ren (zfi h2) ⟨[],[],[],[]⟩);have⟨x2,h4,hF⟩:=oE hF;have p5:=(Pe.ren (zem h4) ⟨[],[],[],[]⟩);refine RJ (.e [100000] [] p1 (.e [100000] [] p3 (.e [100000] [] p5 .z))) ?_;have⟨x3,h6,hF⟩:=oE hF;have p7:=(Pe.ren (zem h6) ⟨[],[],[],[]⟩);refine RJ (.e [100000] [] p7 .z) ?_;have⟨x4,h8,hF⟩:=oE hF;have p9:=(Pe.ren (zfi h8) ⟨[],[],[],[]⟩);refine RJ (.e [100000] [] p9 .z) ?_;have⟨x5,h10,hF⟩:=lS hF;have⟨x6,h11,hF⟩:=lS hF;refine DJ (.a (.callR [100000] [] [] [] (.bool x5)) (.g (fun (ga0:(decide (x3.1<2))=true)=>(Pe.ren (wire_Reader_Fine_ok h10) ⟨[],[],[],[]⟩)) (.a (.callB (.i x6)) (.g (fun (ga0:((decide (x3.1<2))&&x5)=true)=>(cell_code_ok h11)) .z)))) ?_;cases hF;exact Wz [] hfin

/- cmp.isNaN[string] -/
def zfu (x:B8):Bool:=
 !decide (x=x)
theorem zlm {x r}(hF:zfu x=r):Pe Tryz.prog 140 S.none [.str x] (.bool r) S.none:=by
 refine PT 6 [.tmp 2] [4] Tryz.func140 ?_;intro Q g hfin;unfold zfu at hF;refine LR0 ?_;refine LR0 ?_;cases hF;exact Wz [] hfin

/- cmp.Compare[string] -/
def zd1 (x y0:B8):Int:=
 lt (zfu x) fun x1=>
 lt (zfu y0) fun x2=>
 if x1=true then
  if x2=true then
   0
  else
   (-1)
 else
  if x2=true then
   1
  else
   if (Op.bytesLess x y0)=true then
    (-1)
   else
    if (Op.bytesLess y0 x)=true then
     1
    else
     0
theorem zjr {x y0 r}(hF:zd1 x y0=r):Pe Tryz.prog 88 S.none [.str x,.str y0] (.i r) S.none:=by
 refine PT 20 [.tmp 4] [3] Tryz.func88 ?_;intro Q g hfin;unfold zd1 at hF;refine LR0 ?_;have⟨x1,h0,hF⟩:=lS hF;refine RJ (.b (zlm h0) .z) ?_;have⟨x2,h1,hF⟩:=lS hF;refine RJ (.b (zlm h1) .z) ?_;refine LR0 ?_;refine Nif hF ?_ ?_ <;> intro hb hF
 ·refine LR0 ?_;refine Nif hF ?_ ?_ <;> intro hb hF
  ·refine LR0 ?_;cases hF;exact Wz [] hfin
  ·refine LR0 ?_;cases hF;exact Wz [] hfin
 ·refine LR0 ?_;refine Nif hF ?_ ?_ <;> intro hb hF
  ·refine LR0 ?_;cases hF;exact Wz [] hfin
  ·refine LR0 ?_;refine Nif hF ?_ ?_ <;> intro hb hF
   ·refine LR0 ?_;cases hF;exact Wz [] hfin
   ·refine LR0 ?_;refine Nif hF ?_ ?_ <;> intro hb hF
    ·refine LR0 ?_;cases hF;exact Wz [] hfin
    ·refine LR0 ?_;cases hF;exact Wz [] hfin

/- cmp.isNaN[int] -/
def zh9 (x:Int):Bool:=
 !decide (x=x)
theorem cmp_isNaN_int_ok {x r}(hF:zh9 x=r):Pe Tryz.prog 141 S.none [.i x] (.bool r) S.none:=by
 refine PT 6 [.tmp 2] [4] Tryz.func141 ?_;intro Q g hfin;unfold zh9 at hF;refine LR0 ?_;refine LR0 ?_;cases hF;exact Wz [] hfin

/- cmp.Compare[int] -/
def zgh (x y0:Int):Int:=
 lt (zh9 x) fun x1=>
 lt (zh9 y0) fun x2=>
 if x1=true then
  if x2=true then
   0
  else
   (-1)
 else
  if x2=true then
   1
  else
   if (decide (x<y0))=true then
    (-1)
   else
    if (decide (y0<x))=true then
     1
    else
     0
theorem cmp_Compare_int_ok {x y0 r}(hF:zgh x y0=r):Pe Tryz.prog 89 S.none [.i x,.i y0] (.i r) S.none:=by
 refine PT 20 [.tmp 4] [3] Tryz.func89 ?_;intro Q g hfin;unfold zgh at hF;refine LR0 ?_;have⟨x1,h0,hF⟩:=lS hF;refine RJ (.b (cmp_isNaN_int_ok h0) .z) ?_;have⟨x2,h1,hF⟩:=lS hF;refine RJ (.b (cmp_isNaN_int_ok h1) .z) ?_;refine LR0 ?_;refine Nif hF ?_ ?_ <;> intro hb hF
 ·refine LR0 ?_;refine Nif hF ?_ ?_ <;> intro hb hF
  ·refine LR0 ?_;cases hF;exact Wz [] hfin
  ·refine LR0 ?_;cases hF;exact Wz [] hfin
 ·refine LR0 ?_;refine Nif hF ?_ ?_ <;> intro hb hF
  ·refine LR0 ?_;cases hF;exact Wz [] hfin
  ·refine LR0 ?_;refine Nif hF ?_ ?_ <;> intro hb hF
   ·refine LR0 ?_;cases hF;exact Wz [] hfin
   ·refine LR0 ?_;refine Nif hF ?_ ?_ <;> intro hb hF
    ·refine LR0 ?_;cases hF;exact Wz [] hfin
    ·refine LR0 ?_;cases hF;exact Wz [] hfin

/- cmp.Or[int] -/
def znp (v:Unit):Option Int:=
 some 0
def zdv (vals:List Int)(v1:Int):Option (Int⊕Int):=
 if (decide (v1<(vals.length:Int)))=true then
  zao (0<=v1/\v1<(vals.length:Int)) <|
  if (!decide ((zad vals v1)=0))=true then
   some (Sum.inr (zad vals v1))
  else
   some (Sum.inl (w64 (v1+1)))
 else
  zey (znp ())
def cmp_Or_int_L1 (vals:List Int)(v0:Int):Option Int:=
 zb7 (fun y=>zdv vals y) v0
def zmu (vals:List Int):Option Int:=
 cmp_Or_int_L1 vals 0
theorem cmp_Or_int_ok {vals r}(hF:zmu vals=some r):Pe Tryz.prog 87 S.none [.sl 1 (vals.map zit)] (.i r) S.none:=by
 refine PT 18 [.tmp 2] [3] Tryz.func87 ?_;intro Q g hfin;unfold zmu at hF;refine LR0 ?_;refine LR0 ?_;refine RJ (.l zit vals .z) ?_;refine NmS (fun v=>znp v=some r) (fun Z v=>Z.up [3] [] [] [] [] [] [] []) ?_ ?_
 ·refine zdb ?_;unfold cmp_Or_int_L1 at hF;refine znj hF [] (fun Z v1=>Z.up [3,6,7,8] [] [] [] [(8,.i v1)] [] [] []) ?_;intro n1 v1 y1 hF ih1 dn1;unfold zdv at hF;refine LR0 ?_;refine Nif hF ?_ ?_ <;> intro hb hF
  ·refine zdb ?_;have⟨h0,hF⟩:=aE hF;refine RJ (.i zit h0 .z) ?_;refine LR0 ?_;refine Nif hF ?_ ?_ <;> intro hb hF
   ·refine LR0 ?_;have hF:=zde hF dn1;cases hF;exact Wz [] hfin
   ·refine LR0 ?_;exact zg1 [] hF ih1
  ·refine zcp rfl ?_;have hF:=zak hF dn1;exact zfr () [] hF
 ·intro v hF;unfold znp at hF;refine LR0 ?_;cases hF;exact Wz [] hfin

/- cell.Order -/
def zej (a0 b:Cell):Option Int:=
 lt (zd1 a0.Row b.Row) fun x=>
 lt (zd1 a0.Col b.Col) fun x1=>
 lt (zgh b.Time a0.Time) fun x2=>
 ob (zmu ([x,x1,x2]:List Int)) fun x3=>
 some x3
theorem zeo {a0 b r}(hF:zej a0 b=some r):Pe Tryz.prog 54 S.none [.agg (zfa a0),.agg (zfa b)] (.i r) S.none:=by
 refine PT 22 [.tmp 4] [3] Tryz.func54 ?_;intro Q g hfin;unfold zej at hF;refine LR0 ?_;have⟨x,h0,hF⟩:=lS hF;have⟨x1,h1,hF⟩:=lS hF;have⟨x2,h2,hF⟩:=lS hF;have⟨x3,h3,hF⟩:=oE hF;refine DJ (.b (zjr h0) (.b (zjr h1) (.b (cmp_Compare_int_ok h2) (.a (.sealed) (.b (cmp_Or_int_ok h3) .z))))) ?_;cases hF;exact Wz [] hfin

/- cell.Check -/
def zoq (v:Fault):Option Fault:=
 some (⟨0,0⟩:Fault)
def zfe (l:Cs)(v1:Fault×Int):Option ((Fault×Int)⊕Fault):=
 if (decide (v1.2<(l.length:Int)))=true then
  zao (0<=v1.2/\v1.2<(l.length:Int)) <|
  lt (cell_code (⟨(zad l v1.2).Row,(zad l v1.2).Col,(zad l v1.2).Time,(zad l v1.2).Gone,(zad l v1.2).Value⟩:Cell)) fun x1=>
  if (!decide (x1=0))=true then
   lt (zi7 x1 v1.2) fun x2=>
   some (Sum.inr x2)
  else
   zao ((decide (0<v1.2))=true->0<=w64 (v1.2 - 1)/\w64 (v1.2 - 1)<(l.length:Int)) <|
   ob (if (decide (0<v1.2))=true then (zej (⟨(zad l (w64 (v1.2 - 1))).Row,(zad l (w64 (v1.2 - 1))).Col,(zad l (w64 (v1.2 - 1))).Time,(zad l (w64 (v1.2 - 1))).Gone,(zad l (w64 (v1.2 - 1))).Value⟩:Cell) (⟨(zad l v1.2).Row,(zad l v1.2).Col,(zad l v1.2).Time,(zad l v1.2).Gone,(zad l v1.2).Value⟩:Cell)) else some default) fun x3=>
   if ((decide (0<v1.2))&&(decide (0<=x3)))=true then
    lt (zi7 10 v1.2) fun x4=>
    some (Sum.inr x4)
   else
    some (Sum.inl (v1.1,w64 (v1.2+1)))
 else
  zey (zoq v1.1)
def znn (l:Cs)(v0:Fault×Int):Option Fault:=
 zb7 (fun y=>zfe l y) v0
def zi6 (l:Cs):Option Fault:=
 if (decide (1000<(l.length:Int)))=true then
  lt (zi7 2 0) fun x=>
  some x
 else
  znn l ((⟨0,0⟩:Fault),0)
theorem znk {l r}(hF:zi6 l=some r):Pe Tryz.prog 137 S.none [.sl 5 (l.map zab)] (.agg (zag r)) S.none:=by
 refine PT 40 [.cell 2 32] [32] Tryz.func137 ?_;intro Q g hfin;unfold zi6 at hF;refine LR0 ?_;refine RJ (.l zab l .z) ?_;refine Nif hF ?_ ?_ <;> intro hb hF
 ·have⟨x,h0,hF⟩:=lS hF;refine RJ (.b (zis h0) .z) ?_;cases hF;exact Wz [] hfin
 ·refine RJ (.l zab l .z) ?_;refine NmS (fun v=>zoq v=some r) (fun Z v=>Z.up [2] [2] [] [] [] [(2,(zag v))] [] []) ?_ ?_
  ·refine zdb ?_;unfold znn at hF;refine znj hF [] (fun Z v1=>Z.up [0,2,10,11,12] [2] [] [] [(12,.i v1.2)] [(2,(zag v1.1))] [] []) ?_;intro n1 v1 y1 hF ih1 dn1;unfold zfe at hF;refine LR0 ?_;refine Nif hF ?_ ?_ <;> intro hb hF
   ·refine zdb ?_;have⟨h1,hF⟩:=aE hF;refine RJ (.i zab h1 .z) ?_;have⟨x1,h2,hF⟩:=lS hF;refine RJ (.b (cell_code_ok h2) .z) ?_;refine LR0 ?_;refine Nif hF ?_ ?_ <;> intro hb hF
    ·have⟨x2,h3,hF⟩:=lS hF;refine RJ (.b (zis h3) .z) ?_;have hF:=zde hF dn1;cases hF;exact Wz [] hfin
    ·have⟨h4,hF⟩:=aE hF;have⟨x3,h5,hF⟩:=oE hF;refine DJ (.a (.av (zab (zad l (w64 (v1.2 - 1))))) (.g (fun (ga0:(decide (0<v1.2))=true)=>(ze5 zab (h4 ga0))) (.a (.callB (.i x3)) (.g (fun (ga0:(decide (0<v1.2))=true)=>(zeo (ite_t h5 ga0))) .z)))) ?_;refine Nif hF ?_ ?_ <;> intro hb hF
     ·have⟨x4,h6,hF⟩:=lS hF;refine RJ (.b (zis h6) .z) ?_;have hF:=zde hF dn1;cases hF;exact Wz [] hfin
     ·refine LR0 ?_;exact zg1 [] hF ih1
   ·refine zcp rfl ?_;have hF:=zak hF dn1;exact zfr v1.1 [] hF
  ·intro v hF;unfold zoq at hF;refine LR0 ?_;cases hF;exact Wz [] hfin

/- cell.Read -/
def zjg (v:Fault×Cs):Option (Cs×Fault):=
 ob (zi6 v.2) fun x2=>
 if (!decide (x2.Code=0))=true then
  some (([]:Cs),x2)
 else
  some (v.2,(⟨0,0⟩:Fault))
def zjf (v1:Fault×Cs×Reader):Option ((Fault×Cs×Reader)⊕(Cs×Fault)):=
 lt (zek v1.2.2) fun x3=>
 if x3=true then
  ob (zmp v1.2.2) fun x4=>
  if (!x4.2.1)=true then
   lt (zi7 5 (v1.2.1.length:Int)) fun x5=>
   some (Sum.inr (([]:Cs),x5))
  else
   zao (((v1.2.1++[x4.1]).length:Int)*64<=140737488351232) <|
   some (Sum.inl (v1.1,(v1.2.1++[x4.1]),x4.2.2))
 else
  zey (zjg (v1.1,v1.2.1))
def cell_Read_L1 (v0:Fault×Cs×Reader):Option (Cs×Fault):=
 zb7 (fun y=>zjf y) v0
def zmo (b:B8):Option (Cs×Fault):=
 if (decide (60000<(b.length:Int)))=true then
  lt (zi7 8 0) fun x=>
  some (([]:Cs),x)
 else
  lt (wire_Read b) fun x1=>
  cell_Read_L1 ((⟨0,0⟩:Fault),([]:Cs),x1)
theorem cell_Read_ok {b r}(hF:zmo b=some r):Pe Tryz.prog 134 (.w []) [.sl 1 (b.map za8)] (.tup [.row 30 0,.agg (zag r.2)]) ⟨[],[],[(30,.z 75 5 0 (r.1.map zab))],[],[]⟩:=by
 refine PT 39 [.tmp 2,.cell 3 32] [68,32] Tryz.func134 ?_;intro Q g hfin;unfold zmo at hF;refine LR0 ?_;refine RJ (.l za8 b .z) ?_;refine Nif hF ?_ ?_ <;> intro hb hF
 ·have⟨x,h0,hF⟩:=lS hF;refine VR [.callB (.agg (zag x))] [2,3] [3] [] [] [(2,.nils),(3,.ptr 3 0)] [(3,(zag x))] [] [] (hc (zis h0) .nil) ?_;cases hF;refine zas 2 60000 75 5 rfl rfl rfl ?_;refine za9 ⟨[],[(60000,30)],[],[]⟩ rfl ?_;exact Wz [] hfin
 ·refine LR0 ?_;have⟨x1,h1,hF⟩:=lS hF;have p2:=(Pe.ren (wire_Read_ok h1) ⟨[(5,14)],[],[],[]⟩);refine VR [cE [] [] [] [] p2] [3,4,5] [3,14] [] [] [(3,.ptr 3 0),(4,.nils),(5,.ptr 14 0)] [(3,[.i 0,.i 0]),(14,(zdy x1))] [] [] (hc p2 .nil) ?_;refine NmQ (fun v=>zjg v=some r) (fun v=>⟨[(3,.ptr 3 0),(4,.row 30 0)],[(3,(zag v.1))],[(30,.z 75 5 0 (v.2.map zab))],[],[]⟩) ?_ ?_
  ·refine zdb ?_;unfold cell_Read_L1 at hF;refine zas 4 60002 75 5 rfl rfl rfl ?_;refine zd9 (fs:=[3,4,5]) (bs:=[3,14]) (rs:=[60002]) (ms:=[]) (aa:=[]) (nv:=[]) rfl ?_;refine za9 ⟨[],[(60002,30)],[],[]⟩ rfl ?_;refine Nitr hF [] (fun v1=>⟨[(3,.ptr 3 0),(4,.row 30 0),(5,.ptr 14 0)],[(3,(zag v1.1)),(14,(zdy v1.2.2))],[(30,.z 75 5 0 (v1.2.1.map zab))],[],[]⟩) ?_;intro n1 v1 y1 hF ih1 dn1;unfold zjf at hF;have⟨x3,h4,hF⟩:=lS hF;refine RJ (.q [14] [] (Pe.ren (wire_Reader_More_ok h4) ⟨[(100000,14)],[],[],[]⟩) .z) ?_;refine Nif hF ?_ ?_ <;> intro hb hF
   ·refine zdb ?_;have⟨x4,h5,hF⟩:=oE hF;have p6:=(Pe.ren (cell_From_ok h5) ⟨[(100000,14)],[],[],[]⟩);refine RJ (.e [14] [] p6 .z) ?_;refine LR0 ?_;refine Nif hF ?_ ?_ <;> intro hb hF
    ·have⟨x5,h7,hF⟩:=lS hF;refine VR [.nat (v1.2.1.length:Int),.callB (.agg (zag x5))] [2,3] [3] [] [] [(2,.nils),(3,.ptr 3 0)] [(3,(zag x5))] [] [] (hc (zfb zab v1.2.1) (hc (zis h7) .nil)) ?_;have hF:=zde hF dn1;cases hF;refine zas 2 60003 75 5 rfl rfl rfl ?_;refine za9 ⟨[],[(60003,30)],[],[]⟩ rfl ?_;exact Wz [] hfin
    ·have⟨h8,hF⟩:=aE hF;refine RJ (.a (.sealed) (.p zab h8 .z)) ?_;exact zg1 [(30,⟨0,true,true,false⟩)] hF ih1
   ·refine zcp rfl ?_;have hF:=zak hF dn1;exact zfr (v1.1,v1.2.1) [] hF
  ·intro v hF;unfold zjg at hF;have⟨x2,h3,hF⟩:=oE hF;refine RJ (.b (znk h3) .z) ?_;refine LR0 ?_;refine Nif hF ?_ ?_ <;> intro hb hF
   ·refine VD [] [2,3] [3] [] [] [(2,.nils),(3,.ptr 3 0)] [(3,(zag x2))] [] [] .nil ?_;cases hF;refine zas 2 60001 75 5 rfl rfl rfl ?_;refine za9 ⟨[],[(60001,30)],[],[]⟩ rfl ?_;exact Wz [] hfin
   ·refine LR0 ?_;cases hF;exact Wz [] hfin

/- wal.Check -/
def wal_Check (num:Note):Option Fault:=
 if ((decide (num.Seq<1))||(decide (1000000000<num.Seq)))=true then
  lt (znb 3 (-1)) fun x=>
  some x
 else
  if ((decide ((num.Cells.length:Int)=0))||(decide (20<(num.Cells.length:Int))))=true then
   lt (znb 2 (-1)) fun x1=>
   some x1
  else
   ob (zi6 num.Cells) fun x2=>
   some x2
theorem wal_Check_ok {num r}(hF:wal_Check num=some r):Pe Tryz.prog 135 S.none [.agg (c_Note num)] (.agg (zag r)) S.none:=by
 refine PT 28 [.cell 2 32] [32] Tryz.func135 ?_;intro Q g hfin;unfold wal_Check at hF;refine LR0 ?_;refine zdb ?_;refine LR0 ?_;refine Nif hF ?_ ?_ <;> intro hb hF
 ·have⟨x,h0,hF⟩:=lS hF;refine RJ (.b (zlr h0) .z) ?_;cases hF;exact Wz [] hfin
 ·refine RJ (.l zab num.Cells (.a (.nat (num.Cells.length:Int)) (.g (fun (_:(!(decide ((num.Cells.length:Int)=0)))=true)=>(zfb zab num.Cells)) .z))) ?_;refine Nif hF ?_ ?_ <;> intro hb hF
  ·have⟨x1,h1,hF⟩:=lS hF;refine RJ (.b (zlr h1) .z) ?_;cases hF;exact Wz [] hfin
  ·have⟨x2,h2,hF⟩:=oE hF;refine RJ (.b (znk h2) .z) ?_;cases hF;exact Wz [] hfin

/- wal.Read -/
def wal_Read (b:B8):Option (Int×Cs×Fault):=
 if (decide (60000<(b.length:Int)))=true then
  lt (znb 8 0) fun x=>
  some (0,([]:Cs),x)
 else
  ob (zb9 b) fun x1=>
  zao (0<=w64 (1+x1)/\w64 (1+x1)<=(b.length:Int)) <|
  lt (wire_Read (zdq b (w64 (1+x1)))) fun x2=>
  ob (zb1 x2) fun x3=>
  lt (zfv x3.2) fun x4=>
  if (!x4)=true then
   lt (znb 5 (-1)) fun x5=>
   some (0,([]:Cs),x5)
  else
   zao (0<=w64 (1+x1)/\w64 (1+x1)<=(b.length:Int)) <|
   ob (zmo (zdt b (w64 (1+x1)))) fun x6=>
   if (!decide (x6.2.Code=0))=true then
    some (0,([]:Cs),x6.2)
   else
    ob (wal_Check (⟨x3.1,x6.1⟩:Note)) fun x7=>
    if (!decide (x7.Code=0))=true then
     some (0,([]:Cs),x7)
    else
     some (x3.1,x6.1,x7)
theorem wal_Read_ok {b r}(hF:wal_Read b=some r):Pe Tryz.prog 78 (.w []) [.sl 1 (b.map za8)] (.tup [.agg [.i r.1,.row 33 0],.agg (zag r.2.2)]) ⟨[],[],[(33,.z 75 5 0 (r.2.1.map zab))],[],[]⟩:=by
 refine PT 52 [.cell 2 106,.cell 3 32] [106,32] Tryz.func78 ?_;intro Q g hfin;unfold wal_Read at hF;refine LR0 ?_;refine RJ (.l za8 b .z) ?_;refine Nif hF ?_ ?_ <;> intro hb hF
 ·have⟨x,h0,hF⟩:=lS hF;refine VR [.callB (.agg (zag x))] [2,3] [2,3] [] [] [(2,.ptr 2 0),(3,.ptr 3 0)] [(2,[.i 0,.nils]),(3,(zag x))] [] [] (hc (zlr h0) .nil) ?_;cases hF;refine zb0 2 1 60000 75 5 rfl rfl rfl rfl rfl ?_;refine za9 ⟨[],[(60000,33)],[],[]⟩ rfl ?_;exact Wz [] hfin
 ·have⟨x1,h1,hF⟩:=oE hF;refine RJ (.b (zjz h1) .z) ?_;have⟨h2,hF⟩:=aE hF;have⟨x2,h3,hF⟩:=lS hF;have p4:=(Pe.ren (wire_Read_ok h3) ⟨[(5,20)],[],[],[]⟩);refine RJ (.s01 za8 h2 (.e [] [] p4 .z)) ?_;have⟨x3,h5,hF⟩:=oE hF;have p6:=(Pe.ren (zem h5) ⟨[(100000,20)],[],[],[]⟩);refine RJ (.e [20] [] p6 .z) ?_;have⟨x4,h7,hF⟩:=lS hF;refine RJ (.q [20] [] (Pe.ren (zmx h7) ⟨[(100000,20)],[],[],[]⟩) .z) ?_;refine Nif hF ?_ ?_ <;> intro hb hF
  ·have⟨x5,h8,hF⟩:=lS hF;refine VR [.callB (.agg (zag x5))] [2,3] [2,3] [] [] [(2,.ptr 2 0),(3,.ptr 3 0)] [(2,[.i 0,.nils]),(3,(zag x5))] [] [] (hc (zlr h8) .nil) ?_;cases hF;refine zb0 2 1 60001 75 5 rfl rfl rfl rfl rfl ?_;refine za9 ⟨[],[(60001,33)],[],[]⟩ rfl ?_;exact Wz [] hfin
  ·have⟨h9,hF⟩:=aE hF;have⟨x6,h10,hF⟩:=oE hF;have p11:=(Pe.ren (cell_Read_ok h10) ⟨[],[(30,33)],[],[]⟩);refine RJ (.s10 za8 h9 (.e [] [] p11 .z)) ?_;refine LR0 ?_;refine Nif hF ?_ ?_ <;> intro hb hF
   ·refine VD [] [2,3] [2,3] [] [] [(2,.ptr 2 0),(3,.ptr 3 0)] [(2,[.i 0,.nils]),(3,(zag x6.2))] [] [] .nil ?_;cases hF;refine zb0 2 1 60002 75 5 rfl rfl rfl rfl rfl ?_;refine za9 ⟨[],[(60002,33)],[],[]⟩ rfl ?_;exact Wz [] hfin
   ·refine LR0 ?_;have⟨x7,h12,hF⟩:=oE hF;refine RJ (.b (wal_Check_ok h12) .z) ?_;refine LR0 ?_;refine Nif hF ?_ ?_ <;> intro hb hF
    ·refine VD [] [2,3] [2,3] [] [] [(2,.ptr 2 0),(3,.ptr 3 0)] [(2,[.i 0,.nils]),(3,(zag x7))] [] [] .nil ?_;cases hF;refine zb0 2 1 60003 75 5 rfl rfl rfl rfl rfl ?_;refine za9 ⟨[],[(60003,33)],[],[]⟩ rfl ?_;exact Wz [] hfin
    ·refine LD0 ?_;cases hF;exact Wz [] hfin

/- wal.Notes -/
def zl1 (v:List Note×Int):Option (List Note×Int):=
 some (v.1,v.2)
def zh1 (x:B9×Int)(v1:List Note×Int×Int):Option ((List Note×Int×Int)⊕(List Note×Int)):=
 if (decide (v1.2.2<(x.1.length:Int)))=true then
  zao (0<=v1.2.2/\v1.2.2<(x.1.length:Int)) <|
  zao (0<=v1.2.2/\v1.2.2<(x.1.length:Int)) <|
  ob (wal_Read (zad x.1 v1.2.2)) fun x1=>
  zao ((decide (0<(v1.1.length:Int)))=true->(!(!decide (x1.2.2.Code=0)))=true->0<=w64 ((v1.1.length:Int) - 1)/\w64 ((v1.1.length:Int) - 1)<(v1.1.length:Int)) <|
  zao ((decide (0<(v1.1.length:Int)))=true->(!(!decide (x1.2.2.Code=0)))=true->0<=w64 ((v1.1.length:Int) - 1)/\w64 ((v1.1.length:Int) - 1)<(v1.1.length:Int)) <|
  if ((!decide (x1.2.2.Code=0))||((decide (0<(v1.1.length:Int)))&&(!decide (x1.1=(w64 (((zad v1.1 (w64 ((v1.1.length:Int) - 1))).Seq)+1))))))=true then
   zey (zl1 (v1.1,v1.2.1))
  else
   zao (((v1.1++[(⟨x1.1,x1.2.1⟩:Note)]).length:Int)*32<=140737488351232) <|
   some (Sum.inl ((v1.1++[(⟨x1.1,x1.2.1⟩:Note)]),w64 (v1.2.1+(w64 (6+((zad x.1 v1.2.2).length:Int)))),w64 (v1.2.2+1)))
 else
  zey (zl1 (v1.1,v1.2.1))
def wal_Notes_L1 (x:B9×Int)(v0:List Note×Int×Int):Option (List Note×Int):=
 zb7 (fun y=>zh1 x y) v0
def wal_Notes (d:Disk):Option (List Note×Int):=
 ob (znu d.Bytes) fun x=>
 wal_Notes_L1 x (([]:List Note),0,0)
theorem wal_Notes_ok {d r}(hF:wal_Notes d=some r):Pe Tryz.prog 50 (.w []) [.agg (c_Disk d)] (.tup [.row 53 0,.i r.2]) ⟨[],[],[(53,.z 106 2 0 (r.1.map zar))],[],[]⟩:=by
 refine PT 62 [.tmp 2,.tmp 3] [67,3] Tryz.func50 ?_;intro Q g hfin;unfold wal_Notes at hF;refine LR0 ?_;have⟨x,h0,hF⟩:=oE hF;have p1:=(Pe.ren (wire_Opened_ok h0) ⟨[],[(66,15)],[],[]⟩);refine RJ (.e [] [] p1 .z) ?_;refine LR0 ?_;refine LR0 ?_;refine VR [.nat (x.1.length:Int)] [6,7,18,19,20] [] [15] [] [(6,.nils),(7,.i 0),(18,.row 15 0),(19,.i (x.1.length:Int)),(20,.i 0)] [] [(15,.z 22 1 0 (x.1.map zal))] [] (hc (zfb zal x.1) .nil) ?_;refine NmQ (fun v=>zl1 v=some r) (fun v=>⟨[(6,.row 53 0),(7,.i v.2)],[],[(53,.z 106 2 0 (v.1.map zar))],[],[]⟩) ?_ ?_
 ·refine zdb ?_;unfold wal_Notes_L1 at hF;refine zas 6 60000 106 2 rfl rfl rfl ?_;refine zd9 (fs:=[6,7,18,19,20]) (bs:=[]) (rs:=[15,60000]) (ms:=[]) (aa:=[]) (nv:=[]) rfl ?_;refine za9 ⟨[],[(60000,53)],[],[]⟩ rfl ?_;refine Nitr hF [] (fun v1=>⟨[(6,.row 53 0),(7,.i v1.2.1),(18,.row 15 0),(19,.i (x.1.length:Int)),(20,.i v1.2.2)],[],[(15,.z 22 1 0 (x.1.map zal)),(53,.z 106 2 0 (v1.1.map zar))],[],[]⟩) ?_;intro n1 v1 y1 hF ih1 dn1;unfold zh1 at hF;refine LR0 ?_;refine Nif hF ?_ ?_ <;> intro hb hF
  ·refine zdb ?_;have⟨h2,h3,hF⟩:=zhi hF;refine RJ (.x zal h2 (.r zal h3 .z)) ?_;have⟨x1,h4,hF⟩:=oE hF;have p5:=(Pe.ren (wal_Read_ok h4) ⟨[],[(33,26)],[],[]⟩);refine RJ (.e [] [] p5 .z) ?_;have⟨h6,h7,hF⟩:=zhi hF;refine DJ (.a (.nat (v1.1.length:Int)) (.g (fun (_:(!(!decide (x1.2.2.Code=0)))=true)=>(zfb zar v1.1)) (.a (.nat (v1.1.length:Int)) (.g (fun (_:(decide (0<(v1.1.length:Int)))=true) (_:(!(!decide (x1.2.2.Code=0)))=true)=>(zfb zar v1.1)) (.g (fun (ga0:(decide (0<(v1.1.length:Int)))=true) (ga1:(!(!decide (x1.2.2.Code=0)))=true)=>(zj2 zar (h6 ga0 ga1))) (.a (.av (zar (zad v1.1 (w64 ((v1.1.length:Int) - 1))))) (.g (fun (ga0:(decide (0<(v1.1.length:Int)))=true) (ga1:(!(!decide (x1.2.2.Code=0)))=true)=>(ziv zar (h7 ga0 ga1))) .z))))))) ?_;refine Nif hF ?_ ?_ <;> intro hb hF
   ·refine zcp rfl ?_;have hF:=zak hF dn1;exact zfr (v1.1,v1.2.1) [] hF
   ·have⟨h8,hF⟩:=aE hF;refine RJ (.a (.sealed) (.p zar h8 .z)) ?_;refine RJ (.l za8 (zad x.1 v1.2.2) .z) ?_;refine LR0 ?_;exact zg1 [(53,⟨0,true,true,false⟩)] hF ih1
  ·refine zcp rfl ?_;have hF:=zak hF dn1;exact zfr (v1.1,v1.2.1) [] hF
 ·intro v hF;unfold zl1 at hF;refine LR0 ?_;cases hF;exact Wz [] hfin

/- file.fault -/
def zhu (code at0:Int):Fault:=
 (⟨code,at0⟩:Fault)
theorem zgn {code at0 r}(hF:zhu code at0=r):Pe Tryz.prog 81 S.none [.i code,.i at0] (.agg (zag r)) S.none:=by
 refine PT 8 [.cell 4 32] [32] Tryz.func81 ?_;intro Q g hfin;unfold zhu at hF;refine LR0 ?_;refine LR0 ?_;cases hF;exact Wz [] hfin

/- wire.Opened -/
def ze7 (v:B9×Int):Option (B9×Int):=
 some (v.1,v.2)
def zec (b:B8)(v1:B9×Int):Option ((B9×Int)⊕(B9×Int)):=
 if (decide (6<=(w64 ((b.length:Int) - v1.2))))=true then
  zao (0<=v1.2/\v1.2<(b.length:Int)) <|
  zao (0<=w64 (v1.2+1)/\w64 (v1.2+1)<(b.length:Int)) <|
  lt (zeh .or .i64 (w64 ((w64 ((zad b v1.2).toNat:Int))*2 ^ (min (8:Int).toNat 64))) (w64 ((zad b (w64 (v1.2+1))).toNat:Int))) fun v2=>
  if (decide ((b.length:Int)<(w64 ((w64 ((w64 (v1.2+2))+v2))+4))))=true then
   zey (ze7 (v1.1,v1.2))
  else
   zao (0<=v1.2/\v1.2<=w64 ((w64 (v1.2+2))+v2)/\w64 ((w64 (v1.2+2))+v2)<=(b.length:Int)) <|
   ob (wire_Crc (zdt (zdq b (w64 ((w64 (v1.2+2))+v2))) v1.2)) fun x=>
   zao (0<=w64 ((w64 (v1.2+2))+v2)/\w64 ((w64 (v1.2+2))+v2)<=w64 ((w64 ((w64 (v1.2+2))+v2))+4)/\w64 ((w64 ((w64 (v1.2+2))+v2))+4)<=(b.length:Int)) <|
   ob (zco (zdt (zdq b (w64 ((w64 ((w64 (v1.2+2))+v2))+4))) (w64 ((w64 (v1.2+2))+v2))) ([zfq (Int.fdiv x (2 ^ (min (24:Int).toNat 32))),zfq (Int.fdiv x (2 ^ (min (16:Int).toNat 32))),zfq (Int.fdiv x (2 ^ (min (8:Int).toNat 32))),zfq x]:B8)) fun x1=>
   if (!x1)=true then
    zey (ze7 (v1.1,v1.2))
   else
    zao (0<=w64 (v1.2+2)/\w64 (v1.2+2)<=w64 ((w64 (v1.2+2))+v2)/\w64 ((w64 (v1.2+2))+v2)<=(b.length:Int)) <|
    ob (zda (zdt (zdq b (w64 ((w64 (v1.2+2))+v2))) (w64 (v1.2+2)))) fun x2=>
    zao (((v1.1++([x2]:B9)).length:Int)*24<=140737488351232) <|
    some (Sum.inl ((v1.1++([x2]:B9)),w64 ((w64 ((w64 (v1.2+2))+v2))+4)))
 else
  zey (ze7 (v1.1,v1.2))
def zi4 (b:B8)(v0:B9×Int):Option (B9×Int):=
 zb7 (fun y=>zec b y) v0
def zha (b:B8):Option (B9×Int):=
 zi4 b (([]:B9),0)
theorem wire_Opened_v1_ok {b r}(hF:zha b=some r):Pe Tryz.prog 77 S.none [.sl 1 (b.map za8)] (.tup [.sl 1 (r.1.map zal),.i r.2]) S.none:=by
 refine PT 71 [.tmp 2,.tmp 3] [25,3] Tryz.func77 ?_;intro Q g hfin;unfold zha at hF;refine NR [] [0,2,3] [] [] [(0,.sl 1 (b.map za8)),(2,.nils),(3,.i 0)] .nil ?_;refine NmQ (fun v=>ze7 v=some r) (fun v=>⟨[(2,.row 66 0),(3,.i v.2)],[],[(66,.z 22 1 0 (v.1.map zal))],[],[]⟩) ?_ ?_
 ·refine zdb ?_;unfold zi4 at hF;refine zas 2 60000 22 1 rfl rfl rfl ?_;refine zd9 (fs:=[0,2,3]) (bs:=[]) (rs:=[60000]) (ms:=[]) (aa:=[]) (nv:=[]) rfl ?_;refine za9 ⟨[],[(60000,66)],[],[]⟩ rfl ?_;refine Nitr hF [] (fun v1=>⟨[(0,.sl 1 (b.map za8)),(2,.row 66 0),(3,.i v1.2)],[],[(66,.z 22 1 0 (v1.1.map zal))],[],[]⟩) ?_;intro n1 v1 y1 hF ih1 dn1;unfold zec at hF;refine RJ (.l za8 b .z) ?_;refine Nif hF ?_ ?_ <;> intro hb hF
  ·refine zdb ?_;have⟨h0,h1,hF⟩:=zhi hF;refine NDL (zeh .or .i64 (w64 ((w64 ((zad b v1.2).toNat:Int))*2 ^ (min (8:Int).toNat 64))) (w64 ((zad b (w64 (v1.2+1))).toNat:Int))) (fun v2:Int=>([(4,.i v2)],[],[],[])) [.av (za8 (zad b v1.2)),.av (za8 (zad b (w64 (v1.2+1))))] [0,2,3,4] [] [66] [] (hc (ze5 za8 h0) (hc (by decide:(0:Int)<=8) (hc (ze5 za8 h1) .nil))) (fun v2 hv=>?_);have hF:=zei hF hv;refine LR0 ?_;refine RJ (.l za8 b .z) ?_;refine Nif hF ?_ ?_ <;> intro hb hF
   ·refine zcp rfl ?_;have hF:=zak hF dn1;exact zfr (v1.1,v1.2) [] hF
   ·have⟨h2,hF⟩:=aE hF;have⟨x,h3,hF⟩:=oE hF;refine RJ (.s11 za8 h2 (.b (wire_Crc_ok h3) .z)) ?_;have⟨h4,hF⟩:=aE hF;have⟨x1,h5,hF⟩:=oE hF;refine RJ (.s11 za8 h4 (.g (by decide:(0:Int)<=24) (.g (by decide:(0:Int)<=16) (.g (by decide:(0:Int)<=8) (.a (.sealed) (.b (zes h5) .z)))))) ?_;refine Nif hF ?_ ?_ <;> intro hb hF
    ·refine zcp rfl ?_;have hF:=zak hF dn1;exact zfr (v1.1,v1.2) [] hF
    ·have⟨h6,hF⟩:=aE hF;have⟨x2,h7,hF⟩:=oE hF;have p8:=(Pe.ren (zg7 h7) ⟨[],[(5,64)],[],[]⟩);have⟨h9,hF⟩:=aE hF;refine RJ (.s11 za8 h6 (.e [] [] p8 (.a (.sealed) (.p zal h9 .z)))) ?_;refine LR0 ?_;exact zg1 [(66,⟨0,true,true,false⟩)] hF ih1
  ·refine zcp rfl ?_;have hF:=zak hF dn1;exact zfr (v1.1,v1.2) [] hF
 ·intro v hF;unfold ze7 at hF;refine LR0 ?_;cases hF;exact Wz [] hfin

/- wire.Read -/
def zlx (b:B8):Reader:=
 (⟨b,false⟩:Reader)
theorem wire_Read_v1_ok {b r}(hF:zlx b=r):Pe Tryz.prog 131 (.w []) [.sl 1 (b.map za8)] (.ptr 5 0) ⟨[],[(5,(zdy r))],[],[],[]⟩:=by
 refine PT 6 [.tmp 2] [213] Tryz.func131 ?_;intro Q g hfin;unfold zlx at hF;refine LR0 ?_;refine LR0 ?_;cases hF;exact Wz [] hfin

/- file.open -/
def zlu (x1:B9×Int)(v:B9×Reader):Option (Bool×opened×Fault):=
 lt (zfv v.2) fun x4=>
 if (!x4)=true then
  lt (zhu 5 1) fun x5=>
  some (false,default,x5)
 else
  some (true,(⟨(zdq x1.1 (w64 ((x1.1.length:Int) - 2))),v.1,(zad x1.1 (w64 ((w64 ((x1.1.length:Int) - 2))+1)))⟩:opened),(⟨0,0⟩:Fault))
def zds (x1:B9×Int)(v1:B9×Reader×Int):Option ((B9×Reader×Int)⊕(Bool×opened×Fault)):=
 if (decide (v1.2.2<(w64 ((x1.1.length:Int) - 2))))=true then
  ob (zb6 v1.2.1) fun x6=>
  zao (((v1.1++([x6.1]:B9)).length:Int)*16<=140737488351232) <|
  ob (zb1 x6.2) fun x7=>
  zao (0<=v1.2.2/\v1.2.2<(x1.1.length:Int)) <|
  if (!decide (x7.1=((zad x1.1 v1.2.2).length:Int)))=true then
   lt (zhu 5 1) fun x8=>
   some (Sum.inr (false,default,x8))
  else
   some (Sum.inl ((v1.1++([x6.1]:B9)),x7.2,w64 (v1.2.2+1)))
 else
  zey (zlu x1 (v1.1,v1.2.1))
def zls (x1:B9×Int)(v0:B9×Reader×Int):Option (Bool×opened×Fault):=
 zb7 (fun y=>zds x1 y) v0
def file_open (b:B8):Option (Bool×opened×Fault):=
 if (decide (60000<(b.length:Int)))=true then
  lt (zhu 8 0) fun x=>
  some (false,default,x)
 else
  ob (zha b) fun x1=>
  zao ((!((!decide (x1.2=(b.length:Int)))||(decide ((w64 ((x1.1.length:Int) - 2))<0))))=true->0<=w64 ((w64 ((x1.1.length:Int) - 2))+1)/\w64 ((w64 ((x1.1.length:Int) - 2))+1)<(x1.1.length:Int)) <|
  if (((!decide (x1.2=(b.length:Int)))||(decide ((w64 ((x1.1.length:Int) - 2))<0)))||(decide (((zad x1.1 (w64 ((w64 ((x1.1.length:Int) - 2))+1))).length:Int)=0)))=true then
   lt (zhu 5 0) fun x2=>
   some (false,default,x2)
  else
   zao (0<=w64 ((x1.1.length:Int) - 2)/\w64 ((x1.1.length:Int) - 2)<=(x1.1.length:Int)) <|
   zao (0<=w64 ((w64 ((x1.1.length:Int) - 2))+1)/\w64 ((w64 ((x1.1.length:Int) - 2))+1)<(x1.1.length:Int)) <|
   zao (0<=w64 ((x1.1.length:Int) - 2)/\w64 ((x1.1.length:Int) - 2)<(x1.1.length:Int)) <|
   lt (zlx (zad x1.1 (w64 ((x1.1.length:Int) - 2)))) fun x3=>
   zls x1 (([]:B9),x3,0)
theorem file_open_ok {b r}(hF:file_open b=some r):Pe Tryz.prog 79 S.none [.sl 1 (b.map za8)] (.tup [.popt r.1 (.rp (.agg (zl3 r.2.1))),.agg (zag r.2.2)]) S.none:=by
 refine PT 86 [.tmp 2,.cell 3 32] [154,32] Tryz.func79 ?_;intro Q g hfin;unfold file_open at hF;refine LR0 ?_;refine RJ (.l za8 b .z) ?_;refine Nif hF ?_ ?_ <;> intro hb hF
 ·have⟨x,h0,hF⟩:=lS hF;refine VR [.callB (.agg (zag x))] [2,3] [3] [] [] [(2,.nilp),(3,.ptr 3 0)] [(3,(zag x))] [] [] (hc (zgn h0) .nil) ?_;cases hF;refine Wk_coe 2 (.popt false (.rp (.agg (zl3 default)))) rfl (.cell rfl (CoeS.popF _)) ?_;exact Wz [] hfin
 ·have⟨x1,h1,hF⟩:=oE hF;refine RJ (.c (wire_Opened_v1_ok h1) .z) ?_;refine RJ (.l zal x1.1 .z) ?_;have⟨h2,hF⟩:=aE hF;refine RJ (.l za8 b (.a (.av (zal (zad x1.1 (w64 ((w64 ((x1.1.length:Int) - 2))+1))))) (.g (fun (ga0:(!((!decide (x1.2=(b.length:Int)))||(decide ((w64 ((x1.1.length:Int) - 2))<0))))=true)=>(ze5 zal (h2 ga0))) (.a (.nat ((zad x1.1 (w64 ((w64 ((x1.1.length:Int) - 2))+1))).length:Int)) (.g (fun (_:(!((!decide (x1.2=(b.length:Int)))||(decide ((w64 ((x1.1.length:Int) - 2))<0))))=true)=>(zfb za8 (zad x1.1 (w64 ((w64 ((x1.1.length:Int) - 2))+1))))) .z))))) ?_;refine Nif hF ?_ ?_ <;> intro hb hF
  ·have⟨x2,h3,hF⟩:=lS hF;refine VR [.callB (.agg (zag x2))] [2,3] [3] [] [] [(2,.nilp),(3,.ptr 3 0)] [(3,(zag x2))] [] [] (hc (zgn h3) .nil) ?_;cases hF;refine Wk_coe 2 (.popt false (.rp (.agg (zl3 default)))) rfl (.cell rfl (CoeS.popF _)) ?_;exact Wz [] hfin
  ·have⟨h4,hF⟩:=aE hF;have⟨h5,hF⟩:=aE hF;refine DJ (.s01 zal h4 (.i zal h5 .z)) ?_;have⟨h6,hF⟩:=aE hF;have⟨x3,h7,hF⟩:=lS hF;have p8:=(Pe.ren (wire_Read_v1_ok h7) ⟨[(5,54)],[],[],[]⟩);refine RJ (.i zal h6 (.e [] [] p8 .z)) ?_;refine VR [] [3,4,7,8,55,56] [3,49,54] [] [] [(3,.ptr 3 0),(4,.sl 1 (x1.1.map zal)),(7,.ptr 49 0),(8,.ptr 54 0),(55,.i (w64 ((x1.1.length:Int) - 2))),(56,.i 0)] [(3,[.i 0,.i 0]),(49,[.sl 1 ((zdq x1.1 (w64 ((x1.1.length:Int) - 2))).map zal),.nils,.sl 1 ((zad x1.1 (w64 ((w64 ((x1.1.length:Int) - 2))+1))).map za8)]),(54,(zdy x3))] [] [] .nil ?_;refine NmS (fun v=>zlu x1 v=some r) (fun Z v=>Z.up [3,7,8] [3,49,54] [67] [] [] [(49,[.sl 1 ((zdq x1.1 (w64 ((x1.1.length:Int) - 2))).map zal),.row 67 0,.sl 1 ((zad x1.1 (w64 ((w64 ((x1.1.length:Int) - 2))+1))).map za8)]),(54,(zdy v.2))] [(67,.z 9 1 0 (v.1.map zet))] []) ?_ ?_
   ·refine zdb ?_;unfold zls at hF;refine zb0 49 1 60000 9 1 rfl rfl rfl rfl rfl ?_;refine zd9 (fs:=[3,4,7,8,55,56]) (bs:=[3,49,54]) (rs:=[60000]) (ms:=[]) (aa:=[]) (nv:=[]) rfl ?_;refine za9 ⟨[],[(60000,67)],[],[]⟩ rfl ?_;refine Nitr hF [] (fun v1=>⟨[(3,.ptr 3 0),(4,.sl 1 (x1.1.map zal)),(7,.ptr 49 0),(8,.ptr 54 0),(55,.i (w64 ((x1.1.length:Int) - 2))),(56,.i v1.2.2)],[(3,[.i 0,.i 0]),(49,[.sl 1 ((zdq x1.1 (w64 ((x1.1.length:Int) - 2))).map zal),.row 67 0,.sl 1 ((zad x1.1 (w64 ((w64 ((x1.1.length:Int) - 2))+1))).map za8)]),(54,(zdy v1.2.1))],[(67,.z 9 1 0 (v1.1.map zet))],[],[]⟩) ?_;intro n1 v1 y1 hF ih1 dn1;unfold zds at hF;refine LR0 ?_;refine Nif hF ?_ ?_ <;> intro hb hF
    ·refine zdb ?_;refine LR0 ?_;have⟨x6,h11,hF⟩:=oE hF;have p12:=(Pe.ren (zfi h11) ⟨[(100000,54)],[],[],[]⟩);have⟨h13,hF⟩:=aE hF;refine DJ (.e [54] [] p12 (.a (.sealed) (.p zet h13 .z))) ?_;have⟨x7,h14,hF⟩:=oE hF;have p15:=(Pe.ren (zem h14) ⟨[(100000,54)],[],[],[]⟩);have⟨h16,hF⟩:=aE hF;refine DJ (.e [54] [] p15 (.i zal h16 (.l za8 (zad x1.1 v1.2.2) .z))) ?_;refine Nif hF ?_ ?_ <;> intro hb hF
     ·have⟨x8,h17,hF⟩:=lS hF;refine VR [.callB (.agg (zag x8))] [2,3] [3] [] [] [(2,.nilp),(3,.ptr 3 0)] [(3,(zag x8))] [] [] (hc (zgn h17) .nil) ?_;have hF:=zde hF dn1;cases hF;refine Wk_coe 2 (.popt false (.rp (.agg (zl3 default)))) rfl (.cell rfl (CoeS.popF _)) ?_;exact Wz [] hfin
     ·refine LR0 ?_;exact zg1 [(67,⟨0,true,true,false⟩)] hF ih1
    ·refine zcp rfl ?_;have hF:=zak hF dn1;exact zfr (v1.1,v1.2.1) [] hF
   ·intro v hF;unfold zlu at hF;have⟨x4,h9,hF⟩:=lS hF;refine RJ (.q [54] [] (Pe.ren (zmx h9) ⟨[(100000,54)],[],[],[]⟩) .z) ?_;refine Nif hF ?_ ?_ <;> intro hb hF
    ·have⟨x5,h10,hF⟩:=lS hF;refine VR [.callB (.agg (zag x5))] [2,3] [3] [] [] [(2,.nilp),(3,.ptr 3 0)] [(3,(zag x5))] [] [] (hc (zgn h10) .nil) ?_;cases hF;refine Wk_coe 2 (.popt false (.rp (.agg (zl3 default)))) rfl (.cell rfl (CoeS.popF _)) ?_;exact Wz [] hfin
    ·refine VR [] [2,3] [3,49] [67] [] [(2,.ptr 49 0),(3,.ptr 3 0)] [(3,[.i 0,.i 0]),(49,[.sl 1 ((zdq x1.1 (w64 ((x1.1.length:Int) - 2))).map zal),.row 67 0,.sl 1 ((zad x1.1 (w64 ((w64 ((x1.1.length:Int) - 2))+1))).map za8)])] [(67,.z 9 1 0 (v.1.map zet))] [] .nil ?_;refine Wk_sealBX [] 49 rfl rfl ?_;refine Wk_rpBx 2 49 [3] [3] [] [] rfl rfl rfl rfl rfl rfl rfl (by kernel_rfl) rfl ?_;cases hF;refine Wk_coe 2 (.popt true (.rp (.agg [.sl 1 ((zdq x1.1 (w64 ((x1.1.length:Int) - 2))).map zal),.sl 1 (v.1.map zet),.sl 1 ((zad x1.1 (w64 ((w64 ((x1.1.length:Int) - 2))+1))).map za8)]))) rfl (.cell rfl (CoeS.popT _)) ?_;exact Wz [] hfin

/- (*file.opened).cells -/
def zew (v:Cs):Option (Cs×Bool):=
 ob (zi6 v) fun x=>
 some (v,decide (x.Code=0))
def zd6 (to0:Int)(v1:opened×Cs×Int):Option ((opened×Cs×Int)⊕(Cs×Bool)):=
 if (decide (v1.2.2<to0))=true then
  zao (0<=v1.2.2/\v1.2.2<(v1.1.bodies.length:Int)) <|
  ob (zmo (zad v1.1.bodies v1.2.2)) fun x1=>
  zao ((!((!decide (x1.2.Code=0))||(decide ((x1.1.length:Int)=0))))=true->0<=(0:Int)/\0<(x1.1.length:Int)) <|
  zao ((!((!decide (x1.2.Code=0))||(decide ((x1.1.length:Int)=0))))=true->0<=(0:Int)/\0<(x1.1.length:Int)) <|
  zao ((!((!decide (x1.2.Code=0))||(decide ((x1.1.length:Int)=0))))=true->0<=v1.2.2/\v1.2.2<(v1.1.rows.length:Int)) <|
  if (((!decide (x1.2.Code=0))||(decide ((x1.1.length:Int)=0)))||(!decide (((zad x1.1 0).Row)=(zad v1.1.rows v1.2.2))))=true then
   some (Sum.inr (([]:Cs),false))
  else
   zao (((v1.2.1++x1.1).length:Int)*64<=140737488351232) <|
   some (Sum.inl (v1.1,(v1.2.1++x1.1),w64 (v1.2.2+1)))
 else
  zey (zew v1.2.1)
def zg0 (to0:Int)(v0:opened×Cs×Int):Option (Cs×Bool):=
 zb7 (fun y=>zd6 to0 y) v0
def zgs (o o1:B9)(o2:B8)(from0 to0:Int):Option (Cs×Bool):=
 zg0 to0 ((⟨o,o1,o2⟩:opened),([]:Cs),from0)
theorem file_opened_cells_ok {o o1 o2 from0 to0 r}(hF:zgs o o1 o2 from0 to0=some r):Pe Tryz.prog 80 (.w []) [.rp (.agg [.sl 1 (o.map zal),.sl 1 (o1.map zet),.sl 1 (o2.map za8)]),.i from0,.i to0] (.tup [.row 53 0,.bool r.2]) ⟨[],[],[(53,.z 75 5 0 (r.1.map zab))],[],[]⟩:=by
 refine PT 59 [.tmp 6,.tmp 7] [68,4] Tryz.func80 ?_;intro Q g hfin;unfold zgs at hF;refine LR0 ?_;refine LR0 ?_;refine NR [] [0,2,8,9] [] [] [(0,.rp (.agg [.sl 1 (o.map zal),.sl 1 (o1.map zet),.sl 1 (o2.map za8)])),(2,.i to0),(8,.nils),(9,.i from0)] .nil ?_;refine NmQ (fun v=>zew v=some r) (fun v=>⟨[(8,.row 53 0)],[],[(53,.z 75 5 0 (v.map zab))],[],[]⟩) ?_ ?_
 ·refine zdb ?_;unfold zg0 at hF;refine zas 8 60000 75 5 rfl rfl rfl ?_;refine zd9 (fs:=[0,2,8,9]) (bs:=[]) (rs:=[60000]) (ms:=[]) (aa:=[]) (nv:=[]) rfl ?_;refine za9 ⟨[],[(60000,53)],[],[]⟩ rfl ?_;refine Nitr hF [] (fun v1=>⟨[(0,.rp (.agg (zl3 v1.1))),(2,.i to0),(8,.row 53 0),(9,.i v1.2.2)],[],[(53,.z 75 5 0 (v1.2.1.map zab))],[],[]⟩) ?_;intro n1 v1 y1 hF ih1 dn1;unfold zd6 at hF;refine LR0 ?_;refine Nif hF ?_ ?_ <;> intro hb hF
  ·refine zdb ?_;have⟨h1,hF⟩:=aE hF;have⟨x1,h2,hF⟩:=oE hF;have p3:=(Pe.ren (cell_Read_ok h2) ⟨[],[(30,26)],[],[]⟩);refine RJ (.i zal h1 (.e [] [] p3 .z)) ?_;have⟨h4,h5,hF⟩:=zhi hF;have⟨h6,hF⟩:=aE hF;refine DJ (.a (.nat (x1.1.length:Int)) (.g (fun (_:(!(!decide (x1.2.Code=0)))=true)=>(zfb zab x1.1)) (.g (fun (ga0:(!((!decide (x1.2.Code=0))||(decide ((x1.1.length:Int)=0))))=true)=>(zj2 zab (h4 ga0))) (.a (.av (zab (zad x1.1 0))) (.g (fun (ga0:(!((!decide (x1.2.Code=0))||(decide ((x1.1.length:Int)=0))))=true)=>(ziv zab (h5 ga0))) (.a (.av (zet (zad v1.1.rows v1.2.2))) (.g (fun (ga0:(!((!decide (x1.2.Code=0))||(decide ((x1.1.length:Int)=0))))=true)=>(ze5 zet (h6 ga0))) .z))))))) ?_;refine Nif hF ?_ ?_ <;> intro hb hF
   ·refine NR [] [6,7] [] [] [(6,.nils),(7,.bool false)] .nil ?_;have hF:=zde hF dn1;cases hF;refine zas 6 60001 75 5 rfl rfl rfl ?_;refine za9 ⟨[],[(60001,53)],[],[]⟩ rfl ?_;exact Wz [] hfin
   ·have⟨h7,hF⟩:=aE hF;refine RJ (.p zab h7 .z) ?_;refine LR0 ?_;exact zg1 [(53,⟨0,true,true,false⟩)] hF ih1
  ·refine zcp rfl ?_;have hF:=zak hF dn1;exact zfr v1.2.1 [] hF
 ·intro v hF;unfold zew at hF;have⟨x,h0,hF⟩:=oE hF;refine RJ (.b (znk h0) .z) ?_;cases hF;exact Wz [] hfin

/- file.spots -/
def zj9 (v:Arr3_3×Arr3_3):Option Arr3_3:=
 some v.2
def zmz (row:B8)(bits:Int):Option Arr3_3:=
 zao ((row.length:Int)<=140737488351232) <|
 ob (wire_Crc row) fun x=>
 zao (bits≠0) <|
 lt (Int.tmod (w64 ((Int.tmod (w64 x) 65536)+(w64 (0*(w64 (Int.tdiv (w64 x) 65536)))))) bits) fun v1=>
 zao (bits≠0) <|
 lt (Int.tmod (w64 ((Int.tmod (w64 x) 65536)+(w64 (1*(w64 (Int.tdiv (w64 x) 65536)))))) bits) fun v2=>
 zao (bits≠0) <|
 lt (Int.tmod (w64 ((Int.tmod (w64 x) 65536)+(w64 (2*(w64 (Int.tdiv (w64 x) 65536)))))) bits) fun v3=>
 zj9 ((⟨0,0,0⟩:Arr3_3),(⟨v1,v2,v3⟩:Arr3_3))
theorem file_spots_ok {row bits r}(hF:zmz row bits=some r):Pe Tryz.prog 138 S.none [.str row,.i bits] (.agg (c_Arr3_3 r)) S.none:=by
 refine PT 28 [.cell 4 217] [217] Tryz.func138 ?_;intro Q g hfin;unfold zmz at hF;refine LR0 ?_;have⟨h0,hF⟩:=aE hF;have⟨x,h1,hF⟩:=oE hF;refine RJ (.g (bof_ok h0) (.b (wire_Crc_ok h1) .z)) ?_;refine LR0 ?_;refine LR0 ?_;refine NmS (fun v=>zj9 v=some r) (fun Z v=>Z.up [4,6] [4,6] [] [] [] [(4,(c_Arr3_3 v.1)),(6,(c_Arr3_3 v.2))] [] []) ?_ ?_
 ·refine zdb ?_;refine Wk_unroll 9 ?_;refine Nagain ?_;refine LR0 ?_;refine Ntrue (by kernel_rfl) ?_;refine zdb ?_;refine LR0 ?_;have⟨h2,hF⟩:=aE hF;refine NRL (Int.tmod (w64 ((Int.tmod (w64 x) 65536)+(w64 (0*(w64 (Int.tdiv (w64 x) 65536)))))) bits) (fun v1:Int=>([],[(6,[.i v1,.i 0,.i 0])],[],[])) [] [1,4,5,6,12] [4,6] [] [] (hc (by decide:(65536:Int)≠0) (hc (by decide:(65536:Int)≠0) (hc h2 (hc (⟨by decide,by decide⟩:(0:Int)<=0/\(0:Int)<((3:Nat):Int)) .nil)))) (fun v1 hv=>?_);have hF:=zei hF hv;refine LR0 ?_;refine Nagain ?_;refine LR0 ?_;refine Ntrue (by kernel_rfl) ?_;refine zdb ?_;refine LR0 ?_;have⟨h3,hF⟩:=aE hF;refine NRL (Int.tmod (w64 ((Int.tmod (w64 x) 65536)+(w64 (1*(w64 (Int.tdiv (w64 x) 65536)))))) bits) (fun v2:Int=>([],[(6,[.i v1,.i v2,.i 0])],[],[])) [] [1,4,5,6,12] [4,6] [] [] (hc (by decide:(65536:Int)≠0) (hc (by decide:(65536:Int)≠0) (hc h3 (hc (⟨by decide,by decide⟩:(0:Int)<=1/\(1:Int)<((3:Nat):Int)) .nil)))) (fun v2 hv=>?_);have hF:=zei hF hv;refine LR0 ?_;refine Nagain ?_;refine LR0 ?_;refine Ntrue (by kernel_rfl) ?_;refine zdb ?_;refine LR0 ?_;have⟨h4,hF⟩:=aE hF;refine NRL (Int.tmod (w64 ((Int.tmod (w64 x) 65536)+(w64 (2*(w64 (Int.tdiv (w64 x) 65536)))))) bits) (fun v3:Int=>([],[(6,[.i v1,.i v2,.i v3])],[],[])) [] [1,4,5,6,12] [4,6] [] [] (hc (by decide:(65536:Int)≠0) (hc (by decide:(65536:Int)≠0) (hc h4 (hc (⟨by decide,by decide⟩:(0:Int)<=2/\(2:Int)<((3:Nat):Int)) .nil)))) (fun v3 hv=>?_);have hF:=zei hF hv;refine LR0 ?_;refine Nagain ?_;refine LR0 ?_;refine Nfalse (by kernel_rfl) ?_;refine zcp rfl ?_;exact zfr ((⟨0,0,0⟩:Arr3_3),(⟨v1,v2,v3⟩:Arr3_3)) [] hF
 ·intro v hF;unfold zj9 at hF;refine LR0 ?_;cases hF;exact Wz [] hfin

/- file.filter -/
def zmd (v1:B8):Option B8:=
 some v1
def zja (v2:B8×Int)(v3:B8):Option ((B8×Int)⊕B8):=
 some (Sum.inl (v3,w64 (v2.2+1)))
def zeb (l:Cs)(v2:B8×Int):Option ((B8×Int)⊕B8):=
 if (decide (v2.2<(l.length:Int)))=true then
  zao (0<=v2.2/\v2.2<(l.length:Int)) <|
  ob (zmz ((zad l v2.2).Row) (w64 (8*(v2.1.length:Int)))) fun x=>
  zao (0<=w64 (Int.tdiv x.p0 8)/\w64 (Int.tdiv x.p0 8)<(v2.1.length:Int)) <|
  zao (0<=w64 (Int.tdiv x.p0 8)/\w64 (Int.tdiv x.p0 8)<(v2.1.length:Int)) <|
  zao (0<=(Int.tmod x.p0 8)) <|
  zao (0<=w64 (Int.tdiv x.p0 8)/\w64 (Int.tdiv x.p0 8)<(v2.1.length:Int)) <|
  zao (0<=w64 (Int.tdiv x.p0 8)/\w64 (Int.tdiv x.p0 8)<(v2.1.length:Int)) <|
  lt ((zmc v2.1 (w64 (Int.tdiv x.p0 8)) (zfq (((BitVec.ofInt 8 ((zad v2.1 (w64 (Int.tdiv x.p0 8))).toNat:Int) ||| BitVec.ofInt 8 ((zfq (((1:UInt8).toNat:Int)*2 ^ (min (Int.tmod x.p0 8).toNat 8))).toNat:Int)).toNat:Int))))) fun v4=>
  zao (0<=w64 (Int.tdiv x.p1 8)/\w64 (Int.tdiv x.p1 8)<(v4.length:Int)) <|
  zao (0<=w64 (Int.tdiv x.p1 8)/\w64 (Int.tdiv x.p1 8)<(v4.length:Int)) <|
  zao (0<=(Int.tmod x.p1 8)) <|
  zao (0<=w64 (Int.tdiv x.p1 8)/\w64 (Int.tdiv x.p1 8)<(v4.length:Int)) <|
  zao (0<=w64 (Int.tdiv x.p1 8)/\w64 (Int.tdiv x.p1 8)<(v4.length:Int)) <|
  lt ((zmc v4 (w64 (Int.tdiv x.p1 8)) (zfq (((BitVec.ofInt 8 ((zad v4 (w64 (Int.tdiv x.p1 8))).toNat:Int) ||| BitVec.ofInt 8 ((zfq (((1:UInt8).toNat:Int)*2 ^ (min (Int.tmod x.p1 8).toNat 8))).toNat:Int)).toNat:Int))))) fun v5=>
  zao (0<=w64 (Int.tdiv x.p2 8)/\w64 (Int.tdiv x.p2 8)<(v5.length:Int)) <|
  zao (0<=w64 (Int.tdiv x.p2 8)/\w64 (Int.tdiv x.p2 8)<(v5.length:Int)) <|
  zao (0<=(Int.tmod x.p2 8)) <|
  zao (0<=w64 (Int.tdiv x.p2 8)/\w64 (Int.tdiv x.p2 8)<(v5.length:Int)) <|
  zao (0<=w64 (Int.tdiv x.p2 8)/\w64 (Int.tdiv x.p2 8)<(v5.length:Int)) <|
  lt ((zmc v5 (w64 (Int.tdiv x.p2 8)) (zfq (((BitVec.ofInt 8 ((zad v5 (w64 (Int.tdiv x.p2 8))).toNat:Int) ||| BitVec.ofInt 8 ((zfq (((1:UInt8).toNat:Int)*2 ^ (min (Int.tmod x.p2 8).toNat 8))).toNat:Int)).toNat:Int))))) fun v6=>
  zja v2 v6
 else
  zey (zmd v2.1)
def zml (l:Cs)(v0:B8×Int):Option B8:=
 zb7 (fun y=>zeb l y) v0
def zg4 (l:Cs)(v:Int):Option B8:=
 zao (0<=((max 1 v):Int)/\(max 1 v)<=(max 1 v)/\(max 1 v)*1<=140737488351232) <|
 zml l ((List.replicate (max 1 v).toNat ((0:UInt8):UInt8)),0)
def zer (l:Cs)(v7:Int×Int):Option ((Int×Int)⊕B8):=
 if (decide (v7.2<(l.length:Int)))=true then
  zao (0<=v7.2/\v7.2<(l.length:Int)) <|
  zao ((!(decide (v7.2=0)))=true->0<=w64 (v7.2 - 1)/\w64 (v7.2 - 1)<(l.length:Int)) <|
  ob (
   if ((decide (v7.2=0))||(!decide (((zad l v7.2).Row)=((zad l (w64 (v7.2 - 1))).Row))))=true then
    some (w64 (v7.1+1))
   else
    some v7.1) fun v8=>
  some (Sum.inl (v8,w64 (v7.2+1)))
 else
  zey (zg4 l v7.1)
def zmm (l:Cs)(v0:Int×Int):Option B8:=
 zb7 (fun y=>zer l y) v0
def zi2 (l:Cs):Option B8:=
 zmm l (0,0)
theorem file_filter_ok {l r}(hF:zi2 l=some r):Pe Tryz.prog 83 (.w []) [.sl 5 (l.map zab)] (.row 36 0) ⟨[],[],[(36,.o 5 1 0 (r.map za8))],[],[]⟩:=by
 refine PT 65 [.tmp 2] [22] Tryz.func83 ?_;intro Q g hfin;unfold zi2 at hF;refine LR0 ?_;refine LR0 ?_;refine RJ (.l zab l .z) ?_;refine NmS (fun v=>zg4 l v=some r) (fun Z v=>Z.up [0,3] [] [] [] [(3,.i v)] [] [] []) ?_ ?_
 ·refine zdb ?_;unfold zmm at hF;refine znj hF [] (fun Z v7=>Z.up [0,3,11,12,13] [] [] [] [(3,.i v7.1),(13,.i v7.2)] [] [] []) ?_;intro n1 v7 y1 hF ih1 dn1;unfold zer at hF;refine LR0 ?_;refine Nif hF ?_ ?_ <;> intro hb hF
  ·refine zdb ?_;have⟨h18,hF⟩:=aE hF;refine RJ (.i zab h18 .z) ?_;have⟨h19,hF⟩:=aE hF;refine DJ (.a (.av (zab (zad l (w64 (v7.2 - 1))))) (.g (fun (ga0:(!(decide (v7.2=0)))=true)=>(ze5 zab (h19 ga0))) .z)) ?_;have⟨v8,hv,hF⟩:=oE hF;refine NmT (fun Z=>Z.up [0,3,11,12,13] [] [] [] [(3,.i v8)] [] [] []) ?_ ?_
   ·have hF:=hv;refine Nif hF ?_ ?_ <;> intro hb hF
    ·refine LR0 ?_;cases hF;exact zmf []
    ·cases hF;exact zmf []
   ·refine LR0 ?_;exact zg1 [] hF ih1
  ·refine zcp rfl ?_;have hF:=zak hF dn1;exact zfr v7.1 [] hF
 ·intro v hF;unfold zg4 at hF;have⟨h0,hF⟩:=aE hF;refine RJ (.a (.xs ((List.replicate (max 1 v).toNat ((0:UInt8):UInt8)).map za8)) (.g (mk_ok h0) (.g (rep_ok za8 (max 1 v) ((0:UInt8):UInt8)) .z))) ?_;refine RJ (.l zab l .z) ?_;refine NmS (fun v1=>zmd v1=some r) (fun Z v1=>Z.up [6] [] [36] [] [] [] [(36,.o 5 1 0 (v1.map za8))] []) ?_ ?_
  ·refine zdb ?_;unfold zml at hF;refine znj hF [] (fun Z v2=>Z.up [6,37,38,39] [] [36] [] [(39,.i v2.2)] [] [(36,.o 5 1 0 (v2.1.map za8))] []) ?_;intro n1 v2 y1 hF ih1 dn1;unfold zeb at hF;refine LR0 ?_;refine Nif hF ?_ ?_ <;> intro hb hF
   ·refine zdb ?_;have⟨h1,hF⟩:=aE hF;refine RJ (.i zab h1 .z) ?_;have⟨x,h2,hF⟩:=oE hF;refine RJ (.l za8 v2.1 (.b (file_spots_ok h2) .z)) ?_;refine NmS (fun v3=>zja v2 v3=some y1) (fun Z v3=>Z.up [6,37,38,39] [] [36] [] [] [] [(36,.o 5 1 0 (v3.map za8))] []) ?_ ?_
    ·refine zdb ?_;refine Wk_unroll 9 ?_;refine Nagain ?_;refine LR0 ?_;refine Ntrue (by kernel_rfl) ?_;refine zdb ?_;refine RJ (.g (⟨by decide,by decide⟩:(0:Int)<=0/\(0:Int)<((3:Nat):Int)) .z) ?_;have⟨h3,h4,h5,h6,hF⟩:=zj1 hF;have⟨h7,hF⟩:=aE hF;have⟨v4,hv,hF⟩:=lS hF;refine DJ (.g (by decide:(8:Int)≠0) (.x za8 h3 (.r za8 h4 (.g (by decide:(8:Int)≠0) (.g h5 (.x za8 h6 (.wN za8 h7 hv .z))))))) ?_;refine LR0 ?_;refine Nagain ?_;refine LR0 ?_;refine Ntrue (by kernel_rfl) ?_;refine zdb ?_;refine RJ (.g (⟨by decide,by decide⟩:(0:Int)<=1/\(1:Int)<((3:Nat):Int)) .z) ?_;have⟨h8,h9,h10,h11,hF⟩:=zj1 hF;have⟨h12,hF⟩:=aE hF;have⟨v5,hv,hF⟩:=lS hF;refine DJ (.g (by decide:(8:Int)≠0) (.x za8 h8 (.r za8 h9 (.g (by decide:(8:Int)≠0) (.g h10 (.x za8 h11 (.wN za8 h12 hv .z))))))) ?_;refine LR0 ?_;refine Nagain ?_;refine LR0 ?_;refine Ntrue (by kernel_rfl) ?_;refine zdb ?_;refine RJ (.g (⟨by decide,by decide⟩:(0:Int)<=2/\(2:Int)<((3:Nat):Int)) .z) ?_;have⟨h13,h14,h15,h16,hF⟩:=zj1 hF;have⟨h17,hF⟩:=aE hF;have⟨v6,hv,hF⟩:=lS hF;refine DJ (.g (by decide:(8:Int)≠0) (.x za8 h13 (.r za8 h14 (.g (by decide:(8:Int)≠0) (.g h15 (.x za8 h16 (.wN za8 h17 hv .z))))))) ?_;refine LR0 ?_;refine Nagain ?_;refine LR0 ?_;refine Nfalse (by kernel_rfl) ?_;refine zcp rfl ?_;exact zfr v6 [] hF
    ·intro v3 hF;unfold zja at hF;refine LR0 ?_;exact zg1 [] hF ih1
   ·refine zcp rfl ?_;have hF:=zak hF dn1;exact zfr v2.1 [] hF
  ·intro v1 hF;unfold zmd at hF;refine LR0 ?_;cases hF;exact Wz [] hfin

/- file.Open -/
def file_Open (b:B8):Option (Cs×Fault):=
 ob (file_open b) fun x=>
 if (!decide (x.2.2.Code=0))=true then
  some (([]:Cs),x.2.2)
 else
  zao (x.1=true) <|
  ob (zgs x.2.1.bodies x.2.1.rows x.2.1.filter 0 (x.2.1.bodies.length:Int)) fun x1=>
  if ((!x1.2)||(decide (500<(x1.1.length:Int))))=true then
   lt (zhu 5 2) fun x2=>
   some (([]:Cs),x2)
  else
   ob (zi2 x1.1) fun x3=>
   ob (zco x3 x.2.1.filter) fun x4=>
   if (!x4)=true then
    lt (zhu 5 3) fun x5=>
    some (([]:Cs),x5)
   else
    some (x1.1,x.2.2)
theorem file_Open_ok {b r}(hF:file_Open b=some r):Pe Tryz.prog 51 (.w []) [.sl 1 (b.map za8)] (.tup [.row 24 0,.agg (zag r.2)]) ⟨[],[],[(24,⟨75,5,0,(r.1.map zab).length,0,true,0,[],(r.1.map zab)⟩)],[],[]⟩:=by
 refine PT 46 [.tmp 2,.cell 3 32] [68,32] Tryz.func51 ?_;intro Q g hfin;unfold file_Open at hF;refine LR0 ?_;have⟨x,h0,hF⟩:=oE hF;refine RJ (.c (file_open_ok h0) .z) ?_;refine VR [] [3,4,5,15] [3,5] [] [] [(3,.ptr 3 0),(4,.popt x.1 (.rp (.agg (zl3 x.2.1)))),(5,.ptr 5 0),(15,.bool (!decide (x.2.2.Code=0)))] [(3,[.i 0,.i 0]),(5,(zag x.2.2))] [] [] .nil ?_;refine Nif hF ?_ ?_ <;> intro hb hF
 ·refine VD [] [2,3] [3] [] [] [(2,.nils),(3,.ptr 3 0)] [(3,(zag x.2.2))] [] [] .nil ?_;cases hF;refine zas 2 60000 75 5 rfl rfl rfl ?_;refine za9 ⟨[],[(60000,24)],[],[]⟩ rfl ?_;exact Wz [(24,⟨0,true,true,true⟩)] hfin
 ·have⟨h1,hF⟩:=aE hF;refine Wk_coe 4 (.rp (.agg (zl3 x.2.1))) rfl (.cell rfl (CoeS.unp h1)) ?_;have⟨x1,h2,hF⟩:=oE hF;have p3:=(Pe.ren (file_opened_cells_ok h2) ⟨[],[(53,24)],[],[]⟩);refine RJ (.l zal x.2.1.bodies (.e [] [] p3 .z)) ?_;refine RJ (.a (.nat (x1.1.length:Int)) (.g (fun (_:(!(!x1.2))=true)=>(zfb zab x1.1)) .z)) ?_;refine Nif hF ?_ ?_ <;> intro hb hF
  ·have⟨x2,h4,hF⟩:=lS hF;refine VR [.callB (.agg (zag x2))] [2,3] [3] [] [] [(2,.nils),(3,.ptr 3 0)] [(3,(zag x2))] [] [] (hc (zgn h4) .nil) ?_;cases hF;refine zas 2 60001 75 5 rfl rfl rfl ?_;refine za9 ⟨[],[(60001,24)],[],[]⟩ rfl ?_;exact Wz [(24,⟨0,true,true,true⟩)] hfin
  ·have⟨x3,h5,hF⟩:=oE hF;have p6:=(Pe.ren (file_filter_ok h5) ⟨[],[],[],[]⟩);have⟨x4,h7,hF⟩:=oE hF;refine DJ (.e [] [] p6 (.b (zes h7) .z)) ?_;refine Nif hF ?_ ?_ <;> intro hb hF
   ·have⟨x5,h8,hF⟩:=lS hF;refine VR [.callB (.agg (zag x5))] [2,3] [3] [] [] [(2,.nils),(3,.ptr 3 0)] [(3,(zag x5))] [] [] (hc (zgn h8) .nil) ?_;cases hF;refine zas 2 60002 75 5 rfl rfl rfl ?_;refine za9 ⟨[],[(60002,24)],[],[]⟩ rfl ?_;exact Wz [(24,⟨0,true,true,true⟩)] hfin
   ·refine LD0 ?_;cases hF;exact Wz [] hfin

/- (*tablet.tab).fill$1 -/
def zgq (num:Note)(box:B8)(box1:Int)(box2:B9)(box3 box4 box5:Int)(row:List Note)(row1:List Cs):Bool:=
 decide (box3<num.Seq)
theorem tablet_tab_fill_1_ok (rk rc:Nat)(rn:Bool)(rk1 rc1:Nat)(rn1:Bool){num box box1 box2 box3 box4 box5 row row1 r}(hF:zgq num box box1 box2 box3 box4 box5 row row1=r):Pe Tryz.prog 85 ⟨[],[(100000,[.ptr 100001 0]),(100001,[.sl 1 (box.map za8),.i box1,.sl 1 (box2.map zal),.i box3,.i box4,.row 100000 0,.i box5,.nils,.row 100001 0])],[(100000,.q 106 2 0 rk rc rn (row.map zar)),(100001,.q 68 1 0 rk1 rc1 rn1 (row1.map za1))],[],[]⟩ [.agg (c_Note num),.ptr 100000 0] (.bool r) ⟨[],[(100000,[.ptr 100001 0]),(100001,[.sl 1 (box.map za8),.i box1,.sl 1 (box2.map zal),.i box3,.i box4,.row 100000 0,.i box5,.nils,.row 100001 0])],[(100000,.q 106 2 0 rk rc rn (row.map zar)),(100001,.q 68 1 0 rk1 rc1 rn1 (row1.map za1))],[],[]⟩:=by
 refine PT 12 [.tmp 3] [4] Tryz.func85 ?_;intro Q g hfin;unfold zgq at hF;refine LR0 ?_;refine LD0 ?_;cases hF;exact Wz [] hfin

/- slices.IndexFunc[[]api.Note,api.Note] -/
def zcy (v:Unit):Option Int:=
 some (-1)
def zbe (box:B8)(box1:Int)(box2:B9)(box3 box4 box5:Int)(row:List Note)(row1:List Cs)(v1:Int):Option (Int⊕Int):=
 if (decide (v1<(row.length:Int)))=true then
  zao (0<=v1/\v1<(row.length:Int)) <|
  zao (0<=v1/\v1<(row.length:Int)) <|
  lt (zgq (⟨(zad row v1).Seq,(zad row v1).Cells⟩:Note) box box1 box2 box3 box4 box5 row row1) fun x=>
  if x=true then
   some (Sum.inr v1)
  else
   some (Sum.inl (w64 (v1+1)))
 else
  zey (zcy ())
def zc5 (box:B8)(box1:Int)(box2:B9)(box3 box4 box5:Int)(row:List Note)(row1:List Cs)(v0:Int):Option Int:=
 zb7 (fun y=>zbe box box1 box2 box3 box4 box5 row row1 y) v0
def zcj (box:B8)(box1:Int)(box2:B9)(box3 box4 box5:Int)(row:List Note)(row1:List Cs):Option Int:=
 zc5 box box1 box2 box3 box4 box5 row row1 0
theorem zgz (rk rc:Nat)(rn:Bool)(rk1 rc1:Nat)(rn1:Bool){box box1 box2 box3 box4 box5 row row1 r}(hF:zcj box box1 box2 box3 box4 box5 row row1=some r):Pe Tryz.prog 84 ⟨[],[(100000,[.ptr 100001 0]),(100001,[.sl 1 (box.map za8),.i box1,.sl 1 (box2.map zal),.i box3,.i box4,.row 100000 0,.i box5,.nils,.row 100001 0])],[(100000,.q 106 2 0 rk rc rn (row.map zar)),(100001,.q 68 1 0 rk1 rc1 rn1 (row1.map za1))],[],[]⟩ [.row 100000 0,.fn 85 [.ptr 100000 0]] (.i r) ⟨[],[(100000,[.ptr 100001 0]),(100001,[.sl 1 (box.map za8),.i box1,.sl 1 (box2.map zal),.i box3,.i box4,.row 100000 0,.i box5,.nils,.row 100001 0])],[(100000,.q 106 2 0 rk rc rn (row.map zar)),(100001,.q 68 1 0 rk1 rc1 rn1 (row1.map za1))],[],[]⟩:=by
 refine PT 19 [.tmp 4] [3] Tryz.func84 ?_;intro Q g hfin;unfold zcj at hF;refine LR0 ?_;refine RJ (.l zar row .z) ?_;refine NmS (fun v=>zcy v=some r) (fun Z v=>Z.up [] [100000,100001] [100000,100001] [] [] [] [] []) ?_ ?_
 ·refine zdb ?_;unfold zc5 at hF;refine znj hF [] (fun Z v1=>Z.up [0,1,7,8] [100000,100001] [100000,100001] [] [(8,.i v1)] [] [] []) ?_;intro n1 v1 y1 hF ih1 dn1;unfold zbe at hF;refine LR0 ?_;refine Nif hF ?_ ?_ <;> intro hb hF
  ·refine zdb ?_;refine LR0 ?_;have⟨h0,h1,hF⟩:=zhi hF;have⟨x,h2,hF⟩:=lS hF;refine RJ (.x zar h0 (.r zar h1 (.q [100000,100001] [100000,100001] (Pe.ren (tablet_tab_fill_1_ok rk rc rn rk1 rc1 rn1 h2) ⟨[],[],[],[]⟩) .z))) ?_;refine Nif hF ?_ ?_ <;> intro hb hF
   ·refine LR0 ?_;have hF:=zde hF dn1;cases hF;exact Wz [] hfin
   ·refine LR0 ?_;exact zg1 [] hF ih1
  ·refine zcp rfl ?_;have hF:=zak hF dn1;exact zfr () [] hF
 ·intro v hF;unfold zcy at hF;refine LR0 ?_;cases hF;exact Wz [] hfin

/- slices.Grow[[]api.Cell,api.Cell] -/
def zb3 (num:Int):Option Cs:=
 ob (
  if (decide (num<0))=true then
   none
  else
   some ()) fun v=>
 ob (
  if (decide (0<(w64 (num - (w64 (0 - 0))))))=true then
   zao (0<=(w64 (num - (w64 (0 - 0))))/\(w64 (num - (w64 (0 - 0)))).toNat*64<=140737488351232) <|
   zao (0<=(0:Int)/\(0:Int)<=((List.replicate (w64 (num - (w64 (0 - 0)))).toNat ((⟨([]:B8),([]:B8),0,false,([]:B8)⟩:Cell):Cell)).length:Int)) <|
   lt ((List.replicate (w64 (num - (w64 (0 - 0)))).toNat ((⟨([]:B8),([]:B8),0,false,([]:B8)⟩:Cell):Cell))) fun (v2:Cs)=>
   zao (((0:Int).toNat)<=v2.length) <|
   some (v2.take ((0:Int).toNat))
  else
   some ([]:Cs)) fun (v1:Cs)=>
 some v1
theorem zhl {num r}(hF:zb3 num=some r):Pe Tryz.prog 142 (.w []) [.nils,.i num] (.row 22 0) ⟨[],[],[(22,.o 75 5 0 (r.map zab))],[],[]⟩:=by
 refine PT 27 [.tmp 4] [68] Tryz.func142 ?_;intro Q g hfin;unfold zb3 at hF;refine LR0 ?_;refine LR0 ?_;have⟨v,hv,hF⟩:=oE hF;refine NmT (fun Z=>Z.up [0,1] [] [] [] [] [] [] []) ?_ ?_
 ·have hF:=hv;refine Nif hF ?_ ?_ <;> intro hb hF
  ·cases hF
  ·cases hF;exact zmf []
 ·refine LR0 ?_;refine NR [] [0,1,16] [] [] [(0,.nils),(1,.i (w64 (num - (w64 (0 - 0))))),(16,.bool (decide (0<(w64 (num - (w64 (0 - 0)))))))] .nil ?_;have⟨v1,hv,hF⟩:=oE hF;refine Nmeet (⟨[(0,.row 22 0)],[],[(22,.o 75 5 0 (v1.map zab))],[],[]⟩:S) ?_ ?_
  ·have hF:=hv;refine Nif hF ?_ ?_ <;> intro hb hF
   ·have⟨h0,hF⟩:=aE hF;have⟨h1,hF⟩:=aE hF;refine NRL ((List.replicate (w64 (num - (w64 (0 - 0)))).toNat ((⟨([]:B8),([]:B8),0,false,([]:B8)⟩:Cell):Cell))) (fun v2:Cs=>([(0,.rowv 22 0 0 ((0:Int).toNat))],[],[(22,.z 75 5 0 (v2.map zab))],[])) [.xs ((List.replicate (w64 (num - (w64 (0 - 0)))).toNat ((⟨([]:B8),([]:B8),0,false,([]:B8)⟩:Cell):Cell)).map zab),.vw ((0:Int).toNat)] [0] [] [22] [] (hc (rfl:(0:Int)=0) (hc h0 (hc (rep_ok zab (w64 (num - (w64 (0 - 0)))) ((⟨([]:B8),([]:B8),0,false,([]:B8)⟩:Cell):Cell)) (hc (vw01_ok (cm:=0) zab h1) .nil)))) (fun v2 hv=>?_);have hF:=zei hF hv;have⟨h2,hF⟩:=aE hF;refine Wk_truncL 0 22 0 ((0:Int).toNat) ((v2.take ((0:Int).toNat)).map zab) rfl rfl rfl rfl (tk_ok zab h2).1 (xbm _) (xex).symm ?_;cases hF;exact zmf [(22,⟨0,false,true,false⟩)]
   ·refine zas 0 60000 75 5 rfl rfl rfl ?_;refine zd9 (fs:=[0]) (bs:=[]) (rs:=[60000]) (ms:=[]) (aa:=[]) (nv:=[]) rfl ?_;refine za9 ⟨[],[(60000,22)],[],[]⟩ rfl ?_;cases hF;exact zmf [(22,⟨0,true,false,false⟩)]
  ·refine LR0 ?_;cases hF;exact Wz [] hfin

/- slices.Concat[[]api.Cell,api.Cell] -/
def zcn (v1:Cs):Option Cs:=
 some v1
def zcl (slices:List Cs)(v2:Cs×Int):Option ((Cs×Int)⊕Cs):=
 if (decide (v2.2<(slices.length:Int)))=true then
  zao (0<=v2.2/\v2.2<(slices.length:Int)) <|
  zao (((v2.1++(zad slices v2.2)).length:Int)*64<=140737488351232) <|
  some (Sum.inl ((v2.1++(zad slices v2.2)),w64 (v2.2+1)))
 else
  zey (zcn v2.1)
def zcm (slices:List Cs)(v0:Cs×Int):Option Cs:=
 zb7 (fun y=>zcl slices y) v0
def zck (slices:List Cs)(v:Int):Option Cs:=
 ob (zb3 v) fun x=>
 zcm slices (x,0)
def zbz (slices:List Cs)(v3:Int×Int):Option ((Int×Int)⊕Cs):=
 if (decide (v3.2<(slices.length:Int)))=true then
  zao (0<=v3.2/\v3.2<(slices.length:Int)) <|
  ob (
   if (decide ((w64 (v3.1+((zad slices v3.2).length:Int)))<0))=true then
    none
   else
    some ()) fun v4=>
  some (Sum.inl (w64 (v3.1+((zad slices v3.2).length:Int)),w64 (v3.2+1)))
 else
  zey (zck slices v3.1)
def zdl (slices:List Cs)(v0:Int×Int):Option Cs:=
 zb7 (fun y=>zbz slices y) v0
def zct (slices:List Cs):Option Cs:=
 zdl slices (0,0)
theorem zh2 {slices r}(hF:zct slices=some r):Pe Tryz.prog 90 (.w []) [.sl 1 (slices.map za1)] (.row 24 0) ⟨[],[],[(24,.o 75 5 0 (r.map zab))],[],[]⟩:=by
 refine PT 36 [.tmp 2] [68] Tryz.func90 ?_;intro Q g hfin;unfold zct at hF;refine LR0 ?_;refine LR0 ?_;refine RJ (.l za1 slices .z) ?_;refine NmS (fun v=>zck slices v=some r) (fun Z v=>Z.up [0,3] [] [] [] [(3,.i v)] [] [] []) ?_ ?_
 ·refine zdb ?_;unfold zdl at hF;refine znj hF [] (fun Z v3=>Z.up [0,3,9,10,11] [] [] [] [(3,.i v3.1),(11,.i v3.2)] [] [] []) ?_;intro n1 v3 y1 hF ih1 dn1;unfold zbz at hF;refine LR0 ?_;refine Nif hF ?_ ?_ <;> intro hb hF
  ·refine zdb ?_;have⟨h4,hF⟩:=aE hF;refine RJ (.i za1 h4 .z) ?_;refine RJ (.l zab (zad slices v3.2) .z) ?_;refine LR0 ?_;have⟨v4,hv,hF⟩:=oE hF;refine NmT (fun Z=>Z.up [0,3,9,10,11] [] [] [] [] [] [] []) ?_ ?_
   ·have hF:=hv;refine Nif hF ?_ ?_ <;> intro hb hF
    ·cases hF
    ·cases hF;exact zmf []
   ·refine LR0 ?_;exact zg1 [] hF ih1
  ·refine zcp rfl ?_;have hF:=zak hF dn1;exact zfr v3.1 [] hF
 ·intro v hF;unfold zck at hF;have⟨x,h0,hF⟩:=oE hF;have p1:=(Pe.ren (zhl h0) ⟨[],[(22,24)],[],[]⟩);refine RJ (.a (.raw [0]) (.a (cE [] [] [] [] p1) (.g p1 .z))) ?_;refine RJ (.l za1 slices .z) ?_;refine NmS (fun v1=>zcn v1=some r) (fun Z v1=>Z.up [6] [] [24] [] [] [] [(24,.o 75 5 0 (v1.map zab))] []) ?_ ?_
  ·refine zdb ?_;unfold zcm at hF;refine znj hF [] (fun Z v2=>Z.up [6,25,26,27] [] [24] [] [(27,.i v2.2)] [] [(24,.o 75 5 0 (v2.1.map zab))] []) ?_;intro n1 v2 y1 hF ih1 dn1;unfold zcl at hF;refine LR0 ?_;refine Nif hF ?_ ?_ <;> intro hb hF
   ·refine zdb ?_;have⟨h2,hF⟩:=aE hF;refine RJ (.i za1 h2 .z) ?_;have⟨h3,hF⟩:=aE hF;refine RJ (.p zab h3 .z) ?_;refine LR0 ?_;exact zg1 [(24,⟨0,true,true,false⟩)] hF ih1
   ·refine zcp rfl ?_;have hF:=zak hF dn1;exact zfr v2.1 [] hF
  ·intro v1 hF;unfold zcn at hF;refine LR0 ?_;cases hF;exact Wz [] hfin

/- slices.insertionSortCmpFunc[api.Cell] -/
def zcg (v:Cs):Option Cs:=
 some v
def zch (v1:Cs×Int)(v2:Cs):Option ((Cs×Int)⊕Cs):=
 some (Sum.inl (v2,w64 (v1.2+1)))
def za3 (a0:Int)(v1 v3:Cs×Int):Option ((Cs×Int)⊕((Cs×Int)⊕Cs)):=
 zao ((decide (a0<v3.2))=true->0<=v3.2/\v3.2<(v3.1.length:Int)) <|
 zao ((decide (a0<v3.2))=true->0<=v3.2/\v3.2<(v3.1.length:Int)) <|
 zao ((decide (a0<v3.2))=true->0<=w64 (v3.2 - 1)/\w64 (v3.2 - 1)<(v3.1.length:Int)) <|
 zao ((decide (a0<v3.2))=true->0<=w64 (v3.2 - 1)/\w64 (v3.2 - 1)<(v3.1.length:Int)) <|
 ob (if (decide (a0<v3.2))=true then (zej (⟨(zad v3.1 v3.2).Row,(zad v3.1 v3.2).Col,(zad v3.1 v3.2).Time,(zad v3.1 v3.2).Gone,(zad v3.1 v3.2).Value⟩:Cell) (⟨(zad v3.1 (w64 (v3.2 - 1))).Row,(zad v3.1 (w64 (v3.2 - 1))).Col,(zad v3.1 (w64 (v3.2 - 1))).Time,(zad v3.1 (w64 (v3.2 - 1))).Gone,(zad v3.1 (w64 (v3.2 - 1))).Value⟩:Cell)) else some default) fun x=>
 if ((decide (a0<v3.2))&&(decide (x<0)))=true then
  zao (0<=w64 (v3.2 - 1)/\w64 (v3.2 - 1)<(v3.1.length:Int)) <|
  zao (0<=w64 (v3.2 - 1)/\w64 (v3.2 - 1)<(v3.1.length:Int)) <|
  zao (0<=v3.2/\v3.2<(v3.1.length:Int)) <|
  zao (0<=v3.2/\v3.2<(v3.1.length:Int)) <|
  zao (0<=v3.2/\v3.2<(v3.1.length:Int)) <|
  zao (0<=v3.2/\v3.2<(v3.1.length:Int)) <|
  zao (0<=w64 (v3.2 - 1)/\w64 (v3.2 - 1)<((zmc v3.1 v3.2 (⟨(zad v3.1 (w64 (v3.2 - 1))).Row,(zad v3.1 (w64 (v3.2 - 1))).Col,(zad v3.1 (w64 (v3.2 - 1))).Time,(zad v3.1 (w64 (v3.2 - 1))).Gone,(zad v3.1 (w64 (v3.2 - 1))).Value⟩:Cell)).length:Int)) <|
  zao (0<=w64 (v3.2 - 1)/\w64 (v3.2 - 1)<((zmc v3.1 v3.2 (⟨(zad v3.1 (w64 (v3.2 - 1))).Row,(zad v3.1 (w64 (v3.2 - 1))).Col,(zad v3.1 (w64 (v3.2 - 1))).Time,(zad v3.1 (w64 (v3.2 - 1))).Gone,(zad v3.1 (w64 (v3.2 - 1))).Value⟩:Cell)).length:Int)) <|
  lt ((zmc (zmc v3.1 v3.2 (⟨(zad v3.1 (w64 (v3.2 - 1))).Row,(zad v3.1 (w64 (v3.2 - 1))).Col,(zad v3.1 (w64 (v3.2 - 1))).Time,(zad v3.1 (w64 (v3.2 - 1))).Gone,(zad v3.1 (w64 (v3.2 - 1))).Value⟩:Cell)) (w64 (v3.2 - 1)) (⟨(zad v3.1 v3.2).Row,(zad v3.1 v3.2).Col,(zad v3.1 v3.2).Time,(zad v3.1 v3.2).Gone,(zad v3.1 v3.2).Value⟩:Cell))) fun v4=>
  some (Sum.inl (v4,w64 (v3.2 - 1)))
 else
  zey (zch v1 v3.1)
def zcf (a0:Int)(v1 v0:Cs×Int):Option ((Cs×Int)⊕Cs):=
 zb7 (fun y=>za3 a0 v1 y) v0
def za6 (a0 b:Int)(v1:Cs×Int):Option ((Cs×Int)⊕Cs):=
 if (decide (v1.2<b))=true then
  zcf a0 v1 (v1.1,v1.2)
 else
  zey (zcg v1.1)
def zbp (a0 b:Int)(v0:Cs×Int):Option Cs:=
 zb7 (fun y=>za6 a0 b y) v0
def zay (a0 b:Int)(row:Cs):Option Cs:=
 zbp a0 b (row,w64 (a0+1))
theorem zdr (rk rc:Nat)(rn:Bool){a0 b row r}(hF:zay a0 b row=some r):Pe Tryz.prog 192 (.w [(100000,.q 75 5 0 0 rc rn (row.map zab))]) [.row 100000 0,.i a0,.i b,.fn 54 []] (.tup []) (.w [(100000,.q 75 5 0 0 rc rn (r.map zab))]):=by
 refine PT 53 [] [] Tryz.func192 ?_;intro Q g hfin;unfold zay at hF;refine LR0 ?_;refine NmQ (fun v=>zcg v=some r) (fun v=>(.w [(100000,.q 75 5 0 0 rc rn (v.map zab))])) ?_ ?_
 ·refine zdb ?_;unfold zbp at hF;refine znj hF [] (fun Z v1=>Z.up [0,1,2,3,8] [] [100000] [] [(8,.i v1.2)] [] [(100000,.q 75 5 0 0 rc rn (v1.1.map zab))] []) ?_;intro n1 v1 y1 hF ih1 dn1;unfold za6 at hF;refine LR0 ?_;refine Nif hF ?_ ?_ <;> intro hb hF
  ·refine zdb ?_;refine LR0 ?_;refine NmS (fun v2=>zch v1 v2=some y1) (fun Z v2=>Z.up [0,1,2,3,8] [] [100000] [] [] [] [(100000,.q 75 5 0 0 rc rn (v2.map zab))] []) ?_ ?_
   ·refine zdb ?_;unfold zcf at hF;refine znj hF [] (fun Z v3=>Z.up [0,1,2,3,8,9] [] [100000] [] [(9,.i v3.2)] [] [(100000,.q 75 5 0 0 rc rn (v3.1.map zab))] []) ?_;intro n2 v3 y2 hF ih2 dn2;unfold za3 at hF;have⟨h0,h1,h2,h3,hF⟩:=zj1 hF;have⟨x,h4,hF⟩:=oE hF;refine DJ (.g (fun (ga0:(decide (a0<v3.2))=true)=>(zj2 zab (h0 ga0))) (.a (.av (zab (zad v3.1 v3.2))) (.g (fun (ga0:(decide (a0<v3.2))=true)=>(ziv zab (h1 ga0))) (.g (fun (ga0:(decide (a0<v3.2))=true)=>(zj2 zab (h2 ga0))) (.a (.av (zab (zad v3.1 (w64 (v3.2 - 1))))) (.g (fun (ga0:(decide (a0<v3.2))=true)=>(ziv zab (h3 ga0))) (.a (.callB (.i x)) (.g (fun (ga0:(decide (a0<v3.2))=true)=>(zeo (ite_t h4 ga0))) .z)))))))) ?_;refine Nif hF ?_ ?_ <;> intro hb hF
    ·refine zdb ?_;have⟨h5,h6,h7,h8,hF⟩:=zj1 hF;have⟨h9,h10,h11,h12,hF⟩:=zj1 hF;have⟨v4,hv,hF⟩:=lS hF;refine DJ (.x zab h5 (.r zab h6 (.x zab h7 (.r zab h8 (.x zab h9 (.w zab h10 (⟨(zad v3.1 (w64 (v3.2 - 1))).Row,(zad v3.1 (w64 (v3.2 - 1))).Col,(zad v3.1 (w64 (v3.2 - 1))).Time,(zad v3.1 (w64 (v3.2 - 1))).Gone,(zad v3.1 (w64 (v3.2 - 1))).Value⟩:Cell) (.x zab h11 (.wN zab h12 hv .z)))))))) ?_;refine LR0 ?_;exact zg1 [] hF ih2
    ·refine zcp rfl ?_;have hF:=zak hF dn2;exact zfr v3.1 [] hF
   ·intro v2 hF;unfold zch at hF;refine LR0 ?_;exact zg1 [] hF ih1
  ·refine zcp rfl ?_;have hF:=zak hF dn1;exact zfr v1.1 [] hF
 ·intro v hF;unfold zcg at hF;cases hF;exact Wk_end (hfin _ ⟨[100000],[],[100000],[],[],[],by kernel_rfl⟩)

/- slices.swapRangeCmpFunc[api.Cell] -/
def zcv (v:Cs):Option Cs:=
 some v
def zb2 (a0 b num:Int)(v1:Cs×Int):Option ((Cs×Int)⊕Cs):=
 if (decide (v1.2<num))=true then
  zao (0<=w64 (b+v1.2)/\w64 (b+v1.2)<(v1.1.length:Int)) <|
  zao (0<=w64 (b+v1.2)/\w64 (b+v1.2)<(v1.1.length:Int)) <|
  zao (0<=w64 (a0+v1.2)/\w64 (a0+v1.2)<(v1.1.length:Int)) <|
  zao (0<=w64 (a0+v1.2)/\w64 (a0+v1.2)<(v1.1.length:Int)) <|
  zao (0<=w64 (a0+v1.2)/\w64 (a0+v1.2)<(v1.1.length:Int)) <|
  zao (0<=w64 (a0+v1.2)/\w64 (a0+v1.2)<(v1.1.length:Int)) <|
  zao (0<=w64 (b+v1.2)/\w64 (b+v1.2)<((zmc v1.1 (w64 (a0+v1.2)) (⟨(zad v1.1 (w64 (b+v1.2))).Row,(zad v1.1 (w64 (b+v1.2))).Col,(zad v1.1 (w64 (b+v1.2))).Time,(zad v1.1 (w64 (b+v1.2))).Gone,(zad v1.1 (w64 (b+v1.2))).Value⟩:Cell)).length:Int)) <|
  zao (0<=w64 (b+v1.2)/\w64 (b+v1.2)<((zmc v1.1 (w64 (a0+v1.2)) (⟨(zad v1.1 (w64 (b+v1.2))).Row,(zad v1.1 (w64 (b+v1.2))).Col,(zad v1.1 (w64 (b+v1.2))).Time,(zad v1.1 (w64 (b+v1.2))).Gone,(zad v1.1 (w64 (b+v1.2))).Value⟩:Cell)).length:Int)) <|
  lt ((zmc (zmc v1.1 (w64 (a0+v1.2)) (⟨(zad v1.1 (w64 (b+v1.2))).Row,(zad v1.1 (w64 (b+v1.2))).Col,(zad v1.1 (w64 (b+v1.2))).Time,(zad v1.1 (w64 (b+v1.2))).Gone,(zad v1.1 (w64 (b+v1.2))).Value⟩:Cell)) (w64 (b+v1.2)) (⟨(zad v1.1 (w64 (a0+v1.2))).Row,(zad v1.1 (w64 (a0+v1.2))).Col,(zad v1.1 (w64 (a0+v1.2))).Time,(zad v1.1 (w64 (a0+v1.2))).Gone,(zad v1.1 (w64 (a0+v1.2))).Value⟩:Cell))) fun v2=>
  some (Sum.inl (v2,w64 (v1.2+1)))
 else
  zey (zcv v1.1)
def zcx (a0 b num:Int)(v0:Cs×Int):Option Cs:=
 zb7 (fun y=>zb2 a0 b num y) v0
def zaw (a0 b num:Int)(row:Cs):Option Cs:=
 zcx a0 b num (row,0)
theorem zcu (rk rc:Nat)(rn:Bool){a0 b num row r}(hF:zaw a0 b num row=some r):Pe Tryz.prog 237 (.w [(100000,.q 75 5 0 0 rc rn (row.map zab))]) [.row 100000 0,.i a0,.i b,.i num,.fn 54 []] (.tup []) (.w [(100000,.q 75 5 0 0 rc rn (r.map zab))]):=by
 refine PT 38 [] [] Tryz.func237 ?_;intro Q g hfin;unfold zaw at hF;refine LR0 ?_;refine NmQ (fun v=>zcv v=some r) (fun v=>(.w [(100000,.q 75 5 0 0 rc rn (v.map zab))])) ?_ ?_
 ·refine zdb ?_;unfold zcx at hF;refine znj hF [] (fun Z v1=>Z.up [0,1,2,3,10] [] [100000] [] [(10,.i v1.2)] [] [(100000,.q 75 5 0 0 rc rn (v1.1.map zab))] []) ?_;intro n1 v1 y1 hF ih1 dn1;unfold zb2 at hF;refine LR0 ?_;refine Nif hF ?_ ?_ <;> intro hb hF
  ·refine zdb ?_;have⟨h0,h1,h2,h3,hF⟩:=zj1 hF;have⟨h4,h5,h6,h7,hF⟩:=zj1 hF;have⟨v2,hv,hF⟩:=lS hF;refine DJ (.x zab h0 (.r zab h1 (.x zab h2 (.r zab h3 (.x zab h4 (.w zab h5 (⟨(zad v1.1 (w64 (b+v1.2))).Row,(zad v1.1 (w64 (b+v1.2))).Col,(zad v1.1 (w64 (b+v1.2))).Time,(zad v1.1 (w64 (b+v1.2))).Gone,(zad v1.1 (w64 (b+v1.2))).Value⟩:Cell) (.x zab h6 (.wN zab h7 hv .z)))))))) ?_;refine LR0 ?_;exact zg1 [] hF ih1
  ·refine zcp rfl ?_;have hF:=zak hF dn1;exact zfr v1.1 [] hF
 ·intro v hF;unfold zcv at hF;cases hF;exact Wk_end (hfin _ ⟨[100000],[],[100000],[],[],[],by kernel_rfl⟩)

/- slices.rotateCmpFunc[api.Cell] -/
def zce (m:Int)(v:Cs×Int):Option Cs:=
 ob (zaw (w64 (m - v.2)) m v.2 v.1) fun x=>
 some x
def zbw (m:Int)(v1:Cs×Int×Int):Option ((Cs×Int×Int)⊕Cs):=
 if (!decide (v1.2.1=v1.2.2))=true then
  if (decide (v1.2.2<v1.2.1))=true then
   ob (zaw (w64 (m - v1.2.1)) m v1.2.2 v1.1) fun x1=>
   some (Sum.inl (x1,w64 (v1.2.1 - v1.2.2),v1.2.2))
  else
   ob (zaw (w64 (m - v1.2.1)) (w64 ((w64 (m+v1.2.2)) - v1.2.1)) v1.2.1 v1.1) fun x2=>
   some (Sum.inl (x2,v1.2.1,w64 (v1.2.2 - v1.2.1)))
 else
  zey (zce m (v1.1,v1.2.1))
def zdh (m:Int)(v0:Cs×Int×Int):Option Cs:=
 zb7 (fun y=>zbw m y) v0
def zbl (a0 m b:Int)(row:Cs):Option Cs:=
 zdh m (row,w64 (m - a0),w64 (b - m))
theorem zhj (rk rc:Nat)(rn:Bool){a0 m b row r}(hF:zbl a0 m b row=some r):Pe Tryz.prog 220 (.w [(100000,.q 75 5 0 0 rc rn (row.map zab))]) [.row 100000 0,.i a0,.i m,.i b,.fn 54 []] (.tup []) (.w [(100000,.q 75 5 0 0 rc rn (r.map zab))]):=by
 refine PT 58 [] [] Tryz.func220 ?_;intro Q g hfin;unfold zbl at hF;refine LR0 ?_;refine LR0 ?_;refine NmS (fun v=>zce m v=some r) (fun Z v=>Z.up [0,2,4,10] [] [100000] [] [(10,.i v.2)] [] [(100000,.q 75 5 0 0 rc rn (v.1.map zab))] []) ?_ ?_
 ·refine zdb ?_;unfold zdh at hF;refine znj hF [] (fun Z v1=>Z.up [0,2,4,10,11] [] [100000] [] [(10,.i v1.2.1),(11,.i v1.2.2)] [] [(100000,.q 75 5 0 0 rc rn (v1.1.map zab))] []) ?_;intro n1 v1 y1 hF ih1 dn1;unfold zbw at hF;refine LR0 ?_;refine Nif hF ?_ ?_ <;> intro hb hF
  ·refine zdb ?_;refine LR0 ?_;refine Nif hF ?_ ?_ <;> intro hb hF
   ·have⟨x1,h2,hF⟩:=oE hF;have p3:=(Pe.ren (zcu 0 rc rn h2) ⟨[],[],[],[]⟩);refine RJ (.e [] [100000] p3 .z) ?_;refine LR0 ?_;exact zg1 [] hF ih1
   ·have⟨x2,h4,hF⟩:=oE hF;have p5:=(Pe.ren (zcu 0 rc rn h4) ⟨[],[],[],[]⟩);refine RJ (.e [] [100000] p5 .z) ?_;refine LR0 ?_;exact zg1 [] hF ih1
  ·refine zcp rfl ?_;have hF:=zak hF dn1;exact zfr (v1.1,v1.2.1) [] hF
 ·intro v hF;unfold zce at hF;have⟨x,h0,hF⟩:=oE hF;have p1:=(Pe.ren (zcu 0 rc rn h0) ⟨[],[],[],[]⟩);refine RJ (.e [] [100000] p1 .z) ?_;cases hF;exact Wk_end (hfin _ ⟨[100000],[],[100000],[],[],[],by kernel_rfl⟩)

end
end G
end Go.Proofs.YtgcndnddgajekaaGreatDoor
