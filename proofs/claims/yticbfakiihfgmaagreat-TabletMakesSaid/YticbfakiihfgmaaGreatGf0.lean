/- The program's functions as plain functions, and that they are these. Written by a program (dec2.py). -/
import Derived.Test.YticbfakiihfgmaaGreatTys
namespace Go.Proofs.YticbfakiihfgmaaGreat
open Go Go.Dm
set_option linter.unusedVariables false
set_option linter.unusedSimpArgs false
set_option maxRecDepth 100000
namespace G
noncomputable section
/- tabularylaw.oneNote -/
def law_oneNote  : Note:=
 lt ([(⟨([114]:B8),([99]:B8),7,false,([97]:B8)⟩:Cell)]) fun (v:Cs)=>
 (⟨1,v⟩:Note)
theorem law_oneNote_ok { r}(hF:law_oneNote  = r):Pe Tryz.prog 59 S.none [] (.agg (c_Note r)) S.none:=by
 refine PT 4 [.cell 0 50] [50] Tryz.func59 ?_
 intro Q g hfin
 unfold law_oneNote at hF
 refine LR0 ?_
 refine NRL ([(⟨([114]:B8),([99]:B8),7,false,([97]:B8)⟩:Cell)]) (fun v:Cs=>([],[(0,[.i 1,.sl 5 (v.map zab)])],[],[])) [.sealed] [0] [0] [] [] .nil (fun v hv=>?_)
 have hF:=zeg hF hv
 cases hF
 exact Wz [] hfin

/- tablet.fault -/
def zce (code at0:Int):Fault:=
 (⟨code,at0⟩:Fault)
theorem za2 {code at0 r}(hF:zce code at0=r):Pe Tryz.prog 65 S.none [.i code,.i at0] (.agg (zae r)) S.none:=by
 refine PT 8 [.cell 4 35] [35] Tryz.func65 ?_
 intro Q g hfin
 unfold zce at hF
 refine LR0 ?_
 refine LR0 ?_
 cases hF
 exact Wz [] hfin

/- disk.fault -/
def zq1 (code at0:Int):Fault:=
 (⟨code,at0⟩:Fault)
theorem zsa {code at0 r}(hF:zq1 code at0=r):Pe Tryz.prog 110 S.none [.i code,.i at0] (.agg (zae r)) S.none:=by
 refine PT 8 [.cell 4 35] [35] Tryz.func110 ?_
 intro Q g hfin
 unfold zq1 at hF
 refine LR0 ?_
 refine LR0 ?_
 cases hF
 exact Wz [] hfin

/- disk.Check -/
def zop (d:Disk):Fault:=
 if (decide (60000<(d.Bytes.length:Int)))=true then
  lt (zq1 8 0) fun x=>
  x
 else
  if ((decide (d.Kept<0))||(decide ((d.Bytes.length:Int)<d.Kept)))=true then
   lt (zq1 3 0) fun x1=>
   x1
  else
   (⟨0,0⟩:Fault)
theorem zs9 {d r}(hF:zop d=r):Pe Tryz.prog 109 S.none [.agg (c_Disk d)] (.agg (zae r)) S.none:=by
 refine PT 21 [.cell 2 35] [35] Tryz.func109 ?_
 intro Q g hfin
 unfold zop at hF
 refine LR0 ?_
 refine RJ (.l zas d.Bytes .z) ?_
 refine Nif hF ?_ ?_ <;> intro hb hF
 ·have⟨x,h0,hF⟩:=lS hF
  refine RJ (.b (zsa h0) .z) ?_
  cases hF
  exact Wz [] hfin
 ·refine RJ (.a (.nat (d.Bytes.length:Int)) (.g (fun (_:(!(decide (d.Kept<0)))=true)=>(zc5 zas d.Bytes)) .z)) ?_
  refine Nif hF ?_ ?_ <;> intro hb hF
  ·have⟨x1,h1,hF⟩:=lS hF
   refine RJ (.b (zsa h1) .z) ?_
   cases hF
   exact Wz [] hfin
  ·refine LR0 ?_
   cases hF
   exact Wz [] hfin

/- wire.Crc -/
def zox (v:Int):Option Int:=
 lt (zf8 .xor .u32 (if IntKind.signed .u32=true then -1 else IntKind.max .u32) v) fun v1=>
 some v1
def wire_Crc_J2 (v2:Int×Int)(v3:Int):Option ((Int×Int)⊕Int):=
 some (Sum.inl (v3,w64 (v2.2+1)))
def zsl (v2 v4:Int×Int):Option ((Int×Int)⊕((Int×Int)⊕Int)):=
 if (decide (v4.2<8))=true then
  ob (
   if (decide ((zf8 .and .u32 v4.1 1)=1))=true then
    lt (zf8 .xor .u32 (Int.fdiv v4.1 (2 ^ (min (1:Int).toNat 32))) 3988292384) fun v6=>
    some v6
   else
    some (Int.fdiv v4.1 (2 ^ (min (1:Int).toNat 32)))) fun v5=>
  some (Sum.inl (v5,w64 (v4.2+1)))
 else
  zev (wire_Crc_J2 v2 v4.1)
def wire_Crc_L2 (v2 v0:Int×Int):Option ((Int×Int)⊕Int):=
 zbg (fun y=>zsl v2 y) v0
def zsx (b:B8)(v2:Int×Int):Option ((Int×Int)⊕Int):=
 if (decide (v2.2<(b.length:Int)))=true then
  zao (0<=v2.2/\v2.2<(b.length:Int)) <|
  wire_Crc_L2 v2 (zf8 .xor .u32 v2.1 (IntKind.u32.wrap ((zad b v2.2).toNat:Int)),0)
 else
  zev (zox v2.1)
def wire_Crc_L1 (b:B8)(v0:Int×Int):Option Int:=
 zbg (fun y=>zsx b y) v0
def zqc (b:B8):Option Int:=
 wire_Crc_L1 b (4294967295,0)
theorem zow {b r}(hF:zqc b=some r):Pe Tryz.prog 143 S.none [.sl 1 (b.map zas)] (.int .u32 r) S.none:=by
 refine PT 31 [.tmp 2] [124] Tryz.func143 ?_
 intro Q g hfin
 unfold zqc at hF
 refine LR0 ?_
 refine LR0 ?_
 refine RJ (.l zas b .z) ?_
 refine NmQ (fun v=>zox v=some r) (fun v=>⟨[(3,.int .u32 v)],[],[],[],[]⟩) ?_ ?_
 ·refine zb5 ?_
  unfold wire_Crc_L1 at hF
  refine zoy hF [] (fun Z v2=>Z.up [3,7,8,9] [] [] [] [(3,.int .u32 v2.1),(9,.i v2.2)] [] [] []) ?_
  intro n1 v2 y1 hF ih1 dn1
  unfold zsx at hF
  refine LR0 ?_
  refine Nif hF ?_ ?_ <;> intro hb hF
  ·refine zb5 ?_
   have⟨h0,hF⟩:=aE hF
   refine RJ (.i zas h0 .z) ?_
   refine LR0 ?_
   refine LR0 ?_
   refine NmS (fun v3=>wire_Crc_J2 v2 v3=some y1) (fun Z v3=>Z.up [3,7,8,9] [] [] [] [(3,.int .u32 v3)] [] [] []) ?_ ?_
   ·refine zb5 ?_
    unfold wire_Crc_L2 at hF
    refine zoy hF [] (fun Z v4=>Z.up [3,7,8,9,17] [] [] [] [(3,.int .u32 v4.1),(17,.i v4.2)] [] [] []) ?_
    intro n2 v4 y2 hF ih2 dn2
    unfold zsl at hF
    refine LR0 ?_
    refine Nif hF ?_ ?_ <;> intro hb hF
    ·refine zb5 ?_
     refine LR0 ?_
     refine RJ (.g (by decide:(0:Int)<=1) .z) ?_
     refine LR0 ?_
     have⟨v5,hv,hF⟩:=oE hF
     refine NmT (fun Z=>Z.up [3,7,8,9,17] [] [] [] [(3,.int .u32 v5)] [] [] []) ?_ ?_
     ·have hF:=hv
      refine Nif hF ?_ ?_ <;> intro hb hF
      ·refine NRL (zf8 .xor .u32 (Int.fdiv v4.1 (2 ^ (min (1:Int).toNat 32))) 3988292384) (fun v6:Int=>([(3,.int .u32 v6)],[],[],[])) [] [3,7,8,9,17] [] [] [] .nil (fun v6 hv=>?_)
       have hF:=zeg hF hv
       cases hF
       exact zgt []
      ·cases hF
       exact zgt []
     ·refine LR0 ?_
      exact zgb [] hF ih2
    ·refine zbm rfl ?_
     have hF:=zaj hF dn2
     exact ze4 v4.1 [] hF
   ·intro v3 hF
    unfold wire_Crc_J2 at hF
    refine LR0 ?_
    exact zgb [] hF ih1
  ·refine zbm rfl ?_
   have hF:=zaj hF dn1
   exact ze4 v2.1 [] hF
 ·intro v hF
  unfold zox at hF
  refine NRL (zf8 .xor .u32 (if IntKind.signed .u32=true then -1 else IntKind.max .u32) v) (fun v1:Int=>([(2,.int .u32 v1)],[],[],[])) [] [2] [] [] [] .nil (fun v1 hv=>?_)
  have hF:=zeg hF hv
  cases hF
  exact Wz [] hfin

/- slices.Equal[[]byte,byte] -/
def ze3 (v:Unit):Option Bool:=
 some true
def zd4 (s1 s2:B8)(v1:Int):Option (Int⊕Bool):=
 if (decide (v1<(s1.length:Int)))=true then
  zao (0<=v1/\v1<(s1.length:Int)) <|
  zao (0<=v1/\v1<(s2.length:Int)) <|
  if (!decide (((zad s1 v1).toNat:Int)=((zad s2 v1).toNat:Int)))=true then
   some (Sum.inr false)
  else
   some (Sum.inl (w64 (v1+1)))
 else
  zev (ze3 ())
def zgq (s1 s2:B8)(v0:Int):Option Bool:=
 zbg (fun y=>zd4 s1 s2 y) v0
def zdd (s1 s2:B8):Option Bool:=
 if (!decide ((s1.length:Int)=(s2.length:Int)))=true then
  some false
 else
  zgq s1 s2 0
theorem zgp {s1 s2 r}(hF:zdd s1 s2=some r):Pe Tryz.prog 146 S.none [.sl 1 (s1.map zas),.sl 1 (s2.map zas)] (.bool r) S.none:=by
 refine PT 26 [.tmp 4] [4] Tryz.func146 ?_
 intro Q g hfin
 unfold zdd at hF
 refine LR0 ?_
 refine RJ (.l zas s1 (.l zas s2 .z)) ?_
 refine Nif hF ?_ ?_ <;> intro hb hF
 ·refine LR0 ?_
  cases hF
  exact Wz [] hfin
 ·refine RJ (.l zas s1 .z) ?_
  refine NmQ (fun v=>ze3 v=some r) (fun v=>(.w [])) ?_ ?_
  ·refine zb5 ?_
   unfold zgq at hF
   refine zoy hF [] (fun Z v1=>Z.up [0,1,12,13] [] [] [] [(13,.i v1)] [] [] []) ?_
   intro n1 v1 y1 hF ih1 dn1
   unfold zd4 at hF
   refine LR0 ?_
   refine Nif hF ?_ ?_ <;> intro hb hF
   ·refine zb5 ?_
    refine LR0 ?_
    have⟨h0,h1,hF⟩:=zf7 hF
    refine DJ (.i zas h0 (.i zas h1 .z)) ?_
    refine Nif hF ?_ ?_ <;> intro hb hF
    ·refine LR0 ?_
     have hF:=zcr hF dn1
     cases hF
     exact Wz [] hfin
    ·refine LR0 ?_
     exact zgb [] hF ih1
   ·refine zbm rfl ?_
    have hF:=zaj hF dn1
    exact ze4 () [] hF
  ·intro v hF
   unfold ze3 at hF
   refine LR0 ?_
   cases hF
   exact Wz [] hfin

/- slices.Clone[[]byte,byte] -/
def zck (s0:B8):Option B8:=
 ubO (decide (s0.length=0)) (
  some ([]:B8)) (
  zao (((([]:B8)++s0).length:Int)*1<=140737488351232) <|
  some (([]:B8)++s0))
theorem zez {s0 r}(hF:zck s0=some r):Pe Tryz.prog 140 (.w []) [.sl 1 (s0.map zas)] (.row 5 0) ⟨[],[],[(5,.o 5 1 0 (r.map zas))],[],[]⟩:=by
 refine PT 8 [.tmp 2] [22] Tryz.func140 ?_
 intro Q g hfin
 unfold zck at hF
 refine LR0 ?_
 refine NR [.bo (decide (s0.length=0))] [0,4] [] [] [(0,.sl 1 (s0.map zas)),(4,.ub (decide (s0.length=0)) true)] (hc (ubn_ok zas s0) .nil) ?_
 refine Wk_ub 4 rfl fun b hb1 hb2=>?_
 refine Nsplit rfl (fun hb=>?_) (fun hb=>?_)
 ·have hb:=hb1 hb
  have hF:=(ubO_elim hF).1 hb
  refine NR [] [2] [] [] [(2,.nils)] .nil ?_
  cases hF
  refine zap 2 60000 5 1 rfl rfl rfl ?_
  refine zau ⟨[],[(60000,5)],[],[]⟩ rfl ?_
  exact Wz [(5,⟨0,true,false,false⟩)] hfin
 ·have hF:=(ubO_elim hF).2
  have⟨h0,hF⟩:=aE hF
  refine RJ (.p zas h0 .z) ?_
  cases hF
  exact Wz [(5,⟨0,true,true,false⟩)] hfin

/- wire.Opened -/
def zj2 (v:B9×Int):Option (B9×Int):=
 some (v.1,v.2)
def wire_Opened_B1 (b:B8)(v1:B9×Int):Option ((B9×Int)⊕(B9×Int)):=
 if (decide (6<=(w64 ((b.length:Int) - v1.2))))=true then
  zao (0<=v1.2/\v1.2<(b.length:Int)) <|
  zao (0<=w64 (v1.2+1)/\w64 (v1.2+1)<(b.length:Int)) <|
  lt (zf8 .or .i64 (w64 ((w64 ((zad b v1.2).toNat:Int))*2 ^ (min (8:Int).toNat 64))) (w64 ((zad b (w64 (v1.2+1))).toNat:Int))) fun v2=>
  if (decide ((b.length:Int)<(w64 ((w64 ((w64 (v1.2+2))+v2))+4))))=true then
   zev (zj2 (v1.1,v1.2))
  else
   zao (0<=v1.2/\v1.2<=w64 ((w64 (v1.2+2))+v2)/\w64 ((w64 (v1.2+2))+v2)<=(b.length:Int)) <|
   ob (zqc (zc1 (zd8 b (w64 ((w64 (v1.2+2))+v2))) v1.2)) fun x=>
   zao (0<=w64 ((w64 (v1.2+2))+v2)/\w64 ((w64 (v1.2+2))+v2)<=w64 ((w64 ((w64 (v1.2+2))+v2))+4)/\w64 ((w64 ((w64 (v1.2+2))+v2))+4)<=(b.length:Int)) <|
   ob (zdd (zc1 (zd8 b (w64 ((w64 ((w64 (v1.2+2))+v2))+4))) (w64 ((w64 (v1.2+2))+v2))) ([zew (Int.fdiv x (2 ^ (min (24:Int).toNat 32))),zew (Int.fdiv x (2 ^ (min (16:Int).toNat 32))),zew (Int.fdiv x (2 ^ (min (8:Int).toNat 32))),zew x]:B8)) fun x1=>
   if (!x1)=true then
    zev (zj2 (v1.1,v1.2))
   else
    zao (0<=w64 (v1.2+2)/\w64 (v1.2+2)<=w64 ((w64 (v1.2+2))+v2)/\w64 ((w64 (v1.2+2))+v2)<=(b.length:Int)) <|
    ob (zck (zc1 (zd8 b (w64 ((w64 (v1.2+2))+v2))) (w64 (v1.2+2)))) fun x2=>
    zao (((v1.1++([x2]:B9)).length:Int)*24<=140737488351232) <|
    some (Sum.inl ((v1.1++([x2]:B9)),w64 ((w64 ((w64 (v1.2+2))+v2))+4)))
 else
  zev (zj2 (v1.1,v1.2))
def wire_Opened_L1 (b:B8)(v0:B9×Int):Option (B9×Int):=
 zbg (fun y=>wire_Opened_B1 b y) v0
def zti (b:B8):Option (B9×Int):=
 wire_Opened_L1 b (([]:B9),0)
theorem wire_Opened_ok {b r}(hF:zti b=some r):Pe Tryz.prog 118 (.w []) [.sl 1 (b.map zas)] (.tup [.row 66 0,.i r.2]) ⟨[],[],[(66,.z 22 1 0 (r.1.map zaf))],[],[]⟩:=by
 refine PT 71 [.tmp 2,.tmp 3] [25,3] Tryz.func118 ?_
 intro Q g hfin
 unfold zti at hF
 refine NR [] [0,2,3] [] [] [(0,.sl 1 (b.map zas)),(2,.nils),(3,.i 0)] .nil ?_
 refine NmQ (fun v=>zj2 v=some r) (fun v=>⟨[(2,.row 66 0),(3,.i v.2)],[],[(66,.z 22 1 0 (v.1.map zaf))],[],[]⟩) ?_ ?_
 ·refine zb5 ?_
  unfold wire_Opened_L1 at hF
  refine zap 2 60000 22 1 rfl rfl rfl ?_
  refine zcj (fs:=[0,2,3]) (bs:=[]) (rs:=[60000]) (ms:=[]) (aa:=[]) (nv:=[]) rfl ?_
  refine zau ⟨[],[(60000,66)],[],[]⟩ rfl ?_
  refine zrv hF [] (fun v1=>⟨[(0,.sl 1 (b.map zas)),(2,.row 66 0),(3,.i v1.2)],[],[(66,.z 22 1 0 (v1.1.map zaf))],[],[]⟩) ?_
  intro n1 v1 y1 hF ih1 dn1
  unfold wire_Opened_B1 at hF
  refine RJ (.l zas b .z) ?_
  refine Nif hF ?_ ?_ <;> intro hb hF
  ·refine zb5 ?_
   have⟨h0,h1,hF⟩:=zf7 hF
   refine NDL (zf8 .or .i64 (w64 ((w64 ((zad b v1.2).toNat:Int))*2 ^ (min (8:Int).toNat 64))) (w64 ((zad b (w64 (v1.2+1))).toNat:Int))) (fun v2:Int=>([(4,.i v2)],[],[],[])) [.av (zas (zad b v1.2)),.av (zas (zad b (w64 (v1.2+1))))] [0,2,3,4] [] [66] [] (hc (zgi zas h0) (hc (by decide:(0:Int)<=8) (hc (zgi zas h1) .nil))) (fun v2 hv=>?_)
   have hF:=zeg hF hv
   refine LR0 ?_
   refine RJ (.l zas b .z) ?_
   refine Nif hF ?_ ?_ <;> intro hb hF
   ·refine zbm rfl ?_
    have hF:=zaj hF dn1
    exact ze4 (v1.1,v1.2) [] hF
   ·have⟨h2,hF⟩:=aE hF
    have⟨x,h3,hF⟩:=oE hF
    refine RJ (.s11 zas h2 (.b (zow h3) .z)) ?_
    have⟨h4,hF⟩:=aE hF
    have⟨x1,h5,hF⟩:=oE hF
    refine RJ (.s11 zas h4 (.g (by decide:(0:Int)<=24) (.g (by decide:(0:Int)<=16) (.g (by decide:(0:Int)<=8) (.a (.sealed) (.b (zgp h5) .z)))))) ?_
    refine Nif hF ?_ ?_ <;> intro hb hF
    ·refine zbm rfl ?_
     have hF:=zaj hF dn1
     exact ze4 (v1.1,v1.2) [] hF
    ·have⟨h6,hF⟩:=aE hF
     have⟨x2,h7,hF⟩:=oE hF
     have p8:=(Pe.ren (zez h7) ⟨[],[(5,64)],[],[]⟩)
     have⟨h9,hF⟩:=aE hF
     refine RJ (.s11 zas h6 (.e [] [] p8 (.a (.sealed) (.p zaf h9 .z)))) ?_
     refine LR0 ?_
     exact zgb [(66,⟨0,true,true,false⟩)] hF ih1
  ·refine zbm rfl ?_
   have hF:=zaj hF dn1
   exact ze4 (v1.1,v1.2) [] hF
 ·intro v hF
  unfold zj2 at hF
  refine LR0 ?_
  cases hF
  exact Wz [] hfin

/- wal.fault -/
def zrm (code at0:Int):Fault:=
 (⟨code,at0⟩:Fault)
theorem zp6 {code at0 r}(hF:zrm code at0=r):Pe Tryz.prog 107 S.none [.i code,.i at0] (.agg (zae r)) S.none:=by
 refine PT 8 [.cell 4 35] [35] Tryz.func107 ?_
 intro Q g hfin
 unfold zrm at hF
 refine LR0 ?_
 refine LR0 ?_
 cases hF
 exact Wz [] hfin

/- wal.Read$1 -/
def zmc (x:UInt8):Bool:=
 decide ((x.toNat:Int)<((128:UInt8).toNat:Int))
theorem wal_Read_1_ok {x r}(hF:zmc x=r):Pe Tryz.prog 148 S.none [.int .u8 ((x).toNat:Int)] (.bool r) S.none:=by
 refine PT 5 [.tmp 2] [4] Tryz.func148 ?_
 intro Q g hfin
 unfold zmc at hF
 refine LR0 ?_
 refine LR0 ?_
 cases hF
 exact Wz [] hfin

/- slices.IndexFunc[[]byte,byte] -/
def zfd (v:Unit):Option Int:=
 some (-1)
def za4 (s0:B8)(v1:Int):Option (Int⊕Int):=
 if (decide (v1<(s0.length:Int)))=true then
  zao (0<=v1/\v1<(s0.length:Int)) <|
  lt (zmc (zad s0 v1)) fun x=>
  if x=true then
   some (Sum.inr v1)
  else
   some (Sum.inl (w64 (v1+1)))
 else
  zev (zfd ())
def zhy (s0:B8)(v0:Int):Option Int:=
 zbg (fun y=>za4 s0 y) v0
def zcv (s0:B8):Option Int:=
 zhy s0 0
theorem znn {s0 r}(hF:zcv s0=some r):Pe Tryz.prog 147 S.none [.sl 1 (s0.map zas),.fn 148 []] (.i r) S.none:=by
 refine PT 19 [.tmp 4] [3] Tryz.func147 ?_
 intro Q g hfin
 unfold zcv at hF
 refine LR0 ?_
 refine RJ (.l zas s0 .z) ?_
 refine NmQ (fun v=>zfd v=some r) (fun v=>(.w [])) ?_ ?_
 ·refine zb5 ?_
  unfold zhy at hF
  refine zoy hF [] (fun Z v1=>Z.up [0,1,7,8] [] [] [] [(8,.i v1)] [] [] []) ?_
  intro n1 v1 y1 hF ih1 dn1
  unfold za4 at hF
  refine LR0 ?_
  refine Nif hF ?_ ?_ <;> intro hb hF
  ·refine zb5 ?_
   refine LR0 ?_
   have⟨h0,hF⟩:=aE hF
   have⟨x,h1,hF⟩:=lS hF
   refine RJ (.i zas h0 (.b (wal_Read_1_ok h1) .z)) ?_
   refine Nif hF ?_ ?_ <;> intro hb hF
   ·refine LR0 ?_
    have hF:=zcr hF dn1
    cases hF
    exact Wz [] hfin
   ·refine LR0 ?_
    exact zgb [] hF ih1
  ·refine zbm rfl ?_
   have hF:=zaj hF dn1
   exact ze4 () [] hF
 ·intro v hF
  unfold zfd at hF
  refine LR0 ?_
  cases hF
  exact Wz [] hfin

/- wire.Read -/
def wire_Read (b:B8):Reader:=
 (⟨b,false⟩:Reader)
theorem wire_Read_ok {b r}(hF:wire_Read b=r):Pe Tryz.prog 149 (.w []) [.sl 1 (b.map zas)] (.ptr 5 0) ⟨[],[(5,(ze1 r))],[],[],[]⟩:=by
 refine PT 6 [.tmp 2] [171] Tryz.func149 ?_
 intro Q g hfin
 unfold wire_Read at hF
 refine LR0 ?_
 refine LR0 ?_
 cases hF
 exact Wz [] hfin

/- (*wire.Reader).Num -/
def ze9 (v:Reader):Option (Int×Reader):=
 some (0,(⟨([]:B8),true⟩:Reader))
def zd2 (v1:Reader×Int×B8×Int×Int):Option ((Reader×Int×B8×Int×Int)⊕(Int×Reader)):=
 if (decide (v1.2.2.2.2<v1.2.2.2.1))=true then
  zao (0<=v1.2.2.2.2/\v1.2.2.2.2<(v1.2.2.1.length:Int)) <|
  zao (0<=(w64 (7*v1.2.2.2.2))) <|
  lt (zf8 .or .i64 v1.2.1 (w64 ((w64 ((zew (((BitVec.ofInt 8 ((zad v1.2.2.1 v1.2.2.2.2).toNat:Int) &&& BitVec.ofInt 8 ((127:UInt8).toNat:Int)).toNat:Int))).toNat:Int))*2 ^ (min (w64 (7*v1.2.2.2.2)).toNat 64)))) fun v2=>
  if ((decide (4<v1.2.2.2.2))||(decide (1000000000<v2)))=true then
   zev (ze9 v1.1)
  else
   if (decide (((zad v1.2.2.1 v1.2.2.2.2).toNat:Int)<((128:UInt8).toNat:Int)))=true then
    if ((decide (0<v1.2.2.2.2))&&(decide (((zad v1.2.2.1 v1.2.2.2.2).toNat:Int)=((0:UInt8).toNat:Int))))=true then
     zev (ze9 v1.1)
    else
     zao (0<=w64 (v1.2.2.2.2+1)/\w64 (v1.2.2.2.2+1)<=(v1.1.b.length:Int)) <|
     some (Sum.inr (v2,(⟨(zc1 v1.1.b (w64 (v1.2.2.2.2+1))),v1.1.bad⟩:Reader)))
   else
    some (Sum.inl (v1.1,v2,v1.2.2.1,v1.2.2.2.1,w64 (v1.2.2.2.2+1)))
 else
  zev (ze9 v1.1)
def zk8 (v0:Reader×Int×B8×Int×Int):Option (Int×Reader):=
 zbg (fun y=>zd2 y) v0
def zcd (box:Reader):Option (Int×Reader):=
 zk8 (box,0,box.b,(box.b.length:Int),0)
theorem zgl {box r}(hF:zcd box=some r):Pe Tryz.prog 150 ⟨[],[(100000,(ze1 box))],[],[],[]⟩ [.ptr 100000 0] (.i r.1) ⟨[],[(100000,(ze1 r.2))],[],[],[]⟩:=by
 refine PT 56 [.tmp 2] [3] Tryz.func150 ?_
 intro Q g hfin
 unfold zcd at hF
 refine LR0 ?_
 refine LR0 ?_
 refine RJ (.l zas box.b .z) ?_
 refine NmS (fun v=>ze9 v=some r) (fun Z v=>Z.up [0] [100000] [] [] [] [(100000,(ze1 v))] [] []) ?_ ?_
 ·refine zb5 ?_
  unfold zk8 at hF
  refine zrv hF [] (fun v1=>⟨[(0,.ptr 100000 0),(3,.i v1.2.1),(9,.sl 1 (v1.2.2.1.map zas)),(10,.i v1.2.2.2.1),(11,.i v1.2.2.2.2)],[(100000,(ze1 v1.1))],[],[],[]⟩) ?_
  intro n1 v1 y1 hF ih1 dn1
  unfold zd2 at hF
  refine LR0 ?_
  refine Nif hF ?_ ?_ <;> intro hb hF
  ·refine zb5 ?_
   have⟨h0,hF⟩:=aE hF
   refine RJ (.i zas h0 .z) ?_
   have⟨h1,hF⟩:=aE hF
   refine NRL (zf8 .or .i64 v1.2.1 (w64 ((w64 ((zew (((BitVec.ofInt 8 ((zad v1.2.2.1 v1.2.2.2.2).toNat:Int) &&& BitVec.ofInt 8 ((127:UInt8).toNat:Int)).toNat:Int))).toNat:Int))*2 ^ (min (w64 (7*v1.2.2.2.2)).toNat 64)))) (fun v2:Int=>([(3,.i v2)],[],[],[])) [] [0,3,4,5,9,10,11] [100000] [] [] (hc h1 .nil) (fun v2 hv=>?_)
   have hF:=zeg hF hv
   refine LR0 ?_
   refine Nif hF ?_ ?_ <;> intro hb hF
   ·refine zbm rfl ?_
    have hF:=zaj hF dn1
    exact ze4 v1.1 [] hF
   ·refine LR0 ?_
    refine Nif hF ?_ ?_ <;> intro hb hF
    ·refine LR0 ?_
     refine Nif hF ?_ ?_ <;> intro hb hF
     ·refine zbm rfl ?_
      have hF:=zaj hF dn1
      exact ze4 v1.1 [] hF
     ·have⟨h2,hF⟩:=aE hF
      refine RJ (.s10 zas h2 .z) ?_
      refine LR0 ?_
      have hF:=zcr hF dn1
      cases hF
      exact Wz [] hfin
    ·refine LR0 ?_
     exact zgb [] hF ih1
  ·refine zbm rfl ?_
   have hF:=zaj hF dn1
   exact ze4 v1.1 [] hF
 ·intro v hF
  unfold ze9 at hF
  refine LR0 ?_
  refine VR [] [2] [100000] [] [] [(2,.i 0)] [(100000,[.nils,.bool true])] [] [] .nil ?_
  cases hF
  refine znk 100000 [.sl 1 (([]:B8).map zas),.bool true] rfl (.cons (CoeS.nils 1) (.cons (CoeS.refl _) .nil)) ?_
  exact Wz [] hfin

/- (*wire.Reader).Ok -/
def zgu (box:Reader):Bool:=
 (!box.bad)&&(decide ((box.b.length:Int)=0))
theorem zq6 {box r}(hF:zgu box=r):Pe Tryz.prog 151 ⟨[],[(100000,(ze1 box))],[],[],[]⟩ [.ptr 100000 0] (.bool r) ⟨[],[(100000,(ze1 box))],[],[],[]⟩:=by
 refine PT 16 [.tmp 2] [4] Tryz.func151 ?_
 intro Q g hfin
 unfold zgu at hF
 refine LR0 ?_
 refine RJ (.a (.nat (box.b.length:Int)) (.g (fun (_:(!box.bad)=true)=>(zc5 zas box.b)) .z)) ?_
 cases hF
 exact Wz [] hfin

/- cell.fault -/
def zms (code at0:Int):Fault:=
 (⟨code,at0⟩:Fault)
theorem zlp {code at0 r}(hF:zms code at0=r):Pe Tryz.prog 134 S.none [.i code,.i at0] (.agg (zae r)) S.none:=by
 refine PT 8 [.cell 4 35] [35] Tryz.func134 ?_
 intro Q g hfin
 unfold zms at hF
 refine LR0 ?_
 refine LR0 ?_
 cases hF
 exact Wz [] hfin

/- (*wire.Reader).More -/
def zgd (box:Reader):Bool:=
 decide (0<(box.b.length:Int))
theorem wire_Reader_More_ok {box r}(hF:zgd box=r):Pe Tryz.prog 167 ⟨[],[(100000,(ze1 box))],[],[],[]⟩ [.ptr 100000 0] (.bool r) ⟨[],[(100000,(ze1 box))],[],[],[]⟩:=by
 refine PT 9 [.tmp 2] [4] Tryz.func167 ?_
 intro Q g hfin
 unfold zgd at hF
 refine LR0 ?_
 refine RJ (.l zas box.b .z) ?_
 cases hF
 exact Wz [] hfin

/- (*wire.Reader).Text -/
def zcq (box:Reader):Option (B8×Reader):=
 ob (zcd box) fun x=>
 if (x.2.bad||(decide ((x.2.b.length:Int)<x.1)))=true then
  some (([]:B8),(⟨([]:B8),true⟩:Reader))
 else
  zao (0<=x.1/\x.1<=(x.2.b.length:Int)) <|
  zao (0<=x.1/\x.1<=(x.2.b.length:Int)) <|
  some ((zd8 x.2.b x.1),(⟨(zc1 x.2.b x.1),x.2.bad⟩:Reader))
theorem zhq {box r}(hF:zcq box=some r):Pe Tryz.prog 169 ⟨[],[(100000,(ze1 box))],[],[],[]⟩ [.ptr 100000 0] (.str r.1) ⟨[],[(100000,(ze1 r.2))],[],[],[]⟩:=by
 refine PT 43 [.tmp 2] [9] Tryz.func169 ?_
 intro Q g hfin
 unfold zcq at hF
 refine LR0 ?_
 have⟨x,h0,hF⟩:=oE hF
 have p1:=(Pe.ren (zgl h0) ⟨[],[],[],[]⟩)
 refine RJ (.e [100000] [] p1 .z) ?_
 refine RJ (.a (.nat (x.2.b.length:Int)) (.g (fun (_:(!x.2.bad)=true)=>(zc5 zas x.2.b)) .z)) ?_
 refine Nif hF ?_ ?_ <;> intro hb hF
 ·refine LR0 ?_
  refine VR [] [2] [100000] [] [] [(2,.str ([]:B8))] [(100000,[.nils,.bool true])] [] [] .nil ?_
  cases hF
  refine znk 100000 [.sl 1 (([]:B8).map zas),.bool true] rfl (.cons (CoeS.nils 1) (.cons (CoeS.refl _) .nil)) ?_
  exact Wz [] hfin
 ·have⟨h2,hF⟩:=aE hF
  refine RJ (.s01 zas h2 (.a (.str (zd8 x.2.b x.1)) (.g (u8s_ok (zd8 x.2.b x.1)) .z))) ?_
  have⟨h3,hF⟩:=aE hF
  refine RJ (.s10 zas h3 .z) ?_
  refine LR0 ?_
  cases hF
  exact Wz [] hfin

/- (*wire.Reader).Fine -/
def zd6 (box:Reader):Bool:=
 !box.bad
theorem wire_Reader_Fine_ok {box r}(hF:zd6 box=r):Pe Tryz.prog 176 ⟨[],[(100000,(ze1 box))],[],[],[]⟩ [.ptr 100000 0] (.bool r) ⟨[],[(100000,(ze1 box))],[],[],[]⟩:=by
 refine PT 8 [.tmp 2] [4] Tryz.func176 ?_
 intro Q g hfin
 unfold zd6 at hF
 refine LR0 ?_
 refine LR0 ?_
 cases hF
 exact Wz [] hfin

/- cell.code -/
def cell_code (c:Cell):Int:=
 if ((((decide (c.Row=([]:B8)))||(decide (40<(c.Row.length:Int))))||(decide (40<(c.Col.length:Int))))||(decide (200<(c.Value.length:Int))))=true then
  8
 else
  if ((decide (c.Time<0))||(decide (1000000000<c.Time)))=true then
   3
  else
   if (c.Gone&&(!decide (c.Value=([]:B8))))=true then
    5
   else
    0
theorem cell_code_ok {c r}(hF:cell_code c=r):Pe Tryz.prog 141 S.none [.agg (zg9 c)] (.i r) S.none:=by
 refine PT 42 [.tmp 2] [3] Tryz.func141 ?_
 intro Q g hfin
 unfold cell_code at hF
 refine LR0 ?_
 refine zb5 ?_
 refine LR0 ?_
 refine Nif hF ?_ ?_ <;> intro hb hF
 ·refine LR0 ?_
  cases hF
  exact Wz [] hfin
 ·refine LR0 ?_
  refine Nif hF ?_ ?_ <;> intro hb hF
  ·refine LR0 ?_
   cases hF
   exact Wz [] hfin
  ·refine LR0 ?_
   refine Nif hF ?_ ?_ <;> intro hb hF
   ·refine LR0 ?_
    cases hF
    exact Wz [] hfin
   ·refine LR0 ?_
    cases hF
    exact Wz [] hfin

/- cell.From -/
def zrc (box:Reader):Option (Cell×Bool×Reader):=
 ob (zcq box) fun x=>
 ob (zcq x.2) fun x1=>
 ob (zcd x1.2) fun x2=>
 ob (zcd x2.2) fun x3=>
 ob (zcq x3.2) fun x4=>
 lt (zd6 x4.2) fun x5=>
 lt (cell_code (⟨x.1,x1.1,x2.1,decide (x3.1=1),x4.1⟩:Cell)) fun x6=>
 some ((⟨x.1,x1.1,x2.1,decide (x3.1=1),x4.1⟩:Cell),((decide (x3.1<2))&&x5)&&(decide (x6=0)),x4.2)
theorem cell_From_ok {box r}(hF:zrc box=some r):Pe Tryz.prog 168 ⟨[],[(100000,(ze1 box))],[],[],[]⟩ [.ptr 100000 0] (.tup [.agg (zg9 r.1),.bool r.2.1]) ⟨[],[(100000,(ze1 r.2.2))],[],[],[]⟩:=by
 refine PT 33 [.cell 2 53,.tmp 3] [53,4] Tryz.func168 ?_
 intro Q g hfin
 unfold zrc at hF
 refine LR0 ?_
 have⟨x,h0,hF⟩:=oE hF
 have p1:=(Pe.ren (zhq h0) ⟨[],[],[],[]⟩)
 have⟨x1,h2,hF⟩:=oE hF
 have p3:=(Pe.ren (zhq h2) ⟨[],[],[],[]⟩)
 have⟨x2,h4,hF⟩:=oE hF
 have p5:=(Pe.ren (zgl h4) ⟨[],[],[],[]⟩)
 refine RJ (.e [100000] [] p1 (.e [100000] [] p3 (.e [100000] [] p5 .z))) ?_
 have⟨x3,h6,hF⟩:=oE hF
 have p7:=(Pe.ren (zgl h6) ⟨[],[],[],[]⟩)
 refine RJ (.e [100000] [] p7 .z) ?_
 have⟨x4,h8,hF⟩:=oE hF
 have p9:=(Pe.ren (zhq h8) ⟨[],[],[],[]⟩)
 refine RJ (.e [100000] [] p9 .z) ?_
 have⟨x5,h10,hF⟩:=lS hF
 have⟨x6,h11,hF⟩:=lS hF
 refine DJ (.a (.callR [100000] [] [] [] (.bool x5)) (.g (fun (ga0:(decide (x3.1<2))=true)=>(Pe.ren (wire_Reader_Fine_ok h10) ⟨[],[],[],[]⟩)) (.a (.callB (.i x6)) (.g (fun (ga0:((decide (x3.1<2))&&x5)=true)=>(cell_code_ok h11)) .z)))) ?_
 cases hF
 exact Wz [] hfin

/- cmp.isNaN[string] -/
def zhz (x:B8):Bool:=
 !decide (x=x)
theorem zou {x r}(hF:zhz x=r):Pe Tryz.prog 172 S.none [.str x] (.bool r) S.none:=by
 refine PT 6 [.tmp 2] [4] Tryz.func172 ?_
 intro Q g hfin
 unfold zhz at hF
 refine LR0 ?_
 refine LR0 ?_
 cases hF
 exact Wz [] hfin

/- cmp.Compare[string] -/
def zfc (x y0:B8):Int:=
 lt (zhz x) fun x1=>
 lt (zhz y0) fun x2=>
 if x1=true then
  if x2=true then
   0
  else
   (-1)
 else
  if x2=true then
   1
  else
   if (Op.bytesLess x y0)=true then
    (-1)
   else
    if (Op.bytesLess y0 x)=true then
     1
    else
     0
theorem zm4 {x y0 r}(hF:zfc x y0=r):Pe Tryz.prog 162 S.none [.str x,.str y0] (.i r) S.none:=by
 refine PT 20 [.tmp 4] [3] Tryz.func162 ?_
 intro Q g hfin
 unfold zfc at hF
 refine LR0 ?_
 have⟨x1,h0,hF⟩:=lS hF
 refine RJ (.b (zou h0) .z) ?_
 have⟨x2,h1,hF⟩:=lS hF
 refine RJ (.b (zou h1) .z) ?_
 refine LR0 ?_
 refine Nif hF ?_ ?_ <;> intro hb hF
 ·refine LR0 ?_
  refine Nif hF ?_ ?_ <;> intro hb hF
  ·refine LR0 ?_
   cases hF
   exact Wz [] hfin
  ·refine LR0 ?_
   cases hF
   exact Wz [] hfin
 ·refine LR0 ?_
  refine Nif hF ?_ ?_ <;> intro hb hF
  ·refine LR0 ?_
   cases hF
   exact Wz [] hfin
  ·refine LR0 ?_
   refine Nif hF ?_ ?_ <;> intro hb hF
   ·refine LR0 ?_
    cases hF
    exact Wz [] hfin
   ·refine LR0 ?_
    refine Nif hF ?_ ?_ <;> intro hb hF
    ·refine LR0 ?_
     cases hF
     exact Wz [] hfin
    ·refine LR0 ?_
     cases hF
     exact Wz [] hfin

/- cmp.isNaN[int] -/
def zlt (x:Int):Bool:=
 !decide (x=x)
theorem cmp_isNaN_int_ok {x r}(hF:zlt x=r):Pe Tryz.prog 173 S.none [.i x] (.bool r) S.none:=by
 refine PT 6 [.tmp 2] [4] Tryz.func173 ?_
 intro Q g hfin
 unfold zlt at hF
 refine LR0 ?_
 refine LR0 ?_
 cases hF
 exact Wz [] hfin

/- cmp.Compare[int] -/
def ziz (x y0:Int):Int:=
 lt (zlt x) fun x1=>
 lt (zlt y0) fun x2=>
 if x1=true then
  if x2=true then
   0
  else
   (-1)
 else
  if x2=true then
   1
  else
   if (decide (x<y0))=true then
    (-1)
   else
    if (decide (y0<x))=true then
     1
    else
     0
theorem cmp_Compare_int_ok {x y0 r}(hF:ziz x y0=r):Pe Tryz.prog 163 S.none [.i x,.i y0] (.i r) S.none:=by
 refine PT 20 [.tmp 4] [3] Tryz.func163 ?_
 intro Q g hfin
 unfold ziz at hF
 refine LR0 ?_
 have⟨x1,h0,hF⟩:=lS hF
 refine RJ (.b (cmp_isNaN_int_ok h0) .z) ?_
 have⟨x2,h1,hF⟩:=lS hF
 refine RJ (.b (cmp_isNaN_int_ok h1) .z) ?_
 refine LR0 ?_
 refine Nif hF ?_ ?_ <;> intro hb hF
 ·refine LR0 ?_
  refine Nif hF ?_ ?_ <;> intro hb hF
  ·refine LR0 ?_
   cases hF
   exact Wz [] hfin
  ·refine LR0 ?_
   cases hF
   exact Wz [] hfin
 ·refine LR0 ?_
  refine Nif hF ?_ ?_ <;> intro hb hF
  ·refine LR0 ?_
   cases hF
   exact Wz [] hfin
  ·refine LR0 ?_
   refine Nif hF ?_ ?_ <;> intro hb hF
   ·refine LR0 ?_
    cases hF
    exact Wz [] hfin
   ·refine LR0 ?_
    refine Nif hF ?_ ?_ <;> intro hb hF
    ·refine LR0 ?_
     cases hF
     exact Wz [] hfin
    ·refine LR0 ?_
     cases hF
     exact Wz [] hfin

/- cmp.Or[int] -/
def zs0 (v:Unit):Option Int:=
 some 0
def ze0 (vals:List Int)(v1:Int):Option (Int⊕Int):=
 if (decide (v1<(vals.length:Int)))=true then
  zao (0<=v1/\v1<(vals.length:Int)) <|
  if (!decide ((zad vals v1)=0))=true then
   some (Sum.inr (zad vals v1))
  else
   some (Sum.inl (w64 (v1+1)))
 else
  zev (zs0 ())
def cmp_Or_int_L1 (vals:List Int)(v0:Int):Option Int:=
 zbg (fun y=>ze0 vals y) v0
def zq8 (vals:List Int):Option Int:=
 cmp_Or_int_L1 vals 0
theorem cmp_Or_int_ok {vals r}(hF:zq8 vals=some r):Pe Tryz.prog 161 S.none [.sl 1 (vals.map zpt)] (.i r) S.none:=by
 refine PT 18 [.tmp 2] [3] Tryz.func161 ?_
 intro Q g hfin
 unfold zq8 at hF
 refine LR0 ?_
 refine LR0 ?_
 refine RJ (.l zpt vals .z) ?_
 refine NmS (fun v=>zs0 v=some r) (fun Z v=>Z.up [3] [] [] [] [] [] [] []) ?_ ?_
 ·refine zb5 ?_
  unfold cmp_Or_int_L1 at hF
  refine zoy hF [] (fun Z v1=>Z.up [3,6,7,8] [] [] [] [(8,.i v1)] [] [] []) ?_
  intro n1 v1 y1 hF ih1 dn1
  unfold ze0 at hF
  refine LR0 ?_
  refine Nif hF ?_ ?_ <;> intro hb hF
  ·refine zb5 ?_
   have⟨h0,hF⟩:=aE hF
   refine RJ (.i zpt h0 .z) ?_
   refine LR0 ?_
   refine Nif hF ?_ ?_ <;> intro hb hF
   ·refine LR0 ?_
    have hF:=zcr hF dn1
    cases hF
    exact Wz [] hfin
   ·refine LR0 ?_
    exact zgb [] hF ih1
  ·refine zbm rfl ?_
   have hF:=zaj hF dn1
   exact ze4 () [] hF
 ·intro v hF
  unfold zs0 at hF
  refine LR0 ?_
  cases hF
  exact Wz [] hfin

/- cell.Order -/
def zge (a0 b:Cell):Option Int:=
 lt (zfc a0.Row b.Row) fun x=>
 lt (zfc a0.Col b.Col) fun x1=>
 lt (ziz b.Time a0.Time) fun x2=>
 ob (zq8 ([x,x1,x2]:List Int)) fun x3=>
 some x3
theorem zgn {a0 b r}(hF:zge a0 b=some r):Pe Tryz.prog 136 S.none [.agg (zg9 a0),.agg (zg9 b)] (.i r) S.none:=by
 refine PT 22 [.tmp 4] [3] Tryz.func136 ?_
 intro Q g hfin
 unfold zge at hF
 refine LR0 ?_
 have⟨x,h0,hF⟩:=lS hF
 have⟨x1,h1,hF⟩:=lS hF
 have⟨x2,h2,hF⟩:=lS hF
 have⟨x3,h3,hF⟩:=oE hF
 refine DJ (.b (zm4 h0) (.b (zm4 h1) (.b (cmp_Compare_int_ok h2) (.a (.sealed) (.b (cmp_Or_int_ok h3) .z))))) ?_
 cases hF
 exact Wz [] hfin

/- cell.Check -/
def ztj (v:Fault):Option Fault:=
 some (⟨0,0⟩:Fault)
def zhu (l:Cs)(v1:Fault×Int):Option ((Fault×Int)⊕Fault):=
 if (decide (v1.2<(l.length:Int)))=true then
  zao (0<=v1.2/\v1.2<(l.length:Int)) <|
  lt (cell_code (⟨(zad l v1.2).Row,(zad l v1.2).Col,(zad l v1.2).Time,(zad l v1.2).Gone,(zad l v1.2).Value⟩:Cell)) fun x1=>
  if (!decide (x1=0))=true then
   lt (zms x1 v1.2) fun x2=>
   some (Sum.inr x2)
  else
   zao ((decide (0<v1.2))=true->0<=w64 (v1.2 - 1)/\w64 (v1.2 - 1)<(l.length:Int)) <|
   ob (if (decide (0<v1.2))=true then (zge (⟨(zad l (w64 (v1.2 - 1))).Row,(zad l (w64 (v1.2 - 1))).Col,(zad l (w64 (v1.2 - 1))).Time,(zad l (w64 (v1.2 - 1))).Gone,(zad l (w64 (v1.2 - 1))).Value⟩:Cell) (⟨(zad l v1.2).Row,(zad l v1.2).Col,(zad l v1.2).Time,(zad l v1.2).Gone,(zad l v1.2).Value⟩:Cell)) else some default) fun x3=>
   if ((decide (0<v1.2))&&(decide (0<=x3)))=true then
    lt (zms 10 v1.2) fun x4=>
    some (Sum.inr x4)
   else
    some (Sum.inl (v1.1,w64 (v1.2+1)))
 else
  zev (ztj v1.1)
def zsv (l:Cs)(v0:Fault×Int):Option Fault:=
 zbg (fun y=>zhu l y) v0
def zje (l:Cs):Option Fault:=
 if (decide (1000<(l.length:Int)))=true then
  lt (zms 2 0) fun x=>
  some x
 else
  zsv l ((⟨0,0⟩:Fault),0)
theorem zk3 {l r}(hF:zje l=some r):Pe Tryz.prog 108 S.none [.sl 5 (l.map zab)] (.agg (zae r)) S.none:=by
 refine PT 40 [.cell 2 35] [35] Tryz.func108 ?_
 intro Q g hfin
 unfold zje at hF
 refine LR0 ?_
 refine RJ (.l zab l .z) ?_
 refine Nif hF ?_ ?_ <;> intro hb hF
 ·have⟨x,h0,hF⟩:=lS hF
  refine RJ (.b (zlp h0) .z) ?_
  cases hF
  exact Wz [] hfin
 ·refine RJ (.l zab l .z) ?_
  refine NmS (fun v=>ztj v=some r) (fun Z v=>Z.up [2] [2] [] [] [] [(2,(zae v))] [] []) ?_ ?_
  ·refine zb5 ?_
   unfold zsv at hF
   refine zoy hF [] (fun Z v1=>Z.up [0,2,10,11,12] [2] [] [] [(12,.i v1.2)] [(2,(zae v1.1))] [] []) ?_
   intro n1 v1 y1 hF ih1 dn1
   unfold zhu at hF
   refine LR0 ?_
   refine Nif hF ?_ ?_ <;> intro hb hF
   ·refine zb5 ?_
    have⟨h1,hF⟩:=aE hF
    refine RJ (.i zab h1 .z) ?_
    have⟨x1,h2,hF⟩:=lS hF
    refine RJ (.b (cell_code_ok h2) .z) ?_
    refine LR0 ?_
    refine Nif hF ?_ ?_ <;> intro hb hF
    ·have⟨x2,h3,hF⟩:=lS hF
     refine RJ (.b (zlp h3) .z) ?_
     have hF:=zcr hF dn1
     cases hF
     exact Wz [] hfin
    ·have⟨h4,hF⟩:=aE hF
     have⟨x3,h5,hF⟩:=oE hF
     refine DJ (.a (.av (zab (zad l (w64 (v1.2 - 1))))) (.g (fun (ga0:(decide (0<v1.2))=true)=>(zgi zab (h4 ga0))) (.a (.callB (.i x3)) (.g (fun (ga0:(decide (0<v1.2))=true)=>(zgn (ite_t h5 ga0))) .z)))) ?_
     refine Nif hF ?_ ?_ <;> intro hb hF
     ·have⟨x4,h6,hF⟩:=lS hF
      refine RJ (.b (zlp h6) .z) ?_
      have hF:=zcr hF dn1
      cases hF
      exact Wz [] hfin
     ·refine LR0 ?_
      exact zgb [] hF ih1
   ·refine zbm rfl ?_
    have hF:=zaj hF dn1
    exact ze4 v1.1 [] hF
  ·intro v hF
   unfold ztj at hF
   refine LR0 ?_
   cases hF
   exact Wz [] hfin

/- cell.Read -/
def zna (v:Fault×Cs):Option (Cs×Fault):=
 ob (zje v.2) fun x2=>
 if (!decide (x2.Code=0))=true then
  some (([]:Cs),x2)
 else
  some (v.2,(⟨0,0⟩:Fault))
def zne (v1:Fault×Cs×Reader):Option ((Fault×Cs×Reader)⊕(Cs×Fault)):=
 lt (zgd v1.2.2) fun x3=>
 if x3=true then
  ob (zrc v1.2.2) fun x4=>
  if (!x4.2.1)=true then
   lt (zms 5 (v1.2.1.length:Int)) fun x5=>
   some (Sum.inr (([]:Cs),x5))
  else
   zao (((v1.2.1++[x4.1]).length:Int)*64<=140737488351232) <|
   some (Sum.inl (v1.1,(v1.2.1++[x4.1]),x4.2.2))
 else
  zev (zna (v1.1,v1.2.1))
def cell_Read_L1 (v0:Fault×Cs×Reader):Option (Cs×Fault):=
 zbg (fun y=>zne y) v0
def zrn (b:B8):Option (Cs×Fault):=
 if (decide (60000<(b.length:Int)))=true then
  lt (zms 8 0) fun x=>
  some (([]:Cs),x)
 else
  lt (wire_Read b) fun x1=>
  cell_Read_L1 ((⟨0,0⟩:Fault),([]:Cs),x1)
theorem cell_Read_ok {b r}(hF:zrn b=some r):Pe Tryz.prog 152 (.w []) [.sl 1 (b.map zas)] (.tup [.row 30 0,.agg (zae r.2)]) ⟨[],[],[(30,.z 53 5 0 (r.1.map zab))],[],[]⟩:=by
 refine PT 39 [.tmp 2,.cell 3 35] [28,35] Tryz.func152 ?_
 intro Q g hfin
 unfold zrn at hF
 refine LR0 ?_
 refine RJ (.l zas b .z) ?_
 refine Nif hF ?_ ?_ <;> intro hb hF
 ·have⟨x,h0,hF⟩:=lS hF
  refine VR [.callB (.agg (zae x))] [2,3] [3] [] [] [(2,.nils),(3,.ptr 3 0)] [(3,(zae x))] [] [] (hc (zlp h0) .nil) ?_
  cases hF
  refine zap 2 60000 53 5 rfl rfl rfl ?_
  refine zau ⟨[],[(60000,30)],[],[]⟩ rfl ?_
  exact Wz [] hfin
 ·refine LR0 ?_
  have⟨x1,h1,hF⟩:=lS hF
  have p2:=(Pe.ren (wire_Read_ok h1) ⟨[(5,14)],[],[],[]⟩)
  refine VR [cE [] [] [] [] p2] [3,4,5] [3,14] [] [] [(3,.ptr 3 0),(4,.nils),(5,.ptr 14 0)] [(3,[.i 0,.i 0]),(14,(ze1 x1))] [] [] (hc p2 .nil) ?_
  refine NmQ (fun v=>zna v=some r) (fun v=>⟨[(3,.ptr 3 0),(4,.row 30 0)],[(3,(zae v.1))],[(30,.z 53 5 0 (v.2.map zab))],[],[]⟩) ?_ ?_
  ·refine zb5 ?_
   unfold cell_Read_L1 at hF
   refine zap 4 60002 53 5 rfl rfl rfl ?_
   refine zcj (fs:=[3,4,5]) (bs:=[3,14]) (rs:=[60002]) (ms:=[]) (aa:=[]) (nv:=[]) rfl ?_
   refine zau ⟨[],[(60002,30)],[],[]⟩ rfl ?_
   refine zrv hF [] (fun v1=>⟨[(3,.ptr 3 0),(4,.row 30 0),(5,.ptr 14 0)],[(3,(zae v1.1)),(14,(ze1 v1.2.2))],[(30,.z 53 5 0 (v1.2.1.map zab))],[],[]⟩) ?_
   intro n1 v1 y1 hF ih1 dn1
   unfold zne at hF
   have⟨x3,h4,hF⟩:=lS hF
   refine RJ (.q [14] [] (Pe.ren (wire_Reader_More_ok h4) ⟨[(100000,14)],[],[],[]⟩) .z) ?_
   refine Nif hF ?_ ?_ <;> intro hb hF
   ·refine zb5 ?_
    have⟨x4,h5,hF⟩:=oE hF
    have p6:=(Pe.ren (cell_From_ok h5) ⟨[(100000,14)],[],[],[]⟩)
    refine RJ (.e [14] [] p6 .z) ?_
    refine LR0 ?_
    refine Nif hF ?_ ?_ <;> intro hb hF
    ·have⟨x5,h7,hF⟩:=lS hF
     refine VR [.nat (v1.2.1.length:Int),.callB (.agg (zae x5))] [2,3] [3] [] [] [(2,.nils),(3,.ptr 3 0)] [(3,(zae x5))] [] [] (hc (zc5 zab v1.2.1) (hc (zlp h7) .nil)) ?_
     have hF:=zcr hF dn1
     cases hF
     refine zap 2 60003 53 5 rfl rfl rfl ?_
     refine zau ⟨[],[(60003,30)],[],[]⟩ rfl ?_
     exact Wz [] hfin
    ·have⟨h8,hF⟩:=aE hF
     refine RJ (.a (.sealed) (.p zab h8 .z)) ?_
     exact zgb [(30,⟨0,true,true,false⟩)] hF ih1
   ·refine zbm rfl ?_
    have hF:=zaj hF dn1
    exact ze4 (v1.1,v1.2.1) [] hF
  ·intro v hF
   unfold zna at hF
   have⟨x2,h3,hF⟩:=oE hF
   refine RJ (.b (zk3 h3) .z) ?_
   refine LR0 ?_
   refine Nif hF ?_ ?_ <;> intro hb hF
   ·refine VD [] [2,3] [3] [] [] [(2,.nils),(3,.ptr 3 0)] [(3,(zae x2))] [] [] .nil ?_
    cases hF
    refine zap 2 60001 53 5 rfl rfl rfl ?_
    refine zau ⟨[],[(60001,30)],[],[]⟩ rfl ?_
    exact Wz [] hfin
   ·refine LR0 ?_
    cases hF
    exact Wz [] hfin

/- wal.Check -/
def zq9 (num:Note):Option Fault:=
 if ((decide (num.Seq<1))||(decide (1000000000<num.Seq)))=true then
  lt (zrm 3 (-1)) fun x=>
  some x
 else
  if ((decide ((num.Cells.length:Int)=0))||(decide (20<(num.Cells.length:Int))))=true then
   lt (zrm 2 (-1)) fun x1=>
   some x1
  else
   ob (zje num.Cells) fun x2=>
   some x2
theorem wal_Check_ok {num r}(hF:zq9 num=some r):Pe Tryz.prog 64 S.none [.agg (c_Note num)] (.agg (zae r)) S.none:=by
 refine PT 28 [.cell 2 35] [35] Tryz.func64 ?_
 intro Q g hfin
 unfold zq9 at hF
 refine LR0 ?_
 refine zb5 ?_
 refine LR0 ?_
 refine Nif hF ?_ ?_ <;> intro hb hF
 ·have⟨x,h0,hF⟩:=lS hF
  refine RJ (.b (zp6 h0) .z) ?_
  cases hF
  exact Wz [] hfin
 ·refine RJ (.l zab num.Cells (.a (.nat (num.Cells.length:Int)) (.g (fun (_:(!(decide ((num.Cells.length:Int)=0)))=true)=>(zc5 zab num.Cells)) .z))) ?_
  refine Nif hF ?_ ?_ <;> intro hb hF
  ·have⟨x1,h1,hF⟩:=lS hF
   refine RJ (.b (zp6 h1) .z) ?_
   cases hF
   exact Wz [] hfin
  ·have⟨x2,h2,hF⟩:=oE hF
   refine RJ (.b (zk3 h2) .z) ?_
   cases hF
   exact Wz [] hfin

/- wal.Read -/
def wal_Read (b:B8):Option (Int×Cs×Fault):=
 if (decide (60000<(b.length:Int)))=true then
  lt (zrm 8 0) fun x=>
  some (0,([]:Cs),x)
 else
  ob (zcv b) fun x1=>
  zao (0<=w64 (1+x1)/\w64 (1+x1)<=(b.length:Int)) <|
  lt (wire_Read (zd8 b (w64 (1+x1)))) fun x2=>
  ob (zcd x2) fun x3=>
  lt (zgu x3.2) fun x4=>
  if (!x4)=true then
   lt (zrm 5 (-1)) fun x5=>
   some (0,([]:Cs),x5)
  else
   zao (0<=w64 (1+x1)/\w64 (1+x1)<=(b.length:Int)) <|
   ob (zrn (zc1 b (w64 (1+x1)))) fun x6=>
   if (!decide (x6.2.Code=0))=true then
    some (0,([]:Cs),x6.2)
   else
    ob (zq9 (⟨x3.1,x6.1⟩:Note)) fun x7=>
    if (!decide (x7.Code=0))=true then
     some (0,([]:Cs),x7)
    else
     some (x3.1,x6.1,x7)
theorem wal_Read_ok {b r}(hF:wal_Read b=some r):Pe Tryz.prog 119 (.w []) [.sl 1 (b.map zas)] (.tup [.agg [.i r.1,.row 33 0],.agg (zae r.2.2)]) ⟨[],[],[(33,.z 53 5 0 (r.2.1.map zab))],[],[]⟩:=by
 refine PT 52 [.cell 2 50,.cell 3 35] [50,35] Tryz.func119 ?_
 intro Q g hfin
 unfold wal_Read at hF
 refine LR0 ?_
 refine RJ (.l zas b .z) ?_
 refine Nif hF ?_ ?_ <;> intro hb hF
 ·have⟨x,h0,hF⟩:=lS hF
  refine VR [.callB (.agg (zae x))] [2,3] [2,3] [] [] [(2,.ptr 2 0),(3,.ptr 3 0)] [(2,[.i 0,.nils]),(3,(zae x))] [] [] (hc (zp6 h0) .nil) ?_
  cases hF
  refine zav 2 1 60000 53 5 rfl rfl rfl rfl rfl ?_
  refine zau ⟨[],[(60000,33)],[],[]⟩ rfl ?_
  exact Wz [] hfin
 ·have⟨x1,h1,hF⟩:=oE hF
  refine RJ (.b (znn h1) .z) ?_
  have⟨h2,hF⟩:=aE hF
  have⟨x2,h3,hF⟩:=lS hF
  have p4:=(Pe.ren (wire_Read_ok h3) ⟨[(5,20)],[],[],[]⟩)
  refine RJ (.s01 zas h2 (.e [] [] p4 .z)) ?_
  have⟨x3,h5,hF⟩:=oE hF
  have p6:=(Pe.ren (zgl h5) ⟨[(100000,20)],[],[],[]⟩)
  refine RJ (.e [20] [] p6 .z) ?_
  have⟨x4,h7,hF⟩:=lS hF
  refine RJ (.q [20] [] (Pe.ren (zq6 h7) ⟨[(100000,20)],[],[],[]⟩) .z) ?_
  refine Nif hF ?_ ?_ <;> intro hb hF
  ·have⟨x5,h8,hF⟩:=lS hF
   refine VR [.callB (.agg (zae x5))] [2,3] [2,3] [] [] [(2,.ptr 2 0),(3,.ptr 3 0)] [(2,[.i 0,.nils]),(3,(zae x5))] [] [] (hc (zp6 h8) .nil) ?_
   cases hF
   refine zav 2 1 60001 53 5 rfl rfl rfl rfl rfl ?_
   refine zau ⟨[],[(60001,33)],[],[]⟩ rfl ?_
   exact Wz [] hfin
  ·have⟨h9,hF⟩:=aE hF
   have⟨x6,h10,hF⟩:=oE hF
   have p11:=(Pe.ren (cell_Read_ok h10) ⟨[],[(30,33)],[],[]⟩)
   refine RJ (.s10 zas h9 (.e [] [] p11 .z)) ?_
   refine LR0 ?_
   refine Nif hF ?_ ?_ <;> intro hb hF
   ·refine VD [] [2,3] [2,3] [] [] [(2,.ptr 2 0),(3,.ptr 3 0)] [(2,[.i 0,.nils]),(3,(zae x6.2))] [] [] .nil ?_
    cases hF
    refine zav 2 1 60002 53 5 rfl rfl rfl rfl rfl ?_
    refine zau ⟨[],[(60002,33)],[],[]⟩ rfl ?_
    exact Wz [] hfin
   ·refine LR0 ?_
    have⟨x7,h12,hF⟩:=oE hF
    refine RJ (.b (wal_Check_ok h12) .z) ?_
    refine LR0 ?_
    refine Nif hF ?_ ?_ <;> intro hb hF
    ·refine VD [] [2,3] [2,3] [] [] [(2,.ptr 2 0),(3,.ptr 3 0)] [(2,[.i 0,.nils]),(3,(zae x7))] [] [] .nil ?_
     cases hF
     refine zav 2 1 60003 53 5 rfl rfl rfl rfl rfl ?_
     refine zau ⟨[],[(60003,33)],[],[]⟩ rfl ?_
     exact Wz [] hfin
    ·refine LD0 ?_
     cases hF
     exact Wz [] hfin

/- wal.Notes -/
def zp2 (v:List Note×Int):Option (List Note×Int):=
 some (v.1,v.2)
def zky (x:B9×Int)(v1:List Note×Int×Int):Option ((List Note×Int×Int)⊕(List Note×Int)):=
 if (decide (v1.2.2<(x.1.length:Int)))=true then
  zao (0<=v1.2.2/\v1.2.2<(x.1.length:Int)) <|
  zao (0<=v1.2.2/\v1.2.2<(x.1.length:Int)) <|
  ob (wal_Read (zad x.1 v1.2.2)) fun x1=>
  zao ((decide (0<(v1.1.length:Int)))=true->(!(!decide (x1.2.2.Code=0)))=true->0<=w64 ((v1.1.length:Int) - 1)/\w64 ((v1.1.length:Int) - 1)<(v1.1.length:Int)) <|
  zao ((decide (0<(v1.1.length:Int)))=true->(!(!decide (x1.2.2.Code=0)))=true->0<=w64 ((v1.1.length:Int) - 1)/\w64 ((v1.1.length:Int) - 1)<(v1.1.length:Int)) <|
  if ((!decide (x1.2.2.Code=0))||((decide (0<(v1.1.length:Int)))&&(!decide (x1.1=(w64 (((zad v1.1 (w64 ((v1.1.length:Int) - 1))).Seq)+1))))))=true then
   zev (zp2 (v1.1,v1.2.1))
  else
   zao (((v1.1++[(⟨x1.1,x1.2.1⟩:Note)]).length:Int)*32<=140737488351232) <|
   some (Sum.inl ((v1.1++[(⟨x1.1,x1.2.1⟩:Note)]),w64 (v1.2.1+(w64 (6+((zad x.1 v1.2.2).length:Int)))),w64 (v1.2.2+1)))
 else
  zev (zp2 (v1.1,v1.2.1))
def wal_Notes_L1 (x:B9×Int)(v0:List Note×Int×Int):Option (List Note×Int):=
 zbg (fun y=>zky x y) v0
def wal_Notes (d:Disk):Option (List Note×Int):=
 ob (zti d.Bytes) fun x=>
 wal_Notes_L1 x (([]:List Note),0,0)
theorem wal_Notes_ok {d r}(hF:wal_Notes d=some r):Pe Tryz.prog 72 (.w []) [.agg (c_Disk d)] (.tup [.row 53 0,.i r.2]) ⟨[],[],[(53,.z 50 2 0 (r.1.map zar))],[],[]⟩:=by
 refine PT 62 [.tmp 2,.tmp 3] [41,3] Tryz.func72 ?_
 intro Q g hfin
 unfold wal_Notes at hF
 refine LR0 ?_
 have⟨x,h0,hF⟩:=oE hF
 have p1:=(Pe.ren (wire_Opened_ok h0) ⟨[],[(66,15)],[],[]⟩)
 refine RJ (.e [] [] p1 .z) ?_
 refine LR0 ?_
 refine LR0 ?_
 refine VR [.nat (x.1.length:Int)] [6,7,18,19,20] [] [15] [] [(6,.nils),(7,.i 0),(18,.row 15 0),(19,.i (x.1.length:Int)),(20,.i 0)] [] [(15,.z 22 1 0 (x.1.map zaf))] [] (hc (zc5 zaf x.1) .nil) ?_
 refine NmQ (fun v=>zp2 v=some r) (fun v=>⟨[(6,.row 53 0),(7,.i v.2)],[],[(53,.z 50 2 0 (v.1.map zar))],[],[]⟩) ?_ ?_
 ·refine zb5 ?_
  unfold wal_Notes_L1 at hF
  refine zap 6 60000 50 2 rfl rfl rfl ?_
  refine zcj (fs:=[6,7,18,19,20]) (bs:=[]) (rs:=[15,60000]) (ms:=[]) (aa:=[]) (nv:=[]) rfl ?_
  refine zau ⟨[],[(60000,53)],[],[]⟩ rfl ?_
  refine zrv hF [] (fun v1=>⟨[(6,.row 53 0),(7,.i v1.2.1),(18,.row 15 0),(19,.i (x.1.length:Int)),(20,.i v1.2.2)],[],[(15,.z 22 1 0 (x.1.map zaf)),(53,.z 50 2 0 (v1.1.map zar))],[],[]⟩) ?_
  intro n1 v1 y1 hF ih1 dn1
  unfold zky at hF
  refine LR0 ?_
  refine Nif hF ?_ ?_ <;> intro hb hF
  ·refine zb5 ?_
   have⟨h2,h3,hF⟩:=zf7 hF
   refine RJ (.x zaf h2 (.r zaf h3 .z)) ?_
   have⟨x1,h4,hF⟩:=oE hF
   have p5:=(Pe.ren (wal_Read_ok h4) ⟨[],[(33,26)],[],[]⟩)
   refine RJ (.e [] [] p5 .z) ?_
   have⟨h6,h7,hF⟩:=zf7 hF
   refine DJ (.a (.nat (v1.1.length:Int)) (.g (fun (_:(!(!decide (x1.2.2.Code=0)))=true)=>(zc5 zar v1.1)) (.a (.nat (v1.1.length:Int)) (.g (fun (_:(decide (0<(v1.1.length:Int)))=true) (_:(!(!decide (x1.2.2.Code=0)))=true)=>(zc5 zar v1.1)) (.g (fun (ga0:(decide (0<(v1.1.length:Int)))=true) (ga1:(!(!decide (x1.2.2.Code=0)))=true)=>(zf4 zar (h6 ga0 ga1))) (.a (.av (zar (zad v1.1 (w64 ((v1.1.length:Int) - 1))))) (.g (fun (ga0:(decide (0<(v1.1.length:Int)))=true) (ga1:(!(!decide (x1.2.2.Code=0)))=true)=>(zec zar (h7 ga0 ga1))) .z))))))) ?_
   refine Nif hF ?_ ?_ <;> intro hb hF
   ·refine zbm rfl ?_
    have hF:=zaj hF dn1
    exact ze4 (v1.1,v1.2.1) [] hF
   ·have⟨h8,hF⟩:=aE hF
    refine RJ (.a (.sealed) (.p zar h8 .z)) ?_
    refine RJ (.l zas (zad x.1 v1.2.2) .z) ?_
    refine LR0 ?_
    exact zgb [(53,⟨0,true,true,false⟩)] hF ih1
  ·refine zbm rfl ?_
   have hF:=zaj hF dn1
   exact ze4 (v1.1,v1.2.1) [] hF
 ·intro v hF
  unfold zp2 at hF
  refine LR0 ?_
  cases hF
  exact Wz [] hfin

/- file.fault -/
def zg2 (code at0:Int):Fault:=
 (⟨code,at0⟩:Fault)
theorem zfj {code at0 r}(hF:zg2 code at0=r):Pe Tryz.prog 120 S.none [.i code,.i at0] (.agg (zae r)) S.none:=by
 refine PT 8 [.cell 4 35] [35] Tryz.func120 ?_
 intro Q g hfin
 unfold zg2 at hF
 refine LR0 ?_
 refine LR0 ?_
 cases hF
 exact Wz [] hfin

/- wire.Opened -/
def zg4 (v:B9×Int):Option (B9×Int):=
 some (v.1,v.2)
def zfp (b:B8)(v1:B9×Int):Option ((B9×Int)⊕(B9×Int)):=
 if (decide (6<=(w64 ((b.length:Int) - v1.2))))=true then
  zao (0<=v1.2/\v1.2<(b.length:Int)) <|
  zao (0<=w64 (v1.2+1)/\w64 (v1.2+1)<(b.length:Int)) <|
  lt (zf8 .or .i64 (w64 ((w64 ((zad b v1.2).toNat:Int))*2 ^ (min (8:Int).toNat 64))) (w64 ((zad b (w64 (v1.2+1))).toNat:Int))) fun v2=>
  if (decide ((b.length:Int)<(w64 ((w64 ((w64 (v1.2+2))+v2))+4))))=true then
   zev (zg4 (v1.1,v1.2))
  else
   zao (0<=v1.2/\v1.2<=w64 ((w64 (v1.2+2))+v2)/\w64 ((w64 (v1.2+2))+v2)<=(b.length:Int)) <|
   ob (zqc (zc1 (zd8 b (w64 ((w64 (v1.2+2))+v2))) v1.2)) fun x=>
   zao (0<=w64 ((w64 (v1.2+2))+v2)/\w64 ((w64 (v1.2+2))+v2)<=w64 ((w64 ((w64 (v1.2+2))+v2))+4)/\w64 ((w64 ((w64 (v1.2+2))+v2))+4)<=(b.length:Int)) <|
   ob (zdd (zc1 (zd8 b (w64 ((w64 ((w64 (v1.2+2))+v2))+4))) (w64 ((w64 (v1.2+2))+v2))) ([zew (Int.fdiv x (2 ^ (min (24:Int).toNat 32))),zew (Int.fdiv x (2 ^ (min (16:Int).toNat 32))),zew (Int.fdiv x (2 ^ (min (8:Int).toNat 32))),zew x]:B8)) fun x1=>
   if (!x1)=true then
    zev (zg4 (v1.1,v1.2))
   else
    zao (0<=w64 (v1.2+2)/\w64 (v1.2+2)<=w64 ((w64 (v1.2+2))+v2)/\w64 ((w64 (v1.2+2))+v2)<=(b.length:Int)) <|
    ob (zck (zc1 (zd8 b (w64 ((w64 (v1.2+2))+v2))) (w64 (v1.2+2)))) fun x2=>
    zao (((v1.1++([x2]:B9)).length:Int)*24<=140737488351232) <|
    some (Sum.inl ((v1.1++([x2]:B9)),w64 ((w64 ((w64 (v1.2+2))+v2))+4)))
 else
  zev (zg4 (v1.1,v1.2))
def zmg (b:B8)(v0:B9×Int):Option (B9×Int):=
 zbg (fun y=>zfp b y) v0
def zjz (b:B8):Option (B9×Int):=
 zmg b (([]:B9),0)
theorem wire_Opened_v1_ok {b r}(hF:zjz b=some r):Pe Tryz.prog 118 S.none [.sl 1 (b.map zas)] (.tup [.sl 1 (r.1.map zaf),.i r.2]) S.none:=by
 refine PT 71 [.tmp 2,.tmp 3] [25,3] Tryz.func118 ?_
 intro Q g hfin
 unfold zjz at hF
 refine NR [] [0,2,3] [] [] [(0,.sl 1 (b.map zas)),(2,.nils),(3,.i 0)] .nil ?_
 refine NmQ (fun v=>zg4 v=some r) (fun v=>⟨[(2,.row 66 0),(3,.i v.2)],[],[(66,.z 22 1 0 (v.1.map zaf))],[],[]⟩) ?_ ?_
 ·refine zb5 ?_
  unfold zmg at hF
  refine zap 2 60000 22 1 rfl rfl rfl ?_
  refine zcj (fs:=[0,2,3]) (bs:=[]) (rs:=[60000]) (ms:=[]) (aa:=[]) (nv:=[]) rfl ?_
  refine zau ⟨[],[(60000,66)],[],[]⟩ rfl ?_
  refine zrv hF [] (fun v1=>⟨[(0,.sl 1 (b.map zas)),(2,.row 66 0),(3,.i v1.2)],[],[(66,.z 22 1 0 (v1.1.map zaf))],[],[]⟩) ?_
  intro n1 v1 y1 hF ih1 dn1
  unfold zfp at hF
  refine RJ (.l zas b .z) ?_
  refine Nif hF ?_ ?_ <;> intro hb hF
  ·refine zb5 ?_
   have⟨h0,h1,hF⟩:=zf7 hF
   refine NDL (zf8 .or .i64 (w64 ((w64 ((zad b v1.2).toNat:Int))*2 ^ (min (8:Int).toNat 64))) (w64 ((zad b (w64 (v1.2+1))).toNat:Int))) (fun v2:Int=>([(4,.i v2)],[],[],[])) [.av (zas (zad b v1.2)),.av (zas (zad b (w64 (v1.2+1))))] [0,2,3,4] [] [66] [] (hc (zgi zas h0) (hc (by decide:(0:Int)<=8) (hc (zgi zas h1) .nil))) (fun v2 hv=>?_)
   have hF:=zeg hF hv
   refine LR0 ?_
   refine RJ (.l zas b .z) ?_
   refine Nif hF ?_ ?_ <;> intro hb hF
   ·refine zbm rfl ?_
    have hF:=zaj hF dn1
    exact ze4 (v1.1,v1.2) [] hF
   ·have⟨h2,hF⟩:=aE hF
    have⟨x,h3,hF⟩:=oE hF
    refine RJ (.s11 zas h2 (.b (zow h3) .z)) ?_
    have⟨h4,hF⟩:=aE hF
    have⟨x1,h5,hF⟩:=oE hF
    refine RJ (.s11 zas h4 (.g (by decide:(0:Int)<=24) (.g (by decide:(0:Int)<=16) (.g (by decide:(0:Int)<=8) (.a (.sealed) (.b (zgp h5) .z)))))) ?_
    refine Nif hF ?_ ?_ <;> intro hb hF
    ·refine zbm rfl ?_
     have hF:=zaj hF dn1
     exact ze4 (v1.1,v1.2) [] hF
    ·have⟨h6,hF⟩:=aE hF
     have⟨x2,h7,hF⟩:=oE hF
     have p8:=(Pe.ren (zez h7) ⟨[],[(5,64)],[],[]⟩)
     have⟨h9,hF⟩:=aE hF
     refine RJ (.s11 zas h6 (.e [] [] p8 (.a (.sealed) (.p zaf h9 .z)))) ?_
     refine LR0 ?_
     exact zgb [(66,⟨0,true,true,false⟩)] hF ih1
  ·refine zbm rfl ?_
   have hF:=zaj hF dn1
   exact ze4 (v1.1,v1.2) [] hF
 ·intro v hF
  unfold zg4 at hF
  refine LR0 ?_
  cases hF
  exact Wz [] hfin

/- wire.Read -/
def znf (b:B8):Reader:=
 (⟨b,false⟩:Reader)
theorem wire_Read_v1_ok {b r}(hF:znf b=r):Pe Tryz.prog 149 (.w []) [.sl 1 (b.map zas)] (.ptr 5 0) ⟨[],[(5,(ze1 r))],[],[],[]⟩:=by
 refine PT 6 [.tmp 2] [171] Tryz.func149 ?_
 intro Q g hfin
 unfold znf at hF
 refine LR0 ?_
 refine LR0 ?_
 cases hF
 exact Wz [] hfin

/- file.open -/
def zks (x1:B9×Int)(v:B9×Reader):Option (Bool×opened×Fault):=
 lt (zgu v.2) fun x4=>
 if (!x4)=true then
  lt (zg2 5 1) fun x5=>
  some (false,default,x5)
 else
  some (true,(⟨(zd8 x1.1 (w64 ((x1.1.length:Int) - 2))),v.1,(zad x1.1 (w64 ((w64 ((x1.1.length:Int) - 2))+1)))⟩:opened),(⟨0,0⟩:Fault))
def zcu (x1:B9×Int)(v1:B9×Reader×Int):Option ((B9×Reader×Int)⊕(Bool×opened×Fault)):=
 if (decide (v1.2.2<(w64 ((x1.1.length:Int) - 2))))=true then
  ob (zcq v1.2.1) fun x6=>
  zao (((v1.1++([x6.1]:B9)).length:Int)*16<=140737488351232) <|
  ob (zcd x6.2) fun x7=>
  zao (0<=v1.2.2/\v1.2.2<(x1.1.length:Int)) <|
  if (!decide (x7.1=((zad x1.1 v1.2.2).length:Int)))=true then
   lt (zg2 5 1) fun x8=>
   some (Sum.inr (false,default,x8))
  else
   some (Sum.inl ((v1.1++([x6.1]:B9)),x7.2,w64 (v1.2.2+1)))
 else
  zev (zks x1 (v1.1,v1.2.1))
def zni (x1:B9×Int)(v0:B9×Reader×Int):Option (Bool×opened×Fault):=
 zbg (fun y=>zcu x1 y) v0
def zpb (b:B8):Option (Bool×opened×Fault):=
 if (decide (60000<(b.length:Int)))=true then
  lt (zg2 8 0) fun x=>
  some (false,default,x)
 else
  ob (zjz b) fun x1=>
  zao ((!((!decide (x1.2=(b.length:Int)))||(decide ((w64 ((x1.1.length:Int) - 2))<0))))=true->0<=w64 ((w64 ((x1.1.length:Int) - 2))+1)/\w64 ((w64 ((x1.1.length:Int) - 2))+1)<(x1.1.length:Int)) <|
  if (((!decide (x1.2=(b.length:Int)))||(decide ((w64 ((x1.1.length:Int) - 2))<0)))||(decide (((zad x1.1 (w64 ((w64 ((x1.1.length:Int) - 2))+1))).length:Int)=0)))=true then
   lt (zg2 5 0) fun x2=>
   some (false,default,x2)
  else
   zao (0<=w64 ((x1.1.length:Int) - 2)/\w64 ((x1.1.length:Int) - 2)<=(x1.1.length:Int)) <|
   zao (0<=w64 ((w64 ((x1.1.length:Int) - 2))+1)/\w64 ((w64 ((x1.1.length:Int) - 2))+1)<(x1.1.length:Int)) <|
   zao (0<=w64 ((x1.1.length:Int) - 2)/\w64 ((x1.1.length:Int) - 2)<(x1.1.length:Int)) <|
   lt (znf (zad x1.1 (w64 ((x1.1.length:Int) - 2)))) fun x3=>
   zni x1 (([]:B9),x3,0)
theorem file_open_ok {b r}(hF:zpb b=some r):Pe Tryz.prog 155 S.none [.sl 1 (b.map zas)] (.tup [.popt r.1 (.rp (.agg (zp0 r.2.1))),.agg (zae r.2.2)]) S.none:=by
 refine PT 86 [.tmp 2,.cell 3 35] [179,35] Tryz.func155 ?_
 intro Q g hfin
 unfold zpb at hF
 refine LR0 ?_
 refine RJ (.l zas b .z) ?_
 refine Nif hF ?_ ?_ <;> intro hb hF
 ·have⟨x,h0,hF⟩:=lS hF
  refine VR [.callB (.agg (zae x))] [2,3] [3] [] [] [(2,.nilp),(3,.ptr 3 0)] [(3,(zae x))] [] [] (hc (zfj h0) .nil) ?_
  cases hF
  refine Wk_coe 2 (.popt false (.rp (.agg (zp0 default)))) rfl (.cell rfl (CoeS.popF _)) ?_
  exact Wz [] hfin
 ·have⟨x1,h1,hF⟩:=oE hF
  refine RJ (.c (wire_Opened_v1_ok h1) .z) ?_
  refine RJ (.l zaf x1.1 .z) ?_
  have⟨h2,hF⟩:=aE hF
  refine RJ (.l zas b (.a (.av (zaf (zad x1.1 (w64 ((w64 ((x1.1.length:Int) - 2))+1))))) (.g (fun (ga0:(!((!decide (x1.2=(b.length:Int)))||(decide ((w64 ((x1.1.length:Int) - 2))<0))))=true)=>(zgi zaf (h2 ga0))) (.a (.nat ((zad x1.1 (w64 ((w64 ((x1.1.length:Int) - 2))+1))).length:Int)) (.g (fun (_:(!((!decide (x1.2=(b.length:Int)))||(decide ((w64 ((x1.1.length:Int) - 2))<0))))=true)=>(zc5 zas (zad x1.1 (w64 ((w64 ((x1.1.length:Int) - 2))+1))))) .z))))) ?_
  refine Nif hF ?_ ?_ <;> intro hb hF
  ·have⟨x2,h3,hF⟩:=lS hF
   refine VR [.callB (.agg (zae x2))] [2,3] [3] [] [] [(2,.nilp),(3,.ptr 3 0)] [(3,(zae x2))] [] [] (hc (zfj h3) .nil) ?_
   cases hF
   refine Wk_coe 2 (.popt false (.rp (.agg (zp0 default)))) rfl (.cell rfl (CoeS.popF _)) ?_
   exact Wz [] hfin
  ·have⟨h4,hF⟩:=aE hF
   have⟨h5,hF⟩:=aE hF
   refine DJ (.s01 zaf h4 (.i zaf h5 .z)) ?_
   have⟨h6,hF⟩:=aE hF
   have⟨x3,h7,hF⟩:=lS hF
   have p8:=(Pe.ren (wire_Read_v1_ok h7) ⟨[(5,54)],[],[],[]⟩)
   refine RJ (.i zaf h6 (.e [] [] p8 .z)) ?_
   refine VR [] [3,4,7,8,55,56] [3,49,54] [] [] [(3,.ptr 3 0),(4,.sl 1 (x1.1.map zaf)),(7,.ptr 49 0),(8,.ptr 54 0),(55,.i (w64 ((x1.1.length:Int) - 2))),(56,.i 0)] [(3,[.i 0,.i 0]),(49,[.sl 1 ((zd8 x1.1 (w64 ((x1.1.length:Int) - 2))).map zaf),.nils,.sl 1 ((zad x1.1 (w64 ((w64 ((x1.1.length:Int) - 2))+1))).map zas)]),(54,(ze1 x3))] [] [] .nil ?_
   refine NmS (fun v=>zks x1 v=some r) (fun Z v=>Z.up [3,7,8] [3,49,54] [67] [] [] [(49,[.sl 1 ((zd8 x1.1 (w64 ((x1.1.length:Int) - 2))).map zaf),.row 67 0,.sl 1 ((zad x1.1 (w64 ((w64 ((x1.1.length:Int) - 2))+1))).map zas)]),(54,(ze1 v.2))] [(67,.z 9 1 0 (v.1.map ze5))] []) ?_ ?_
   ·refine zb5 ?_
    unfold zni at hF
    refine zav 49 1 60000 9 1 rfl rfl rfl rfl rfl ?_
    refine zcj (fs:=[3,4,7,8,55,56]) (bs:=[3,49,54]) (rs:=[60000]) (ms:=[]) (aa:=[]) (nv:=[]) rfl ?_
    refine zau ⟨[],[(60000,67)],[],[]⟩ rfl ?_
    refine zrv hF [] (fun v1=>⟨[(3,.ptr 3 0),(4,.sl 1 (x1.1.map zaf)),(7,.ptr 49 0),(8,.ptr 54 0),(55,.i (w64 ((x1.1.length:Int) - 2))),(56,.i v1.2.2)],[(3,[.i 0,.i 0]),(49,[.sl 1 ((zd8 x1.1 (w64 ((x1.1.length:Int) - 2))).map zaf),.row 67 0,.sl 1 ((zad x1.1 (w64 ((w64 ((x1.1.length:Int) - 2))+1))).map zas)]),(54,(ze1 v1.2.1))],[(67,.z 9 1 0 (v1.1.map ze5))],[],[]⟩) ?_
    intro n1 v1 y1 hF ih1 dn1
    unfold zcu at hF
    refine LR0 ?_
    refine Nif hF ?_ ?_ <;> intro hb hF
    ·refine zb5 ?_
     refine LR0 ?_
     have⟨x6,h11,hF⟩:=oE hF
     have p12:=(Pe.ren (zhq h11) ⟨[(100000,54)],[],[],[]⟩)
     have⟨h13,hF⟩:=aE hF
     refine DJ (.e [54] [] p12 (.a (.sealed) (.p ze5 h13 .z))) ?_
     have⟨x7,h14,hF⟩:=oE hF
     have p15:=(Pe.ren (zgl h14) ⟨[(100000,54)],[],[],[]⟩)
     have⟨h16,hF⟩:=aE hF
     refine DJ (.e [54] [] p15 (.i zaf h16 (.l zas (zad x1.1 v1.2.2) .z))) ?_
     refine Nif hF ?_ ?_ <;> intro hb hF
     ·have⟨x8,h17,hF⟩:=lS hF
      refine VR [.callB (.agg (zae x8))] [2,3] [3] [] [] [(2,.nilp),(3,.ptr 3 0)] [(3,(zae x8))] [] [] (hc (zfj h17) .nil) ?_
      have hF:=zcr hF dn1
      cases hF
      refine Wk_coe 2 (.popt false (.rp (.agg (zp0 default)))) rfl (.cell rfl (CoeS.popF _)) ?_
      exact Wz [] hfin
     ·refine LR0 ?_
      exact zgb [(67,⟨0,true,true,false⟩)] hF ih1
    ·refine zbm rfl ?_
     have hF:=zaj hF dn1
     exact ze4 (v1.1,v1.2.1) [] hF
   ·intro v hF
    unfold zks at hF
    have⟨x4,h9,hF⟩:=lS hF
    refine RJ (.q [54] [] (Pe.ren (zq6 h9) ⟨[(100000,54)],[],[],[]⟩) .z) ?_
    refine Nif hF ?_ ?_ <;> intro hb hF
    ·have⟨x5,h10,hF⟩:=lS hF
     refine VR [.callB (.agg (zae x5))] [2,3] [3] [] [] [(2,.nilp),(3,.ptr 3 0)] [(3,(zae x5))] [] [] (hc (zfj h10) .nil) ?_
     cases hF
     refine Wk_coe 2 (.popt false (.rp (.agg (zp0 default)))) rfl (.cell rfl (CoeS.popF _)) ?_
     exact Wz [] hfin
    ·refine VR [] [2,3] [3,49] [67] [] [(2,.ptr 49 0),(3,.ptr 3 0)] [(3,[.i 0,.i 0]),(49,[.sl 1 ((zd8 x1.1 (w64 ((x1.1.length:Int) - 2))).map zaf),.row 67 0,.sl 1 ((zad x1.1 (w64 ((w64 ((x1.1.length:Int) - 2))+1))).map zas)])] [(67,.z 9 1 0 (v.1.map ze5))] [] .nil ?_
     refine zo1 [] 49 rfl rfl ?_
     refine Wk_rpBx 2 49 [3] [3] [] [] rfl rfl rfl rfl rfl rfl rfl (by kernel_rfl) rfl ?_
     cases hF
     refine Wk_coe 2 (.popt true (.rp (.agg [.sl 1 ((zd8 x1.1 (w64 ((x1.1.length:Int) - 2))).map zaf),.sl 1 (v.1.map ze5),.sl 1 ((zad x1.1 (w64 ((w64 ((x1.1.length:Int) - 2))+1))).map zas)]))) rfl (.cell rfl (CoeS.popT _)) ?_
     exact Wz [] hfin

/- (*file.opened).cells -/
def zff (v:Cs):Option (Cs×Bool):=
 ob (zje v) fun x=>
 some (v,decide (x.Code=0))
def zb6 (to0:Int)(v1:opened×Cs×Int):Option ((opened×Cs×Int)⊕(Cs×Bool)):=
 if (decide (v1.2.2<to0))=true then
  zao (0<=v1.2.2/\v1.2.2<(v1.1.bodies.length:Int)) <|
  ob (zrn (zad v1.1.bodies v1.2.2)) fun x1=>
  zao ((!((!decide (x1.2.Code=0))||(decide ((x1.1.length:Int)=0))))=true->0<=(0:Int)/\0<(x1.1.length:Int)) <|
  zao ((!((!decide (x1.2.Code=0))||(decide ((x1.1.length:Int)=0))))=true->0<=(0:Int)/\0<(x1.1.length:Int)) <|
  zao ((!((!decide (x1.2.Code=0))||(decide ((x1.1.length:Int)=0))))=true->0<=v1.2.2/\v1.2.2<(v1.1.rows.length:Int)) <|
  if (((!decide (x1.2.Code=0))||(decide ((x1.1.length:Int)=0)))||(!decide (((zad x1.1 0).Row)=(zad v1.1.rows v1.2.2))))=true then
   some (Sum.inr (([]:Cs),false))
  else
   zao (((v1.2.1++x1.1).length:Int)*64<=140737488351232) <|
   some (Sum.inl (v1.1,(v1.2.1++x1.1),w64 (v1.2.2+1)))
 else
  zev (zff v1.2.1)
def zgy (to0:Int)(v0:opened×Cs×Int):Option (Cs×Bool):=
 zbg (fun y=>zb6 to0 y) v0
def zfq (o o1:B9)(o2:B8)(from0 to0:Int):Option (Cs×Bool):=
 zgy to0 ((⟨o,o1,o2⟩:opened),([]:Cs),from0)
theorem file_opened_cells_ok {o o1 o2 from0 to0 r}(hF:zfq o o1 o2 from0 to0=some r):Pe Tryz.prog 156 (.w []) [.rp (.agg [.sl 1 (o.map zaf),.sl 1 (o1.map ze5),.sl 1 (o2.map zas)]),.i from0,.i to0] (.tup [.row 53 0,.bool r.2]) ⟨[],[],[(53,.z 53 5 0 (r.1.map zab))],[],[]⟩:=by
 refine PT 59 [.tmp 6,.tmp 7] [28,4] Tryz.func156 ?_
 intro Q g hfin
 unfold zfq at hF
 refine LR0 ?_
 refine LR0 ?_
 refine NR [] [0,2,8,9] [] [] [(0,.rp (.agg [.sl 1 (o.map zaf),.sl 1 (o1.map ze5),.sl 1 (o2.map zas)])),(2,.i to0),(8,.nils),(9,.i from0)] .nil ?_
 refine NmQ (fun v=>zff v=some r) (fun v=>⟨[(8,.row 53 0)],[],[(53,.z 53 5 0 (v.map zab))],[],[]⟩) ?_ ?_
 ·refine zb5 ?_
  unfold zgy at hF
  refine zap 8 60000 53 5 rfl rfl rfl ?_
  refine zcj (fs:=[0,2,8,9]) (bs:=[]) (rs:=[60000]) (ms:=[]) (aa:=[]) (nv:=[]) rfl ?_
  refine zau ⟨[],[(60000,53)],[],[]⟩ rfl ?_
  refine zrv hF [] (fun v1=>⟨[(0,.rp (.agg (zp0 v1.1))),(2,.i to0),(8,.row 53 0),(9,.i v1.2.2)],[],[(53,.z 53 5 0 (v1.2.1.map zab))],[],[]⟩) ?_
  intro n1 v1 y1 hF ih1 dn1
  unfold zb6 at hF
  refine LR0 ?_
  refine Nif hF ?_ ?_ <;> intro hb hF
  ·refine zb5 ?_
   have⟨h1,hF⟩:=aE hF
   have⟨x1,h2,hF⟩:=oE hF
   have p3:=(Pe.ren (cell_Read_ok h2) ⟨[],[(30,26)],[],[]⟩)
   refine RJ (.i zaf h1 (.e [] [] p3 .z)) ?_
   have⟨h4,h5,hF⟩:=zf7 hF
   have⟨h6,hF⟩:=aE hF
   refine DJ (.a (.nat (x1.1.length:Int)) (.g (fun (_:(!(!decide (x1.2.Code=0)))=true)=>(zc5 zab x1.1)) (.g (fun (ga0:(!((!decide (x1.2.Code=0))||(decide ((x1.1.length:Int)=0))))=true)=>(zf4 zab (h4 ga0))) (.a (.av (zab (zad x1.1 0))) (.g (fun (ga0:(!((!decide (x1.2.Code=0))||(decide ((x1.1.length:Int)=0))))=true)=>(zec zab (h5 ga0))) (.a (.av (ze5 (zad v1.1.rows v1.2.2))) (.g (fun (ga0:(!((!decide (x1.2.Code=0))||(decide ((x1.1.length:Int)=0))))=true)=>(zgi ze5 (h6 ga0))) .z))))))) ?_
   refine Nif hF ?_ ?_ <;> intro hb hF
   ·refine NR [] [6,7] [] [] [(6,.nils),(7,.bool false)] .nil ?_
    have hF:=zcr hF dn1
    cases hF
    refine zap 6 60001 53 5 rfl rfl rfl ?_
    refine zau ⟨[],[(60001,53)],[],[]⟩ rfl ?_
    exact Wz [] hfin
   ·have⟨h7,hF⟩:=aE hF
    refine RJ (.p zab h7 .z) ?_
    refine LR0 ?_
    exact zgb [(53,⟨0,true,true,false⟩)] hF ih1
  ·refine zbm rfl ?_
   have hF:=zaj hF dn1
   exact ze4 v1.2.1 [] hF
 ·intro v hF
  unfold zff at hF
  have⟨x,h0,hF⟩:=oE hF
  refine RJ (.b (zk3 h0) .z) ?_
  cases hF
  exact Wz [] hfin

/- file.spots -/
def znv (v:Arr3_3×Arr3_3):Option Arr3_3:=
 some v.2
def zri (row:B8)(bits:Int):Option Arr3_3:=
 zao ((row.length:Int)<=140737488351232) <|
 ob (zqc row) fun x=>
 zao (bits≠0) <|
 lt (Int.tmod (w64 ((Int.tmod (w64 x) 65536)+(w64 (0*(w64 (Int.tdiv (w64 x) 65536)))))) bits) fun v1=>
 zao (bits≠0) <|
 lt (Int.tmod (w64 ((Int.tmod (w64 x) 65536)+(w64 (1*(w64 (Int.tdiv (w64 x) 65536)))))) bits) fun v2=>
 zao (bits≠0) <|
 lt (Int.tmod (w64 ((Int.tmod (w64 x) 65536)+(w64 (2*(w64 (Int.tdiv (w64 x) 65536)))))) bits) fun v3=>
 znv ((⟨0,0,0⟩:Arr3_3),(⟨v1,v2,v3⟩:Arr3_3))
theorem file_spots_ok {row bits r}(hF:zri row bits=some r):Pe Tryz.prog 153 S.none [.str row,.i bits] (.agg (c_Arr3_3 r)) S.none:=by
 refine PT 28 [.cell 4 174] [174] Tryz.func153 ?_
 intro Q g hfin
 unfold zri at hF
 refine LR0 ?_
 have⟨h0,hF⟩:=aE hF
 have⟨x,h1,hF⟩:=oE hF
 refine RJ (.g (bof_ok h0) (.b (zow h1) .z)) ?_
 refine LR0 ?_
 refine LR0 ?_
 refine NmS (fun v=>znv v=some r) (fun Z v=>Z.up [4,6] [4,6] [] [] [] [(4,(c_Arr3_3 v.1)),(6,(c_Arr3_3 v.2))] [] []) ?_ ?_
 ·refine zb5 ?_
  refine Wk_unroll 9 ?_
  refine Nagain ?_
  refine LR0 ?_
  refine Ntrue (by kernel_rfl) ?_
  refine zb5 ?_
  refine LR0 ?_
  have⟨h2,hF⟩:=aE hF
  refine NRL (Int.tmod (w64 ((Int.tmod (w64 x) 65536)+(w64 (0*(w64 (Int.tdiv (w64 x) 65536)))))) bits) (fun v1:Int=>([],[(6,[.i v1,.i 0,.i 0])],[],[])) [] [1,4,5,6,12] [4,6] [] [] (hc (by decide:(65536:Int)≠0) (hc (by decide:(65536:Int)≠0) (hc h2 (hc (⟨by decide,by decide⟩:(0:Int)<=0/\(0:Int)<((3:Nat):Int)) .nil)))) (fun v1 hv=>?_)
  have hF:=zeg hF hv
  refine LR0 ?_
  refine Nagain ?_
  refine LR0 ?_
  refine Ntrue (by kernel_rfl) ?_
  refine zb5 ?_
  refine LR0 ?_
  have⟨h3,hF⟩:=aE hF
  refine NRL (Int.tmod (w64 ((Int.tmod (w64 x) 65536)+(w64 (1*(w64 (Int.tdiv (w64 x) 65536)))))) bits) (fun v2:Int=>([],[(6,[.i v1,.i v2,.i 0])],[],[])) [] [1,4,5,6,12] [4,6] [] [] (hc (by decide:(65536:Int)≠0) (hc (by decide:(65536:Int)≠0) (hc h3 (hc (⟨by decide,by decide⟩:(0:Int)<=1/\(1:Int)<((3:Nat):Int)) .nil)))) (fun v2 hv=>?_)
  have hF:=zeg hF hv
  refine LR0 ?_
  refine Nagain ?_
  refine LR0 ?_
  refine Ntrue (by kernel_rfl) ?_
  refine zb5 ?_
  refine LR0 ?_
  have⟨h4,hF⟩:=aE hF
  refine NRL (Int.tmod (w64 ((Int.tmod (w64 x) 65536)+(w64 (2*(w64 (Int.tdiv (w64 x) 65536)))))) bits) (fun v3:Int=>([],[(6,[.i v1,.i v2,.i v3])],[],[])) [] [1,4,5,6,12] [4,6] [] [] (hc (by decide:(65536:Int)≠0) (hc (by decide:(65536:Int)≠0) (hc h4 (hc (⟨by decide,by decide⟩:(0:Int)<=2/\(2:Int)<((3:Nat):Int)) .nil)))) (fun v3 hv=>?_)
  have hF:=zeg hF hv
  refine LR0 ?_
  refine Nagain ?_
  refine LR0 ?_
  refine Nfalse (by kernel_rfl) ?_
  refine zbm rfl ?_
  exact ze4 ((⟨0,0,0⟩:Arr3_3),(⟨v1,v2,v3⟩:Arr3_3)) [] hF
 ·intro v hF
  unfold znv at hF
  refine LR0 ?_
  cases hF
  exact Wz [] hfin

/- file.filter -/
def zqo (v1:B8):Option B8:=
 some v1
def zm1 (v2:B8×Int)(v3:B8):Option ((B8×Int)⊕B8):=
 some (Sum.inl (v3,w64 (v2.2+1)))
def zfl (l:Cs)(v2:B8×Int):Option ((B8×Int)⊕B8):=
 if (decide (v2.2<(l.length:Int)))=true then
  zao (0<=v2.2/\v2.2<(l.length:Int)) <|
  ob (zri ((zad l v2.2).Row) (w64 (8*(v2.1.length:Int)))) fun x=>
  zao (0<=w64 (Int.tdiv x.p0 8)/\w64 (Int.tdiv x.p0 8)<(v2.1.length:Int)) <|
  zao (0<=w64 (Int.tdiv x.p0 8)/\w64 (Int.tdiv x.p0 8)<(v2.1.length:Int)) <|
  zao (0<=(Int.tmod x.p0 8)) <|
  zao (0<=w64 (Int.tdiv x.p0 8)/\w64 (Int.tdiv x.p0 8)<(v2.1.length:Int)) <|
  zao (0<=w64 (Int.tdiv x.p0 8)/\w64 (Int.tdiv x.p0 8)<(v2.1.length:Int)) <|
  lt ((zem v2.1 (w64 (Int.tdiv x.p0 8)) (zew (((BitVec.ofInt 8 ((zad v2.1 (w64 (Int.tdiv x.p0 8))).toNat:Int) ||| BitVec.ofInt 8 ((zew (((1:UInt8).toNat:Int)*2 ^ (min (Int.tmod x.p0 8).toNat 8))).toNat:Int)).toNat:Int))))) fun v4=>
  zao (0<=w64 (Int.tdiv x.p1 8)/\w64 (Int.tdiv x.p1 8)<(v4.length:Int)) <|
  zao (0<=w64 (Int.tdiv x.p1 8)/\w64 (Int.tdiv x.p1 8)<(v4.length:Int)) <|
  zao (0<=(Int.tmod x.p1 8)) <|
  zao (0<=w64 (Int.tdiv x.p1 8)/\w64 (Int.tdiv x.p1 8)<(v4.length:Int)) <|
  zao (0<=w64 (Int.tdiv x.p1 8)/\w64 (Int.tdiv x.p1 8)<(v4.length:Int)) <|
  lt ((zem v4 (w64 (Int.tdiv x.p1 8)) (zew (((BitVec.ofInt 8 ((zad v4 (w64 (Int.tdiv x.p1 8))).toNat:Int) ||| BitVec.ofInt 8 ((zew (((1:UInt8).toNat:Int)*2 ^ (min (Int.tmod x.p1 8).toNat 8))).toNat:Int)).toNat:Int))))) fun v5=>
  zao (0<=w64 (Int.tdiv x.p2 8)/\w64 (Int.tdiv x.p2 8)<(v5.length:Int)) <|
  zao (0<=w64 (Int.tdiv x.p2 8)/\w64 (Int.tdiv x.p2 8)<(v5.length:Int)) <|
  zao (0<=(Int.tmod x.p2 8)) <|
  zao (0<=w64 (Int.tdiv x.p2 8)/\w64 (Int.tdiv x.p2 8)<(v5.length:Int)) <|
  zao (0<=w64 (Int.tdiv x.p2 8)/\w64 (Int.tdiv x.p2 8)<(v5.length:Int)) <|
  lt ((zem v5 (w64 (Int.tdiv x.p2 8)) (zew (((BitVec.ofInt 8 ((zad v5 (w64 (Int.tdiv x.p2 8))).toNat:Int) ||| BitVec.ofInt 8 ((zew (((1:UInt8).toNat:Int)*2 ^ (min (Int.tmod x.p2 8).toNat 8))).toNat:Int)).toNat:Int))))) fun v6=>
  zm1 v2 v6
 else
  zev (zqo v2.1)
def zqt (l:Cs)(v0:B8×Int):Option B8:=
 zbg (fun y=>zfl l y) v0
def zj0 (l:Cs)(v:Int):Option B8:=
 zao (0<=((max 1 v):Int)/\(max 1 v)<=(max 1 v)/\(max 1 v)*1<=140737488351232) <|
 zqt l ((List.replicate (max 1 v).toNat ((0:UInt8):UInt8)),0)
def zgv (l:Cs)(v7:Int×Int):Option ((Int×Int)⊕B8):=
 if (decide (v7.2<(l.length:Int)))=true then
  zao (0<=v7.2/\v7.2<(l.length:Int)) <|
  zao ((!(decide (v7.2=0)))=true->0<=w64 (v7.2 - 1)/\w64 (v7.2 - 1)<(l.length:Int)) <|
  ob (
   if ((decide (v7.2=0))||(!decide (((zad l v7.2).Row)=((zad l (w64 (v7.2 - 1))).Row))))=true then
    some (w64 (v7.1+1))
   else
    some v7.1) fun v8=>
  some (Sum.inl (v8,w64 (v7.2+1)))
 else
  zev (zj0 l v7.1)
def zqj (l:Cs)(v0:Int×Int):Option B8:=
 zbg (fun y=>zgv l y) v0
def zkn (l:Cs):Option B8:=
 zqj l (0,0)
theorem file_filter_ok {l r}(hF:zkn l=some r):Pe Tryz.prog 124 (.w []) [.sl 5 (l.map zab)] (.row 36 0) ⟨[],[],[(36,.o 5 1 0 (r.map zas))],[],[]⟩:=by
 refine PT 65 [.tmp 2] [22] Tryz.func124 ?_
 intro Q g hfin
 unfold zkn at hF
 refine LR0 ?_
 refine LR0 ?_
 refine RJ (.l zab l .z) ?_
 refine NmS (fun v=>zj0 l v=some r) (fun Z v=>Z.up [0,3] [] [] [] [(3,.i v)] [] [] []) ?_ ?_
 ·refine zb5 ?_
  unfold zqj at hF
  refine zoy hF [] (fun Z v7=>Z.up [0,3,11,12,13] [] [] [] [(3,.i v7.1),(13,.i v7.2)] [] [] []) ?_
  intro n1 v7 y1 hF ih1 dn1
  unfold zgv at hF
  refine LR0 ?_
  refine Nif hF ?_ ?_ <;> intro hb hF
  ·refine zb5 ?_
   have⟨h18,hF⟩:=aE hF
   refine RJ (.i zab h18 .z) ?_
   have⟨h19,hF⟩:=aE hF
   refine DJ (.a (.av (zab (zad l (w64 (v7.2 - 1))))) (.g (fun (ga0:(!(decide (v7.2=0)))=true)=>(zgi zab (h19 ga0))) .z)) ?_
   have⟨v8,hv,hF⟩:=oE hF
   refine NmT (fun Z=>Z.up [0,3,11,12,13] [] [] [] [(3,.i v8)] [] [] []) ?_ ?_
   ·have hF:=hv
    refine Nif hF ?_ ?_ <;> intro hb hF
    ·refine LR0 ?_
     cases hF
     exact zgt []
    ·cases hF
     exact zgt []
   ·refine LR0 ?_
    exact zgb [] hF ih1
  ·refine zbm rfl ?_
   have hF:=zaj hF dn1
   exact ze4 v7.1 [] hF
 ·intro v hF
  unfold zj0 at hF
  have⟨h0,hF⟩:=aE hF
  refine RJ (.a (.xs ((List.replicate (max 1 v).toNat ((0:UInt8):UInt8)).map zas)) (.g (mk_ok h0) (.g (rep_ok zas (max 1 v) ((0:UInt8):UInt8)) .z))) ?_
  refine RJ (.l zab l .z) ?_
  refine NmS (fun v1=>zqo v1=some r) (fun Z v1=>Z.up [6] [] [36] [] [] [] [(36,.o 5 1 0 (v1.map zas))] []) ?_ ?_
  ·refine zb5 ?_
   unfold zqt at hF
   refine zoy hF [] (fun Z v2=>Z.up [6,37,38,39] [] [36] [] [(39,.i v2.2)] [] [(36,.o 5 1 0 (v2.1.map zas))] []) ?_
   intro n1 v2 y1 hF ih1 dn1
   unfold zfl at hF
   refine LR0 ?_
   refine Nif hF ?_ ?_ <;> intro hb hF
   ·refine zb5 ?_
    have⟨h1,hF⟩:=aE hF
    refine RJ (.i zab h1 .z) ?_
    have⟨x,h2,hF⟩:=oE hF
    refine RJ (.l zas v2.1 (.b (file_spots_ok h2) .z)) ?_
    refine NmS (fun v3=>zm1 v2 v3=some y1) (fun Z v3=>Z.up [6,37,38,39] [] [36] [] [] [] [(36,.o 5 1 0 (v3.map zas))] []) ?_ ?_
    ·refine zb5 ?_
     refine Wk_unroll 9 ?_
     refine Nagain ?_
     refine LR0 ?_
     refine Ntrue (by kernel_rfl) ?_
     refine zb5 ?_
     refine RJ (.g (⟨by decide,by decide⟩:(0:Int)<=0/\(0:Int)<((3:Nat):Int)) .z) ?_
     have⟨h3,h4,h5,h6,hF⟩:=zla hF
     have⟨h7,hF⟩:=aE hF
     have⟨v4,hv,hF⟩:=lS hF
     refine DJ (.g (by decide:(8:Int)≠0) (.x zas h3 (.r zas h4 (.g (by decide:(8:Int)≠0) (.g h5 (.x zas h6 (.wN zas h7 hv .z))))))) ?_
     refine LR0 ?_
     refine Nagain ?_
     refine LR0 ?_
     refine Ntrue (by kernel_rfl) ?_
     refine zb5 ?_
     refine RJ (.g (⟨by decide,by decide⟩:(0:Int)<=1/\(1:Int)<((3:Nat):Int)) .z) ?_
     have⟨h8,h9,h10,h11,hF⟩:=zla hF
     have⟨h12,hF⟩:=aE hF
     have⟨v5,hv,hF⟩:=lS hF
     refine DJ (.g (by decide:(8:Int)≠0) (.x zas h8 (.r zas h9 (.g (by decide:(8:Int)≠0) (.g h10 (.x zas h11 (.wN zas h12 hv .z))))))) ?_
     refine LR0 ?_
     refine Nagain ?_
     refine LR0 ?_
     refine Ntrue (by kernel_rfl) ?_
     refine zb5 ?_
     refine RJ (.g (⟨by decide,by decide⟩:(0:Int)<=2/\(2:Int)<((3:Nat):Int)) .z) ?_
     have⟨h13,h14,h15,h16,hF⟩:=zla hF
     have⟨h17,hF⟩:=aE hF
     have⟨v6,hv,hF⟩:=lS hF
     refine DJ (.g (by decide:(8:Int)≠0) (.x zas h13 (.r zas h14 (.g (by decide:(8:Int)≠0) (.g h15 (.x zas h16 (.wN zas h17 hv .z))))))) ?_
     refine LR0 ?_
     refine Nagain ?_
     refine LR0 ?_
     refine Nfalse (by kernel_rfl) ?_
     refine zbm rfl ?_
     exact ze4 v6 [] hF
    ·intro v3 hF
     unfold zm1 at hF
     refine LR0 ?_
     exact zgb [] hF ih1
   ·refine zbm rfl ?_
    have hF:=zaj hF dn1
    exact ze4 v2.1 [] hF
  ·intro v1 hF
   unfold zqo at hF
   refine LR0 ?_
   cases hF
   exact Wz [] hfin

/- file.Open -/
def zpp (b:B8):Option (Cs×Fault):=
 ob (zpb b) fun x=>
 if (!decide (x.2.2.Code=0))=true then
  some (([]:Cs),x.2.2)
 else
  zao (x.1=true) <|
  ob (zfq x.2.1.bodies x.2.1.rows x.2.1.filter 0 (x.2.1.bodies.length:Int)) fun x1=>
  if ((!x1.2)||(decide (500<(x1.1.length:Int))))=true then
   lt (zg2 5 2) fun x2=>
   some (([]:Cs),x2)
  else
   ob (zkn x1.1) fun x3=>
   ob (zdd x3 x.2.1.filter) fun x4=>
   if (!x4)=true then
    lt (zg2 5 3) fun x5=>
    some (([]:Cs),x5)
   else
    some (x1.1,x.2.2)
theorem file_Open_ok {b r}(hF:zpp b=some r):Pe Tryz.prog 130 (.w []) [.sl 1 (b.map zas)] (.tup [.row 24 0,.agg (zae r.2)]) ⟨[],[],[(24,⟨53,5,0,(r.1.map zab).length,0,true,0,[],(r.1.map zab)⟩)],[],[]⟩:=by
 refine PT 46 [.tmp 2,.cell 3 35] [28,35] Tryz.func130 ?_
 intro Q g hfin
 unfold zpp at hF
 refine LR0 ?_
 have⟨x,h0,hF⟩:=oE hF
 refine RJ (.c (file_open_ok h0) .z) ?_
 refine VR [] [3,4,5,15] [3,5] [] [] [(3,.ptr 3 0),(4,.popt x.1 (.rp (.agg (zp0 x.2.1)))),(5,.ptr 5 0),(15,.bool (!decide (x.2.2.Code=0)))] [(3,[.i 0,.i 0]),(5,(zae x.2.2))] [] [] .nil ?_
 refine Nif hF ?_ ?_ <;> intro hb hF
 ·refine VD [] [2,3] [3] [] [] [(2,.nils),(3,.ptr 3 0)] [(3,(zae x.2.2))] [] [] .nil ?_
  cases hF
  refine zap 2 60000 53 5 rfl rfl rfl ?_
  refine zau ⟨[],[(60000,24)],[],[]⟩ rfl ?_
  exact Wz [(24,⟨0,true,true,true⟩)] hfin
 ·have⟨h1,hF⟩:=aE hF
  refine Wk_coe 4 (.rp (.agg (zp0 x.2.1))) rfl (.cell rfl (CoeS.unp h1)) ?_
  have⟨x1,h2,hF⟩:=oE hF
  have p3:=(Pe.ren (file_opened_cells_ok h2) ⟨[],[(53,24)],[],[]⟩)
  refine RJ (.l zaf x.2.1.bodies (.e [] [] p3 .z)) ?_
  refine RJ (.a (.nat (x1.1.length:Int)) (.g (fun (_:(!(!x1.2))=true)=>(zc5 zab x1.1)) .z)) ?_
  refine Nif hF ?_ ?_ <;> intro hb hF
  ·have⟨x2,h4,hF⟩:=lS hF
   refine VR [.callB (.agg (zae x2))] [2,3] [3] [] [] [(2,.nils),(3,.ptr 3 0)] [(3,(zae x2))] [] [] (hc (zfj h4) .nil) ?_
   cases hF
   refine zap 2 60001 53 5 rfl rfl rfl ?_
   refine zau ⟨[],[(60001,24)],[],[]⟩ rfl ?_
   exact Wz [(24,⟨0,true,true,true⟩)] hfin
  ·have⟨x3,h5,hF⟩:=oE hF
   have p6:=(Pe.ren (file_filter_ok h5) ⟨[],[],[],[]⟩)
   have⟨x4,h7,hF⟩:=oE hF
   refine DJ (.e [] [] p6 (.b (zgp h7) .z)) ?_
   refine Nif hF ?_ ?_ <;> intro hb hF
   ·have⟨x5,h8,hF⟩:=lS hF
    refine VR [.callB (.agg (zae x5))] [2,3] [3] [] [] [(2,.nils),(3,.ptr 3 0)] [(3,(zae x5))] [] [] (hc (zfj h8) .nil) ?_
    cases hF
    refine zap 2 60002 53 5 rfl rfl rfl ?_
    refine zau ⟨[],[(60002,24)],[],[]⟩ rfl ?_
    exact Wz [(24,⟨0,true,true,true⟩)] hfin
   ·refine LD0 ?_
    cases hF
    exact Wz [] hfin

/- (*tablet.tab).fill$1 -/
def zjk (num:Note)(box:B8)(box1:Int)(box2:B9)(box3 box4 box5:Int)(row:List Note)(row1:List Cs):Bool:=
 decide (box3<num.Seq)
theorem tablet_tab_fill_1_ok (rk rc:Nat)(rn:Bool)(rk1 rc1:Nat)(rn1:Bool){num box box1 box2 box3 box4 box5 row row1 r}(hF:zjk num box box1 box2 box3 box4 box5 row row1=r):Pe Tryz.prog 115 ⟨[],[(100000,[.ptr 100001 0]),(100001,[.sl 1 (box.map zas),.i box1,.sl 1 (box2.map zaf),.i box3,.i box4,.row 100000 0,.i box5,.nils,.row 100001 0])],[(100000,.q 50 2 0 rk rc rn (row.map zar)),(100001,.q 28 1 0 rk1 rc1 rn1 (row1.map zal))],[],[]⟩ [.agg (c_Note num),.ptr 100000 0] (.bool r) ⟨[],[(100000,[.ptr 100001 0]),(100001,[.sl 1 (box.map zas),.i box1,.sl 1 (box2.map zaf),.i box3,.i box4,.row 100000 0,.i box5,.nils,.row 100001 0])],[(100000,.q 50 2 0 rk rc rn (row.map zar)),(100001,.q 28 1 0 rk1 rc1 rn1 (row1.map zal))],[],[]⟩:=by
 refine PT 12 [.tmp 3] [4] Tryz.func115 ?_
 intro Q g hfin
 unfold zjk at hF
 refine LR0 ?_
 refine LD0 ?_
 cases hF
 exact Wz [] hfin

/- slices.IndexFunc[[]api.Note,api.Note] -/
def zdt (v:Unit):Option Int:=
 some (-1)
def zbt (box:B8)(box1:Int)(box2:B9)(box3 box4 box5:Int)(row:List Note)(row1:List Cs)(v1:Int):Option (Int⊕Int):=
 if (decide (v1<(row.length:Int)))=true then
  zao (0<=v1/\v1<(row.length:Int)) <|
  zao (0<=v1/\v1<(row.length:Int)) <|
  lt (zjk (⟨(zad row v1).Seq,(zad row v1).Cells⟩:Note) box box1 box2 box3 box4 box5 row row1) fun x=>
  if x=true then
   some (Sum.inr v1)
  else
   some (Sum.inl (w64 (v1+1)))
 else
  zev (zdt ())
def zdr (box:B8)(box1:Int)(box2:B9)(box3 box4 box5:Int)(row:List Note)(row1:List Cs)(v0:Int):Option Int:=
 zbg (fun y=>zbt box box1 box2 box3 box4 box5 row row1 y) v0
def zda (box:B8)(box1:Int)(box2:B9)(box3 box4 box5:Int)(row:List Note)(row1:List Cs):Option Int:=
 zdr box box1 box2 box3 box4 box5 row row1 0
theorem zjs (rk rc:Nat)(rn:Bool)(rk1 rc1:Nat)(rn1:Bool){box box1 box2 box3 box4 box5 row row1 r}(hF:zda box box1 box2 box3 box4 box5 row row1=some r):Pe Tryz.prog 114 ⟨[],[(100000,[.ptr 100001 0]),(100001,[.sl 1 (box.map zas),.i box1,.sl 1 (box2.map zaf),.i box3,.i box4,.row 100000 0,.i box5,.nils,.row 100001 0])],[(100000,.q 50 2 0 rk rc rn (row.map zar)),(100001,.q 28 1 0 rk1 rc1 rn1 (row1.map zal))],[],[]⟩ [.row 100000 0,.fn 115 [.ptr 100000 0]] (.i r) ⟨[],[(100000,[.ptr 100001 0]),(100001,[.sl 1 (box.map zas),.i box1,.sl 1 (box2.map zaf),.i box3,.i box4,.row 100000 0,.i box5,.nils,.row 100001 0])],[(100000,.q 50 2 0 rk rc rn (row.map zar)),(100001,.q 28 1 0 rk1 rc1 rn1 (row1.map zal))],[],[]⟩:=by
 refine PT 19 [.tmp 4] [3] Tryz.func114 ?_
 intro Q g hfin
 unfold zda at hF
 refine LR0 ?_
 refine RJ (.l zar row .z) ?_
 refine NmS (fun v=>zdt v=some r) (fun Z v=>Z.up [] [100000,100001] [100000,100001] [] [] [] [] []) ?_ ?_
 ·refine zb5 ?_
  unfold zdr at hF
  refine zoy hF [] (fun Z v1=>Z.up [0,1,7,8] [100000,100001] [100000,100001] [] [(8,.i v1)] [] [] []) ?_
  intro n1 v1 y1 hF ih1 dn1
  unfold zbt at hF
  refine LR0 ?_
  refine Nif hF ?_ ?_ <;> intro hb hF
  ·refine zb5 ?_
   refine LR0 ?_
   have⟨h0,h1,hF⟩:=zf7 hF
   have⟨x,h2,hF⟩:=lS hF
   refine RJ (.x zar h0 (.r zar h1 (.q [100000,100001] [100000,100001] (Pe.ren (tablet_tab_fill_1_ok rk rc rn rk1 rc1 rn1 h2) ⟨[],[],[],[]⟩) .z))) ?_
   refine Nif hF ?_ ?_ <;> intro hb hF
   ·refine LR0 ?_
    have hF:=zcr hF dn1
    cases hF
    exact Wz [] hfin
   ·refine LR0 ?_
    exact zgb [] hF ih1
  ·refine zbm rfl ?_
   have hF:=zaj hF dn1
   exact ze4 () [] hF
 ·intro v hF
  unfold zdt at hF
  refine LR0 ?_
  cases hF
  exact Wz [] hfin

/- slices.Grow[[]api.Cell,api.Cell] -/
def zci (num:Int):Option Cs:=
 ob (
  if (decide (num<0))=true then
   none
  else
   some ()) fun v=>
 ob (
  if (decide (0<(w64 (num - (w64 (0 - 0))))))=true then
   zao (0<=(w64 (num - (w64 (0 - 0))))/\(w64 (num - (w64 (0 - 0)))).toNat*64<=140737488351232) <|
   zao (0<=(0:Int)/\(0:Int)<=((List.replicate (w64 (num - (w64 (0 - 0)))).toNat ((⟨([]:B8),([]:B8),0,false,([]:B8)⟩:Cell):Cell)).length:Int)) <|
   lt ((List.replicate (w64 (num - (w64 (0 - 0)))).toNat ((⟨([]:B8),([]:B8),0,false,([]:B8)⟩:Cell):Cell))) fun (v2:Cs)=>
   zao (((0:Int).toNat)<=v2.length) <|
   some (v2.take ((0:Int).toNat))
  else
   some ([]:Cs)) fun (v1:Cs)=>
 some v1
theorem zkk {num r}(hF:zci num=some r):Pe Tryz.prog 170 (.w []) [.nils,.i num] (.row 22 0) ⟨[],[],[(22,.o 53 5 0 (r.map zab))],[],[]⟩:=by
 refine PT 27 [.tmp 4] [28] Tryz.func170 ?_
 intro Q g hfin
 unfold zci at hF
 refine LR0 ?_
 refine LR0 ?_
 have⟨v,hv,hF⟩:=oE hF
 refine NmT (fun Z=>Z.up [0,1] [] [] [] [] [] [] []) ?_ ?_
 ·have hF:=hv
  refine Nif hF ?_ ?_ <;> intro hb hF
  ·cases hF
  ·cases hF
   exact zgt []
 ·refine LR0 ?_
  refine NR [] [0,1,16] [] [] [(0,.nils),(1,.i (w64 (num - (w64 (0 - 0))))),(16,.bool (decide (0<(w64 (num - (w64 (0 - 0)))))))] .nil ?_
  have⟨v1,hv,hF⟩:=oE hF
  refine Nmeet (⟨[(0,.row 22 0)],[],[(22,.o 53 5 0 (v1.map zab))],[],[]⟩:S) ?_ ?_
  ·have hF:=hv
   refine Nif hF ?_ ?_ <;> intro hb hF
   ·have⟨h0,hF⟩:=aE hF
    have⟨h1,hF⟩:=aE hF
    refine NRL ((List.replicate (w64 (num - (w64 (0 - 0)))).toNat ((⟨([]:B8),([]:B8),0,false,([]:B8)⟩:Cell):Cell))) (fun v2:Cs=>([(0,.rowv 22 0 0 ((0:Int).toNat))],[],[(22,.z 53 5 0 (v2.map zab))],[])) [.xs ((List.replicate (w64 (num - (w64 (0 - 0)))).toNat ((⟨([]:B8),([]:B8),0,false,([]:B8)⟩:Cell):Cell)).map zab),.vw ((0:Int).toNat)] [0] [] [22] [] (hc (rfl:(0:Int)=0) (hc h0 (hc (rep_ok zab (w64 (num - (w64 (0 - 0)))) ((⟨([]:B8),([]:B8),0,false,([]:B8)⟩:Cell):Cell)) (hc (vw01_ok (cm:=0) zab h1) .nil)))) (fun v2 hv=>?_)
    have hF:=zeg hF hv
    have⟨h2,hF⟩:=aE hF
    refine Wk_truncL 0 22 0 ((0:Int).toNat) ((v2.take ((0:Int).toNat)).map zab) rfl rfl rfl rfl (tk_ok zab h2).1 (xa2 _) (xcz).symm ?_
    cases hF
    exact zgt [(22,⟨0,false,true,false⟩)]
   ·refine zap 0 60000 53 5 rfl rfl rfl ?_
    refine zcj (fs:=[0]) (bs:=[]) (rs:=[60000]) (ms:=[]) (aa:=[]) (nv:=[]) rfl ?_
    refine zau ⟨[],[(60000,22)],[],[]⟩ rfl ?_
    cases hF
    exact zgt [(22,⟨0,true,false,false⟩)]
  ·refine LR0 ?_
   cases hF
   exact Wz [] hfin

/- slices.Concat[[]api.Cell,api.Cell] -/
def zdc (v1:Cs):Option Cs:=
 some v1
def zdb (slices:List Cs)(v2:Cs×Int):Option ((Cs×Int)⊕Cs):=
 if (decide (v2.2<(slices.length:Int)))=true then
  zao (0<=v2.2/\v2.2<(slices.length:Int)) <|
  zao (((v2.1++(zad slices v2.2)).length:Int)*64<=140737488351232) <|
  some (Sum.inl ((v2.1++(zad slices v2.2)),w64 (v2.2+1)))
 else
  zev (zdc v2.1)
def zc9 (slices:List Cs)(v0:Cs×Int):Option Cs:=
 zbg (fun y=>zdb slices y) v0
def zc8 (slices:List Cs)(v:Int):Option Cs:=
 ob (zci v) fun x=>
 zc9 slices (x,0)
def zb7 (slices:List Cs)(v3:Int×Int):Option ((Int×Int)⊕Cs):=
 if (decide (v3.2<(slices.length:Int)))=true then
  zao (0<=v3.2/\v3.2<(slices.length:Int)) <|
  ob (
   if (decide ((w64 (v3.1+((zad slices v3.2).length:Int)))<0))=true then
    none
   else
    some ()) fun v4=>
  some (Sum.inl (w64 (v3.1+((zad slices v3.2).length:Int)),w64 (v3.2+1)))
 else
  zev (zc8 slices v3.1)
def zef (slices:List Cs)(v0:Int×Int):Option Cs:=
 zbg (fun y=>zb7 slices y) v0
def zdn (slices:List Cs):Option Cs:=
 zef slices (0,0)
theorem zkz {slices r}(hF:zdn slices=some r):Pe Tryz.prog 157 (.w []) [.sl 1 (slices.map zal)] (.row 24 0) ⟨[],[],[(24,.o 53 5 0 (r.map zab))],[],[]⟩:=by
 refine PT 36 [.tmp 2] [28] Tryz.func157 ?_
 intro Q g hfin
 unfold zdn at hF
 refine LR0 ?_
 refine LR0 ?_
 refine RJ (.l zal slices .z) ?_
 refine NmS (fun v=>zc8 slices v=some r) (fun Z v=>Z.up [0,3] [] [] [] [(3,.i v)] [] [] []) ?_ ?_
 ·refine zb5 ?_
  unfold zef at hF
  refine zoy hF [] (fun Z v3=>Z.up [0,3,9,10,11] [] [] [] [(3,.i v3.1),(11,.i v3.2)] [] [] []) ?_
  intro n1 v3 y1 hF ih1 dn1
  unfold zb7 at hF
  refine LR0 ?_
  refine Nif hF ?_ ?_ <;> intro hb hF
  ·refine zb5 ?_
   have⟨h4,hF⟩:=aE hF
   refine RJ (.i zal h4 .z) ?_
   refine RJ (.l zab (zad slices v3.2) .z) ?_
   refine LR0 ?_
   have⟨v4,hv,hF⟩:=oE hF
   refine NmT (fun Z=>Z.up [0,3,9,10,11] [] [] [] [] [] [] []) ?_ ?_
   ·have hF:=hv
    refine Nif hF ?_ ?_ <;> intro hb hF
    ·cases hF
    ·cases hF
     exact zgt []
   ·refine LR0 ?_
    exact zgb [] hF ih1
  ·refine zbm rfl ?_
   have hF:=zaj hF dn1
   exact ze4 v3.1 [] hF
 ·intro v hF
  unfold zc8 at hF
  have⟨x,h0,hF⟩:=oE hF
  have p1:=(Pe.ren (zkk h0) ⟨[],[(22,24)],[],[]⟩)
  refine RJ (.a (.raw [0]) (.a (cE [] [] [] [] p1) (.g p1 .z))) ?_
  refine RJ (.l zal slices .z) ?_
  refine NmS (fun v1=>zdc v1=some r) (fun Z v1=>Z.up [6] [] [24] [] [] [] [(24,.o 53 5 0 (v1.map zab))] []) ?_ ?_
  ·refine zb5 ?_
   unfold zc9 at hF
   refine zoy hF [] (fun Z v2=>Z.up [6,25,26,27] [] [24] [] [(27,.i v2.2)] [] [(24,.o 53 5 0 (v2.1.map zab))] []) ?_
   intro n1 v2 y1 hF ih1 dn1
   unfold zdb at hF
   refine LR0 ?_
   refine Nif hF ?_ ?_ <;> intro hb hF
   ·refine zb5 ?_
    have⟨h2,hF⟩:=aE hF
    refine RJ (.i zal h2 .z) ?_
    have⟨h3,hF⟩:=aE hF
    refine RJ (.p zab h3 .z) ?_
    refine LR0 ?_
    exact zgb [(24,⟨0,true,true,false⟩)] hF ih1
   ·refine zbm rfl ?_
    have hF:=zaj hF dn1
    exact ze4 v2.1 [] hF
  ·intro v1 hF
   unfold zdc at hF
   refine LR0 ?_
   cases hF
   exact Wz [] hfin

/- slices.insertionSortCmpFunc[api.Cell] -/
def zc3 (v:Cs):Option Cs:=
 some v
def zc2 (v1:Cs×Int)(v2:Cs):Option ((Cs×Int)⊕Cs):=
 some (Sum.inl (v2,w64 (v1.2+1)))
def zba (a0:Int)(v1 v3:Cs×Int):Option ((Cs×Int)⊕((Cs×Int)⊕Cs)):=
 zao ((decide (a0<v3.2))=true->0<=v3.2/\v3.2<(v3.1.length:Int)) <|
 zao ((decide (a0<v3.2))=true->0<=v3.2/\v3.2<(v3.1.length:Int)) <|
 zao ((decide (a0<v3.2))=true->0<=w64 (v3.2 - 1)/\w64 (v3.2 - 1)<(v3.1.length:Int)) <|
 zao ((decide (a0<v3.2))=true->0<=w64 (v3.2 - 1)/\w64 (v3.2 - 1)<(v3.1.length:Int)) <|
 ob (if (decide (a0<v3.2))=true then (zge (⟨(zad v3.1 v3.2).Row,(zad v3.1 v3.2).Col,(zad v3.1 v3.2).Time,(zad v3.1 v3.2).Gone,(zad v3.1 v3.2).Value⟩:Cell) (⟨(zad v3.1 (w64 (v3.2 - 1))).Row,(zad v3.1 (w64 (v3.2 - 1))).Col,(zad v3.1 (w64 (v3.2 - 1))).Time,(zad v3.1 (w64 (v3.2 - 1))).Gone,(zad v3.1 (w64 (v3.2 - 1))).Value⟩:Cell)) else some default) fun x=>
 if ((decide (a0<v3.2))&&(decide (x<0)))=true then
  zao (0<=w64 (v3.2 - 1)/\w64 (v3.2 - 1)<(v3.1.length:Int)) <|
  zao (0<=w64 (v3.2 - 1)/\w64 (v3.2 - 1)<(v3.1.length:Int)) <|
  zao (0<=v3.2/\v3.2<(v3.1.length:Int)) <|
  zao (0<=v3.2/\v3.2<(v3.1.length:Int)) <|
  zao (0<=v3.2/\v3.2<(v3.1.length:Int)) <|
  zao (0<=v3.2/\v3.2<(v3.1.length:Int)) <|
  zao (0<=w64 (v3.2 - 1)/\w64 (v3.2 - 1)<((zem v3.1 v3.2 (⟨(zad v3.1 (w64 (v3.2 - 1))).Row,(zad v3.1 (w64 (v3.2 - 1))).Col,(zad v3.1 (w64 (v3.2 - 1))).Time,(zad v3.1 (w64 (v3.2 - 1))).Gone,(zad v3.1 (w64 (v3.2 - 1))).Value⟩:Cell)).length:Int)) <|
  zao (0<=w64 (v3.2 - 1)/\w64 (v3.2 - 1)<((zem v3.1 v3.2 (⟨(zad v3.1 (w64 (v3.2 - 1))).Row,(zad v3.1 (w64 (v3.2 - 1))).Col,(zad v3.1 (w64 (v3.2 - 1))).Time,(zad v3.1 (w64 (v3.2 - 1))).Gone,(zad v3.1 (w64 (v3.2 - 1))).Value⟩:Cell)).length:Int)) <|
  lt ((zem (zem v3.1 v3.2 (⟨(zad v3.1 (w64 (v3.2 - 1))).Row,(zad v3.1 (w64 (v3.2 - 1))).Col,(zad v3.1 (w64 (v3.2 - 1))).Time,(zad v3.1 (w64 (v3.2 - 1))).Gone,(zad v3.1 (w64 (v3.2 - 1))).Value⟩:Cell)) (w64 (v3.2 - 1)) (⟨(zad v3.1 v3.2).Row,(zad v3.1 v3.2).Col,(zad v3.1 v3.2).Time,(zad v3.1 v3.2).Gone,(zad v3.1 v3.2).Value⟩:Cell))) fun v4=>
  some (Sum.inl (v4,w64 (v3.2 - 1)))
 else
  zev (zc2 v1 v3.1)
def zc6 (a0:Int)(v1 v0:Cs×Int):Option ((Cs×Int)⊕Cs):=
 zbg (fun y=>zba a0 v1 y) v0
def zbb (a0 b:Int)(v1:Cs×Int):Option ((Cs×Int)⊕Cs):=
 if (decide (v1.2<b))=true then
  zc6 a0 v1 (v1.1,v1.2)
 else
  zev (zc3 v1.1)
def zbx (a0 b:Int)(v0:Cs×Int):Option Cs:=
 zbg (fun y=>zbb a0 b y) v0
def za7 (a0 b:Int)(row:Cs):Option Cs:=
 zbx a0 b (row,w64 (a0+1))
theorem zen (rk rc:Nat)(rn:Bool){a0 b row r}(hF:za7 a0 b row=some r):Pe Tryz.prog 177 (.w [(100000,.q 53 5 0 0 rc rn (row.map zab))]) [.row 100000 0,.i a0,.i b,.fn 136 []] (.tup []) (.w [(100000,.q 53 5 0 0 rc rn (r.map zab))]):=by
 refine PT 53 [] [] Tryz.func177 ?_
 intro Q g hfin
 unfold za7 at hF
 refine LR0 ?_
 refine NmQ (fun v=>zc3 v=some r) (fun v=>(.w [(100000,.q 53 5 0 0 rc rn (v.map zab))])) ?_ ?_
 ·refine zb5 ?_
  unfold zbx at hF
  refine zoy hF [] (fun Z v1=>Z.up [0,1,2,3,8] [] [100000] [] [(8,.i v1.2)] [] [(100000,.q 53 5 0 0 rc rn (v1.1.map zab))] []) ?_
  intro n1 v1 y1 hF ih1 dn1
  unfold zbb at hF
  refine LR0 ?_
  refine Nif hF ?_ ?_ <;> intro hb hF
  ·refine zb5 ?_
   refine LR0 ?_
   refine NmS (fun v2=>zc2 v1 v2=some y1) (fun Z v2=>Z.up [0,1,2,3,8] [] [100000] [] [] [] [(100000,.q 53 5 0 0 rc rn (v2.map zab))] []) ?_ ?_
   ·refine zb5 ?_
    unfold zc6 at hF
    refine zoy hF [] (fun Z v3=>Z.up [0,1,2,3,8,9] [] [100000] [] [(9,.i v3.2)] [] [(100000,.q 53 5 0 0 rc rn (v3.1.map zab))] []) ?_
    intro n2 v3 y2 hF ih2 dn2
    unfold zba at hF
    have⟨h0,h1,h2,h3,hF⟩:=zla hF
    have⟨x,h4,hF⟩:=oE hF
    refine DJ (.g (fun (ga0:(decide (a0<v3.2))=true)=>(zf4 zab (h0 ga0))) (.a (.av (zab (zad v3.1 v3.2))) (.g (fun (ga0:(decide (a0<v3.2))=true)=>(zec zab (h1 ga0))) (.g (fun (ga0:(decide (a0<v3.2))=true)=>(zf4 zab (h2 ga0))) (.a (.av (zab (zad v3.1 (w64 (v3.2 - 1))))) (.g (fun (ga0:(decide (a0<v3.2))=true)=>(zec zab (h3 ga0))) (.a (.callB (.i x)) (.g (fun (ga0:(decide (a0<v3.2))=true)=>(zgn (ite_t h4 ga0))) .z)))))))) ?_
    refine Nif hF ?_ ?_ <;> intro hb hF
    ·refine zb5 ?_
     have⟨h5,h6,h7,h8,hF⟩:=zla hF
     have⟨h9,h10,h11,h12,hF⟩:=zla hF
     have⟨v4,hv,hF⟩:=lS hF
     refine DJ (.x zab h5 (.r zab h6 (.x zab h7 (.r zab h8 (.x zab h9 (.w zab h10 (⟨(zad v3.1 (w64 (v3.2 - 1))).Row,(zad v3.1 (w64 (v3.2 - 1))).Col,(zad v3.1 (w64 (v3.2 - 1))).Time,(zad v3.1 (w64 (v3.2 - 1))).Gone,(zad v3.1 (w64 (v3.2 - 1))).Value⟩:Cell) (.x zab h11 (.wN zab h12 hv .z)))))))) ?_
     refine LR0 ?_
     exact zgb [] hF ih2
    ·refine zbm rfl ?_
     have hF:=zaj hF dn2
     exact ze4 v3.1 [] hF
   ·intro v2 hF
    unfold zc2 at hF
    refine LR0 ?_
    exact zgb [] hF ih1
  ·refine zbm rfl ?_
   have hF:=zaj hF dn1
   exact ze4 v1.1 [] hF
 ·intro v hF
  unfold zc3 at hF
  cases hF
  exact Wk_end (hfin _ ⟨[100000],[],[100000],[],[],[],by kernel_rfl⟩)

/- slices.swapRangeCmpFunc[api.Cell] -/
def zdo (v:Cs):Option Cs:=
 some v
def zch (a0 b num:Int)(v1:Cs×Int):Option ((Cs×Int)⊕Cs):=
 if (decide (v1.2<num))=true then
  zao (0<=w64 (b+v1.2)/\w64 (b+v1.2)<(v1.1.length:Int)) <|
  zao (0<=w64 (b+v1.2)/\w64 (b+v1.2)<(v1.1.length:Int)) <|
  zao (0<=w64 (a0+v1.2)/\w64 (a0+v1.2)<(v1.1.length:Int)) <|
  zao (0<=w64 (a0+v1.2)/\w64 (a0+v1.2)<(v1.1.length:Int)) <|
  zao (0<=w64 (a0+v1.2)/\w64 (a0+v1.2)<(v1.1.length:Int)) <|
  zao (0<=w64 (a0+v1.2)/\w64 (a0+v1.2)<(v1.1.length:Int)) <|
  zao (0<=w64 (b+v1.2)/\w64 (b+v1.2)<((zem v1.1 (w64 (a0+v1.2)) (⟨(zad v1.1 (w64 (b+v1.2))).Row,(zad v1.1 (w64 (b+v1.2))).Col,(zad v1.1 (w64 (b+v1.2))).Time,(zad v1.1 (w64 (b+v1.2))).Gone,(zad v1.1 (w64 (b+v1.2))).Value⟩:Cell)).length:Int)) <|
  zao (0<=w64 (b+v1.2)/\w64 (b+v1.2)<((zem v1.1 (w64 (a0+v1.2)) (⟨(zad v1.1 (w64 (b+v1.2))).Row,(zad v1.1 (w64 (b+v1.2))).Col,(zad v1.1 (w64 (b+v1.2))).Time,(zad v1.1 (w64 (b+v1.2))).Gone,(zad v1.1 (w64 (b+v1.2))).Value⟩:Cell)).length:Int)) <|
  lt ((zem (zem v1.1 (w64 (a0+v1.2)) (⟨(zad v1.1 (w64 (b+v1.2))).Row,(zad v1.1 (w64 (b+v1.2))).Col,(zad v1.1 (w64 (b+v1.2))).Time,(zad v1.1 (w64 (b+v1.2))).Gone,(zad v1.1 (w64 (b+v1.2))).Value⟩:Cell)) (w64 (b+v1.2)) (⟨(zad v1.1 (w64 (a0+v1.2))).Row,(zad v1.1 (w64 (a0+v1.2))).Col,(zad v1.1 (w64 (a0+v1.2))).Time,(zad v1.1 (w64 (a0+v1.2))).Gone,(zad v1.1 (w64 (a0+v1.2))).Value⟩:Cell))) fun v2=>
  some (Sum.inl (v2,w64 (v1.2+1)))
 else
  zev (zdo v1.1)
def zdm (a0 b num:Int)(v0:Cs×Int):Option Cs:=
 zbg (fun y=>zch a0 b num y) v0
def za6 (a0 b num:Int)(row:Cs):Option Cs:=
 zdm a0 b num (row,0)
theorem zdl (rk rc:Nat)(rn:Bool){a0 b num row r}(hF:za6 a0 b num row=some r):Pe Tryz.prog 182 (.w [(100000,.q 53 5 0 0 rc rn (row.map zab))]) [.row 100000 0,.i a0,.i b,.i num,.fn 136 []] (.tup []) (.w [(100000,.q 53 5 0 0 rc rn (r.map zab))]):=by
 refine PT 38 [] [] Tryz.func182 ?_
 intro Q g hfin
 unfold za6 at hF
 refine LR0 ?_
 refine NmQ (fun v=>zdo v=some r) (fun v=>(.w [(100000,.q 53 5 0 0 rc rn (v.map zab))])) ?_ ?_
 ·refine zb5 ?_
  unfold zdm at hF
  refine zoy hF [] (fun Z v1=>Z.up [0,1,2,3,10] [] [100000] [] [(10,.i v1.2)] [] [(100000,.q 53 5 0 0 rc rn (v1.1.map zab))] []) ?_
  intro n1 v1 y1 hF ih1 dn1
  unfold zch at hF
  refine LR0 ?_
  refine Nif hF ?_ ?_ <;> intro hb hF
  ·refine zb5 ?_
   have⟨h0,h1,h2,h3,hF⟩:=zla hF
   have⟨h4,h5,h6,h7,hF⟩:=zla hF
   have⟨v2,hv,hF⟩:=lS hF
   refine DJ (.x zab h0 (.r zab h1 (.x zab h2 (.r zab h3 (.x zab h4 (.w zab h5 (⟨(zad v1.1 (w64 (b+v1.2))).Row,(zad v1.1 (w64 (b+v1.2))).Col,(zad v1.1 (w64 (b+v1.2))).Time,(zad v1.1 (w64 (b+v1.2))).Gone,(zad v1.1 (w64 (b+v1.2))).Value⟩:Cell) (.x zab h6 (.wN zab h7 hv .z)))))))) ?_
   refine LR0 ?_
   exact zgb [] hF ih1
  ·refine zbm rfl ?_
   have hF:=zaj hF dn1
   exact ze4 v1.1 [] hF
 ·intro v hF
  unfold zdo at hF
  cases hF
  exact Wk_end (hfin _ ⟨[100000],[],[100000],[],[],[],by kernel_rfl⟩)

/- slices.rotateCmpFunc[api.Cell] -/
def zc0 (m:Int)(v:Cs×Int):Option Cs:=
 ob (za6 (w64 (m - v.2)) m v.2 v.1) fun x=>
 some x
def zb1 (m:Int)(v1:Cs×Int×Int):Option ((Cs×Int×Int)⊕Cs):=
 if (!decide (v1.2.1=v1.2.2))=true then
  if (decide (v1.2.2<v1.2.1))=true then
   ob (za6 (w64 (m - v1.2.1)) m v1.2.2 v1.1) fun x1=>
   some (Sum.inl (x1,w64 (v1.2.1 - v1.2.2),v1.2.2))
  else
   ob (za6 (w64 (m - v1.2.1)) (w64 ((w64 (m+v1.2.2)) - v1.2.1)) v1.2.1 v1.1) fun x2=>
   some (Sum.inl (x2,v1.2.1,w64 (v1.2.2 - v1.2.1)))
 else
  zev (zc0 m (v1.1,v1.2.1))
def zd7 (m:Int)(v0:Cs×Int×Int):Option Cs:=
 zbg (fun y=>zb1 m y) v0
def zbv (a0 m b:Int)(row:Cs):Option Cs:=
 zd7 m (row,w64 (m - a0),w64 (b - m))
theorem zkj (rk rc:Nat)(rn:Bool){a0 m b row r}(hF:zbv a0 m b row=some r):Pe Tryz.prog 180 (.w [(100000,.q 53 5 0 0 rc rn (row.map zab))]) [.row 100000 0,.i a0,.i m,.i b,.fn 136 []] (.tup []) (.w [(100000,.q 53 5 0 0 rc rn (r.map zab))]):=by
 refine PT 58 [] [] Tryz.func180 ?_
 intro Q g hfin
 unfold zbv at hF
 refine LR0 ?_
 refine LR0 ?_
 refine NmS (fun v=>zc0 m v=some r) (fun Z v=>Z.up [0,2,4,10] [] [100000] [] [(10,.i v.2)] [] [(100000,.q 53 5 0 0 rc rn (v.1.map zab))] []) ?_ ?_
 ·refine zb5 ?_
  unfold zd7 at hF
  refine zoy hF [] (fun Z v1=>Z.up [0,2,4,10,11] [] [100000] [] [(10,.i v1.2.1),(11,.i v1.2.2)] [] [(100000,.q 53 5 0 0 rc rn (v1.1.map zab))] []) ?_
  intro n1 v1 y1 hF ih1 dn1
  unfold zb1 at hF
  refine LR0 ?_
  refine Nif hF ?_ ?_ <;> intro hb hF
  ·refine zb5 ?_
   refine LR0 ?_
   refine Nif hF ?_ ?_ <;> intro hb hF
   ·have⟨x1,h2,hF⟩:=oE hF
    have p3:=(Pe.ren (zdl 0 rc rn h2) ⟨[],[],[],[]⟩)
    refine RJ (.e [] [100000] p3 .z) ?_
    refine LR0 ?_
    exact zgb [] hF ih1
   ·have⟨x2,h4,hF⟩:=oE hF
    have p5:=(Pe.ren (zdl 0 rc rn h4) ⟨[],[],[],[]⟩)
    refine RJ (.e [] [100000] p5 .z) ?_
    refine LR0 ?_
    exact zgb [] hF ih1
  ·refine zbm rfl ?_
   have hF:=zaj hF dn1
   exact ze4 (v1.1,v1.2.1) [] hF
 ·intro v hF
  unfold zc0 at hF
  have⟨x,h0,hF⟩:=oE hF
  have p1:=(Pe.ren (zdl 0 rc rn h0) ⟨[],[],[],[]⟩)
  refine RJ (.e [] [100000] p1 .z) ?_
  cases hF
  exact Wk_end (hfin _ ⟨[100000],[],[100000],[],[],[],by kernel_rfl⟩)

end
end G
end Go.Proofs.YticbfakiihfgmaaGreat
