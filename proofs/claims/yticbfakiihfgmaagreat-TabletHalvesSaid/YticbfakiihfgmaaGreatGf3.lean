/- The program's functions as plain functions, and that they are these. Written by a program (dec2.py). -/
import Derived.Test.YticbfakiihfgmaaGreatGf2
namespace Go.Proofs.YticbfakiihfgmaaGreat
open Go Go.Dm
set_option linter.unusedVariables false
set_option linter.unusedSimpArgs false
set_option maxRecDepth 100000
namespace G
/- tabularyref.FileOf -/
/- tabularyref.FileOf -/
noncomputable def R_FileOf_v1_J1 (l:List Cell) (v:List UInt8×List UInt8):Option (List UInt8):=
 ob (R_Framed v.2) fun x=>
 asrt (((v.1++x).length:Int)*1≤140737488351232) <|
 ob (R_FilterOf l) fun x1=>
 ob (R_Framed x1) fun x2=>
 asrt ((((v.1++x)++x2).length:Int)*1≤140737488351232) <|
 some ((v.1++x)++x2)
noncomputable def R_FileOf_v1_B1 (l:List Cell) (size:Int) (v1:List UInt8×List UInt8×List UInt8×List UInt8×Int):Option ((List UInt8×List UInt8×List UInt8×List UInt8×Int)⊕(List UInt8)):=
 if (decide (v1.2.2.2.2<(l.length:Int)))=true then
  ob (
   if (decide ((v1.2.2.1.length:Int)=0))=true then
    asrt (0≤v1.2.2.2.2∧v1.2.2.2.2<(l.length:Int)) <|
    some ((lget l v1.2.2.2.2).Row)
   else
    some v1.2.2.2.1) fun (v2:List UInt8)=>
  asrt (0≤v1.2.2.2.2∧v1.2.2.2.2<(l.length:Int)) <|
  ob (R_CellBytes (⟨(lget l v1.2.2.2.2).Row,(lget l v1.2.2.2.2).Col,(lget l v1.2.2.2.2).Time,(lget l v1.2.2.2.2).Gone,(lget l v1.2.2.2.2).Value⟩:Cell)) fun x3=>
  asrt (((v1.2.2.1++x3).length:Int)*1≤140737488351232) <|
  ob (
   if ((decide (size≤((v1.2.2.1++x3).length:Int)))||(decide (v1.2.2.2.2=(w64 ((l.length:Int) - 1)))))=true then
    ob (R_Framed (v1.2.2.1++x3)) fun x4=>
    asrt (((v1.1++x4).length:Int)*1≤140737488351232) <|
    ob (R_Written v2) fun x5=>
    asrt (((v1.2.1++x5).length:Int)*1≤140737488351232) <|
    ob (R_Number ((v1.2.2.1++x3).length:Int)) fun x6=>
    asrt ((((v1.2.1++x5)++x6).length:Int)*1≤140737488351232) <|
    some ((v1.1++x4),((v1.2.1++x5)++x6),([]:List UInt8))
   else
    some (v1.1,v1.2.1,(v1.2.2.1++x3))) fun (v3:List UInt8×List UInt8×List UInt8)=>
  some (Sum.inl (v3.1,v3.2.1,v3.2.2,v2,w64 (v1.2.2.2.2+1)))
 else
  inrO (R_FileOf_v1_J1 l (v1.1,v1.2.1))
noncomputable def R_FileOf_v1_L1 (l:List Cell) (size:Int) (v0:List UInt8×List UInt8×List UInt8×List UInt8×Int):Option (List UInt8):=
 loopO (fun y=>R_FileOf_v1_B1 l size y) v0
noncomputable def R_FileOf_v1 (l:List Cell) (size:Int):Option (List UInt8):=
 R_FileOf_v1_L1 l size (([]:List UInt8),([]:List UInt8),([]:List UInt8),([]:List UInt8),0)
theorem R_FileOf_v1_ok (l:List Cell) (size:Int) (r:List UInt8) (hF:R_FileOf_v1 l size=some r):Pe Tryz.prog 36 S.none [.sl 5 (l.map e_Cell),.i size] (.sl 1 (r.map e_u8)) S.none:=by
 refine PT 64 [.tmp 4] [22] Tryz.func36 ?_
 intro Q g hfin
 unfold R_FileOf_v1 at hF
 refine LR0 ?_
 refine LR0 ?_
 refine LR0 ?_
 refine NR [] [0,1,5,6,7,8,9] [] [] [(0,.sl 5 (l.map e_Cell)),(1,.i size),(5,.nils),(6,.nils),(7,.nils),(8,.str ([]:List UInt8)),(9,.i 0)] .nil ?_
 refine NmeetP (fun v:List UInt8×List UInt8=>(⟨[(0,.sl 5 (l.map e_Cell)),(5,.row 45 0),(6,.row 49 0)],[],[(45,.z 5 1 0 (v.1.map e_u8)),(49,.z 5 1 0 (v.2.map e_u8))],[],[]⟩:S)) (fun v=>R_FileOf_v1_J1 l v=some r) ?_ ?_
 ·refine Nblk ?_
  unfold R_FileOf_v1_L1 at hF
  refine Wk_nilrow 5 60000 5 1 rfl rfl rfl ?_
  refine Wk_nilrow 6 60001 5 1 rfl rfl rfl ?_
  refine Wk_nilrow 7 60002 5 1 rfl rfl rfl ?_
  refine Wk_trim (fs:=[0,1,5,6,7,8,9]) (bs:=[]) (rs:=[60000,60001,60002]) (ms:=[]) (aa:=[]) (nv:=[]) rfl ?_
  refine Wk_ren' ⟨[],[(60000,45),(60001,49),(60002,30)],[],[]⟩ rfl ?_
  refine Nitq (fun v1:List UInt8×List UInt8×List UInt8×List UInt8×Int=>(⟨[(0,.sl 5 (l.map e_Cell)),(1,.i size),(5,.row 45 0),(6,.row 49 0),(7,.row 30 0),(8,.str v1.2.2.2.1),(9,.i v1.2.2.2.2)],[],[(30,.z 5 1 0 (v1.2.2.1.map e_u8)),(45,.z 5 1 0 (v1.1.map e_u8)),(49,.z 5 1 0 (v1.2.1.map e_u8))],[],[]⟩:S)) [] hF ?_
  intro n1 v1 y1 hF ih1 dn1
  unfold R_FileOf_v1_B1 at hF
  refine LR [.nat (l.length:Int)] (hc (len_ok e_Cell l) .nil) ?_
  refine Nif hF ?_ ?_ <;> intro hb hF
  ·refine Nblk ?_
   refine LR [.nat (v1.2.2.1.length:Int)] (hc (len_ok e_u8 v1.2.2.1) .nil) ?_
   obtain ⟨v2,hv,hF⟩:=oE hF
   refine Nmeet (⟨[(0,.sl 5 (l.map e_Cell)),(1,.i size),(5,.row 45 0),(6,.row 49 0),(7,.row 30 0),(8,.str v2),(9,.i v1.2.2.2.2)],[],[(30,.z 5 1 0 (v1.2.2.1.map e_u8)),(45,.z 5 1 0 (v1.1.map e_u8)),(49,.z 5 1 0 (v1.2.1.map e_u8))],[],[]⟩:S) ?_ ?_
   ·have hF:=hv
    refine Nif hF ?_ ?_ <;> intro hb hF
    ·obtain ⟨h8,hF⟩:=aE hF
     refine LR [.av (e_Cell (lget l v1.2.2.2.2))] (hc (idx_ok e_Cell h8) .nil) ?_
     cases hF
     exact met' []
    ·cases hF
     exact met' []
   ·obtain ⟨h9,hF⟩:=aE hF
    obtain ⟨x3,h10,hF⟩:=oE hF
    have p11:=(Pe.ren (R_CellBytes_ok (⟨(lget l v1.2.2.2.2).Row,(lget l v1.2.2.2.2).Col,(lget l v1.2.2.2.2).Time,(lget l v1.2.2.2.2).Gone,(lget l v1.2.2.2.2).Value⟩:Cell) x3 h10) ⟨[],[(6,29)],[],[]⟩)
    obtain ⟨h12,hF⟩:=aE hF
    refine LR [.av (e_Cell (lget l v1.2.2.2.2)),cE [] [] [] [] p11,.xs ((v1.2.2.1++x3).map e_u8)] (hc (idx_ok e_Cell h9) (hc p11 (hc (app_ok e_u8 v1.2.2.1 x3) (hc (appl_ok e_u8 h12) .nil)))) ?_
    refine LR [.nat ((v1.2.2.1++x3).length:Int),.nat (l.length:Int)] (hc (len_ok e_u8 (v1.2.2.1++x3)) (hc (fun (_:(!(decide (size≤((v1.2.2.1++x3).length:Int))))=true)=>(len_ok e_Cell l)) .nil)) ?_
    obtain ⟨v3,hv,hF⟩:=oE hF
    refine Nmeet (⟨[(0,.sl 5 (l.map e_Cell)),(1,.i size),(5,.row 45 0),(6,.row 49 0),(7,.row 30 0),(8,.str v2),(9,.i v1.2.2.2.2)],[],[(30,.z 5 1 0 (v3.2.2.map e_u8)),(45,.z 5 1 0 (v3.1.map e_u8)),(49,.z 5 1 0 (v3.2.1.map e_u8))],[],[]⟩:S) ?_ ?_
    ·have hF:=hv
     refine Nif hF ?_ ?_ <;> intro hb hF
     ·obtain ⟨x4,h13,hF⟩:=oE hF
      have p14:=(Pe.ren (R_Framed_ok (v1.2.2.1++x3) x4 h13) ⟨[],[(13,44)],[],[]⟩)
      obtain ⟨h15,hF⟩:=aE hF
      refine LR [cE [] [] [] [] p14,.xs ((v1.1++x4).map e_u8)] (hc p14 (hc (app_ok e_u8 v1.1 x4) (hc (appl_ok e_u8 h15) .nil))) ?_
      obtain ⟨x5,h16,hF⟩:=oE hF
      have p17:=(Pe.ren (R_Written_ok v2 x5 h16) ⟨[],[(5,48)],[],[]⟩)
      obtain ⟨h18,hF⟩:=aE hF
      refine LR [cE [] [] [] [] p17,.xs ((v1.2.1++x5).map e_u8)] (hc p17 (hc (app_ok e_u8 v1.2.1 x5) (hc (appl_ok e_u8 h18) .nil))) ?_
      obtain ⟨x6,h19,hF⟩:=oE hF
      have p20:=(Pe.ren (R_Number_ok ((v1.2.2.1++x3).length:Int) x6 h19) ⟨[],[(7,53)],[],[]⟩)
      obtain ⟨h21,hF⟩:=aE hF
      refine LR [.nat ((v1.2.2.1++x3).length:Int),cE [] [] [] [] p20,.xs (((v1.2.1++x5)++x6).map e_u8)] (hc (len_ok e_u8 (v1.2.2.1++x3)) (hc p20 (hc (app_ok e_u8 (v1.2.1++x5) x6) (hc (appl_ok e_u8 h21) .nil)))) ?_
      refine VR [] [0,1,5,6,7,8,9] [] [45,49] [] [(0,.sl 5 (l.map e_Cell)),(1,.i size),(5,.row 45 1),(6,.row 49 2),(7,.nils),(8,.str v2),(9,.i v1.2.2.2.2)] [] [(45,.z 5 1 1 ((v1.1++x4).map e_u8)),(49,.z 5 1 2 (((v1.2.1++x5)++x6).map e_u8))] [] .nil ?_
      refine Wk_nilrow 7 60003 5 1 rfl rfl rfl ?_
      refine Wk_trim (fs:=[0,1,5,6,7,8,9]) (bs:=[]) (rs:=[45,49,60003]) (ms:=[]) (aa:=[]) (nv:=[]) rfl ?_
      refine Wk_ren' ⟨[],[(60003,30)],[],[]⟩ rfl ?_
      cases hF
      exact met' [(45,⟨0,true,true,false⟩),(49,⟨0,true,true,false⟩)]
     ·cases hF
      exact met' [(30,⟨0,true,true,false⟩)]
    ·refine LR0 ?_
     exact Nrnq [] hF ih1
  ·refine Nexit rfl ?_
   have hF:=inrO_done hF dn1
   exact metQ (v1.1,v1.2.1) [] hF
 ·intro v hF
  unfold R_FileOf_v1_J1 at hF
  obtain ⟨x,h0,hF⟩:=oE hF
  have p1:=(Pe.ren (R_Framed_ok v.2 x h0) ⟨[],[(13,57)],[],[]⟩)
  obtain ⟨h2,hF⟩:=aE hF
  refine LR [cE [] [] [] [] p1,.xs ((v.1++x).map e_u8)] (hc p1 (hc (app_ok e_u8 v.1 x) (hc (appl_ok e_u8 h2) .nil))) ?_
  obtain ⟨x1,h3,hF⟩:=oE hF
  have p4:=(Pe.ren (R_FilterOf_ok l x1 h3) ⟨[],[(46,61)],[],[]⟩)
  obtain ⟨x2,h5,hF⟩:=oE hF
  have p6:=(Pe.ren (R_Framed_ok x1 x2 h5) ⟨[],[(13,62)],[],[]⟩)
  obtain ⟨h7,hF⟩:=aE hF
  refine LR [cE [] [] [] [] p4,cE [] [] [] [] p6,.xs (((v.1++x)++x2).map e_u8)] (hc p4 (hc p6 (hc (app_ok e_u8 (v.1++x) x2) (hc (appl_ok e_u8 h7) .nil)))) ?_
  cases hF
  exact Wz [] hfin

/- tabularyref.Same -/
noncomputable def R_Same (a0 b:List UInt8):Bool:=
 decide (a0=b)
theorem R_Same_ok (a0 b:List UInt8) (r:Bool) (hF:R_Same a0 b=r):Pe Tryz.prog 60 S.none [.sl 1 (a0.map e_u8),.sl 1 (b.map e_u8)] (.bool r) S.none:=by
 refine PT 10 [.tmp 4] [4] Tryz.func60 ?_
 intro Q g hfin
 unfold R_Same at hF
 refine LR0 ?_
 refine LR [.str a0,.str b] (hc (u8s_ok a0) (hc (u8s_ok b) .nil)) ?_
 cases hF
 exact Wz [] hfin

/- tabularylaw.tabletBegun -/
noncomputable def law_tabletBegun  : Option Bool:=
 lt (law_oneNote) fun x=>
 ob (tablet_Put_v1 (⟨(⟨([]:List UInt8),0⟩:Disk),([]:List (List UInt8)),0,0⟩:Tablet) x.Cells) fun x1=>
 ob (tablet_Flush_v1 x1.1 50) fun x2=>
 ob (tablet_Cut_v1 x2.1) fun x3=>
 asrt (((((((decide (x1.2.2.Code=0))&&(decide (x2.2.Code=0)))&&(decide (x3.2.Code=0)))&&(decide (x1.2.1=1)))&&(decide (x3.1.Done=1)))&&(decide ((x3.1.Files.length:Int)=1)))=true→0≤(0:Int)∧0<(x3.1.Files.length:Int)) <|
 lt (law_oneNote) fun x4=>
 ob (if ((((((decide (x1.2.2.Code=0))&&(decide (x2.2.Code=0)))&&(decide (x3.2.Code=0)))&&(decide (x1.2.1=1)))&&(decide (x3.1.Done=1)))&&(decide ((x3.1.Files.length:Int)=1)))=true then (R_FileOf_v1 x4.Cells 50) else some default) fun x5=>
 lt (R_Same (lget x3.1.Files 0) x5) fun x6=>
 lt ((((((((decide (x1.2.2.Code=0))&&(decide (x2.2.Code=0)))&&(decide (x3.2.Code=0)))&&(decide (x1.2.1=1)))&&(decide (x3.1.Done=1)))&&(decide ((x3.1.Files.length:Int)=1)))&&x6)&&(decide ((x3.1.Log.Bytes.length:Int)=0))) fun (v:Bool)=>
 some v
theorem law_tabletBegun_ok  (r:Bool) (hF:law_tabletBegun  = some r):Pe Tryz.prog 8 S.none [] (.bool r) S.none:=by
 refine PT 69 [.tmp 0] [4] Tryz.func8 ?_
 intro Q g hfin
 unfold law_tabletBegun at hF
 refine LR0 ?_
 obtain ⟨x,h0,hF⟩:=lS hF
 obtain ⟨x1,h1,hF⟩:=oE hF
 refine LR [.call (.agg (c_Note x)),.call (.tup [.agg (c_Tablet x1.1),.i x1.2.1,.agg (c_Fault x1.2.2)])] (hc (law_oneNote_ok  x h0) (hc (tablet_Put_v1_ok (⟨(⟨([]:List UInt8),0⟩:Disk),([]:List (List UInt8)),0,0⟩:Tablet) x.Cells x1 h1) .nil)) ?_
 obtain ⟨x2,h2,hF⟩:=oE hF
 refine LR [.call (.tup [.agg (c_Tablet x2.1),.agg (c_Fault x2.2)])] (hc (tablet_Flush_v1_ok x1.1 50 x2 h2) .nil) ?_
 obtain ⟨x3,h3,hF⟩:=oE hF
 refine LR [.call (.tup [.agg (c_Tablet x3.1),.agg (c_Fault x3.2)])] (hc (tablet_Cut_v1_ok x2.1 x3 h3) .nil) ?_
 obtain ⟨h4,hF⟩:=aE hF
 obtain ⟨x4,h5,hF⟩:=lS hF
 obtain ⟨x5,h6,hF⟩:=oE hF
 obtain ⟨x6,h7,hF⟩:=lS hF
 refine NDL ((((((((decide (x1.2.2.Code=0))&&(decide (x2.2.Code=0)))&&(decide (x3.2.Code=0)))&&(decide (x1.2.1=1)))&&(decide (x3.1.Done=1)))&&(decide ((x3.1.Files.length:Int)=1)))&&x6)&&(decide ((x3.1.Log.Bytes.length:Int)=0))) (fun v:Bool=>([(0,.bool v)],[],[],[])) [.nat (x3.1.Files.length:Int),.av (e_L_u8 (lget x3.1.Files 0)),.call (.agg (c_Note x4)),.call (.sl 1 (x5.map e_u8)),.callB (.bool x6),.nat (x3.1.Log.Bytes.length:Int)] [0] [] [] [] (hc (fun (_:(((((decide (x1.2.2.Code=0))&&(decide (x2.2.Code=0)))&&(decide (x3.2.Code=0)))&&(decide (x1.2.1=1)))&&(decide (x3.1.Done=1)))=true)=>(len_ok e_L_u8 x3.1.Files)) (hc (fun (ga0:((((((decide (x1.2.2.Code=0))&&(decide (x2.2.Code=0)))&&(decide (x3.2.Code=0)))&&(decide (x1.2.1=1)))&&(decide (x3.1.Done=1)))&&(decide ((x3.1.Files.length:Int)=1)))=true)=>(idx_ok e_L_u8 (h4 ga0))) (hc (fun (ga0:((((((decide (x1.2.2.Code=0))&&(decide (x2.2.Code=0)))&&(decide (x3.2.Code=0)))&&(decide (x1.2.1=1)))&&(decide (x3.1.Done=1)))&&(decide ((x3.1.Files.length:Int)=1)))=true)=>(law_oneNote_ok  x4 h5)) (hc (fun (ga0:((((((decide (x1.2.2.Code=0))&&(decide (x2.2.Code=0)))&&(decide (x3.2.Code=0)))&&(decide (x1.2.1=1)))&&(decide (x3.1.Done=1)))&&(decide ((x3.1.Files.length:Int)=1)))=true)=>(R_FileOf_v1_ok x4.Cells 50 x5 (ite_t h6 ga0))) (hc (fun (ga0:((((((decide (x1.2.2.Code=0))&&(decide (x2.2.Code=0)))&&(decide (x3.2.Code=0)))&&(decide (x1.2.1=1)))&&(decide (x3.1.Done=1)))&&(decide ((x3.1.Files.length:Int)=1)))=true)=>(R_Same_ok (lget x3.1.Files 0) x5 x6 h7)) (hc (fun (_:(((((((decide (x1.2.2.Code=0))&&(decide (x2.2.Code=0)))&&(decide (x3.2.Code=0)))&&(decide (x1.2.1=1)))&&(decide (x3.1.Done=1)))&&(decide ((x3.1.Files.length:Int)=1)))&&x6)=true)=>(len_ok e_u8 x3.1.Log.Bytes)) .nil)))))) (fun v hv=>?_)
 have hF:=lt_elim hF hv
 cases hF
 exact Wz [] hfin

/- tabularylaw.vastTablet -/
noncomputable def law_vastTablet_J1 (v:Tablet×Int):Option Bool:=
 some ((decide (20000<v.2))||(decide (100<(v.1.Files.length:Int))))
noncomputable def law_vastTablet_B1 (v1:Tablet×Int×Int):Option ((Tablet×Int×Int)⊕Bool):=
 if (decide (v1.2.2<(v1.1.Files.length:Int)))=true then
  asrt (0≤v1.2.2∧v1.2.2<(v1.1.Files.length:Int)) <|
  some (Sum.inl (v1.1,w64 (v1.2.1+((lget v1.1.Files v1.2.2).length:Int)),w64 (v1.2.2+1)))
 else
  inrO (law_vastTablet_J1 (v1.1,v1.2.1))
noncomputable def law_vastTablet_L1 (v0:Tablet×Int×Int):Option Bool:=
 loopO (fun y=>law_vastTablet_B1 y) v0
noncomputable def law_vastTablet (t0:Tablet):Option Bool:=
 law_vastTablet_L1 (t0,(t0.Log.Bytes.length:Int),0)
theorem law_vastTablet_ok (t0:Tablet) (r:Bool) (hF:law_vastTablet t0=some r):Pe Tryz.prog 9 S.none [.agg (c_Tablet t0)] (.bool r) S.none:=by
 refine PT 32 [.tmp 2] [4] Tryz.func9 ?_
 intro Q g hfin
 unfold law_vastTablet at hF
 refine LR0 ?_
 refine LR [.nat (t0.Log.Bytes.length:Int)] (hc (len_ok e_u8 t0.Log.Bytes) .nil) ?_
 refine LR0 ?_
 refine NmeetP (fun v:Tablet×Int=>(⟨[(1,.ptr 1 0),(3,.i v.2)],[(1,(c_Tablet v.1))],[],[],[]⟩:S)) (fun v=>law_vastTablet_J1 v=some r) ?_ ?_
 ·refine Nblk ?_
  unfold law_vastTablet_L1 at hF
  refine Nitq (fun v1:Tablet×Int×Int=>(⟨[(1,.ptr 1 0),(3,.i v1.2.1),(4,.i v1.2.2)],[(1,(c_Tablet v1.1))],[],[],[]⟩:S)) [] hF ?_
  intro n1 v1 y1 hF ih1 dn1
  unfold law_vastTablet_B1 at hF
  refine LR [.nat (v1.1.Files.length:Int)] (hc (len_ok e_L_u8 v1.1.Files) .nil) ?_
  refine Nif hF ?_ ?_ <;> intro hb hF
  ·refine Nblk ?_
   obtain ⟨h0,hF⟩:=aE hF
   refine LR [.av (e_L_u8 (lget v1.1.Files v1.2.2)),.nat ((lget v1.1.Files v1.2.2).length:Int)] (hc (idx_ok e_L_u8 h0) (hc (len_ok e_u8 (lget v1.1.Files v1.2.2)) .nil)) ?_
   refine LR0 ?_
   exact Nrnq [] hF ih1
  ·refine Nexit rfl ?_
   have hF:=inrO_done hF dn1
   exact metQ (v1.1,v1.2.1) [] hF
 ·intro v hF
  unfold law_vastTablet_J1 at hF
  refine LR [.nat (v.1.Files.length:Int)] (hc (fun (_:(!(decide (20000<v.2)))=true)=>(len_ok e_L_u8 v.1.Files)) .nil) ?_
  cases hF
  exact Wz [] hfin

/- tabularylaw.many -/
/- tabularylaw.ownBytes -/
/- tabularylaw.ownBytes -/
/- tabularylaw.ownDisk -/
/- tabularylaw.ownBodies -/
/- tabularylaw.ownBodies -/
/- tabularylaw.ownTablet -/
/- tabularylaw.ownCells -/
noncomputable def law_ownCells (l:List Cell):Option (List Cell):=
 asrt ((l.length:Int)*64≤140737488351232) <|
 some l
theorem law_ownCells_ok (l r:List Cell) (hF:law_ownCells l=some r):Pe Tryz.prog 12 (.w []) [.sl 5 (l.map e_Cell)] (.row 4 1) ⟨[],[],[(4,.z 53 5 1 (r.map e_Cell))],[],[]⟩:=by
 refine PT 5 [.tmp 2] [28] Tryz.func12 ?_
 intro Q g hfin
 unfold law_ownCells at hF
 refine LR0 ?_
 obtain ⟨h0,hF⟩:=aE hF
 refine LR [.xs (l.map e_Cell)] (hc (app0_ok e_Cell l) (hc (appl_ok e_Cell h0) .nil)) ?_
 cases hF
 exact Wz [] hfin

/- tabularylaw.ownCells -/
/- tablet.Sync$1 -/
/- tablet.with -/
/- tablet.Sync -/
/- tablet.Sync -/
/- disk.cut -/
/- disk.Crash -/
/- tablet.Crash$1 -/
/- tablet.Crash$1 -/
/- tablet.with -/
/- tablet.Crash -/
/- tablet.Crash -/
/- tabularyref.F -/
/- tabularyref.DiskFault -/
/- tabularyref.Unframed -/
/- tabularyref.Number -/
/- tabularyref.NumberAt -/
/- tabularyref.CellCode -/
noncomputable def R_CellCode (c:Cell):Int:=
 if ((((decide (c.Row=([]:List UInt8)))||(decide (40<(c.Row.length:Int))))||(decide (40<(c.Col.length:Int))))||(decide (200<(c.Value.length:Int))))=true then
  8
 else
  if ((decide (c.Time<0))||(decide (1000000000<c.Time)))=true then
   3
  else
   if (c.Gone&&(!decide (c.Value=([]:List UInt8))))=true then
    5
   else
    0

/- tabularyref.CellAt -/
/- tabularyref.Ahead -/
noncomputable def R_Ahead (a0 b:Cell):Bool:=
 if (!decide (a0.Row=b.Row))=true then
  Op.bytesLess a0.Row b.Row
 else
  if (!decide (a0.Col=b.Col))=true then
   Op.bytesLess a0.Col b.Col
  else
   decide (b.Time<a0.Time)

/- tabularyref.CellsFault -/
/- tabularyref.CellsOf -/
/- tabularyref.NoteFault -/
/- tabularyref.NoteOf -/
/- tabularyref.Logged -/
/- tabularyref.OpenedFile -/
/- tabularyref.Above -/
/- tabularyref.PutCell -/
/- tabularyref.PutCells -/
/- tabularyref.PutNotes -/
/- tabularyref.Together -/
/- tabularyref.Heavy -/
/- tabularyref.InsideOf -/
/- tabularyref.InsideOf -/
/- tabularyref.SameDisk -/
/- tabularyref.SameBodies -/
/- tabularyref.SameTablet -/
/- tabularyref.SameCells -/
noncomputable def R_SameCells_J1 (v:Unit):Option Bool:=
 some true
noncomputable def R_SameCells_B1 (a0 b:List Cell) (v1:Int):Option (Int⊕Bool):=
 if (decide (v1<(a0.length:Int)))=true then
  asrt (0≤v1∧v1<(a0.length:Int)) <|
  asrt (0≤v1∧v1<(b.length:Int)) <|
  if (!(decide ((lget a0 v1).Row=(lget b v1).Row)&&(decide ((lget a0 v1).Col=(lget b v1).Col)&&(decide ((lget a0 v1).Time=(lget b v1).Time)&&((((lget a0 v1).Gone) == ((lget b v1).Gone))&&(decide ((lget a0 v1).Value=(lget b v1).Value)&&true))))))=true then
   some (Sum.inr false)
  else
   some (Sum.inl (w64 (v1+1)))
 else
  inrO (R_SameCells_J1 ())
noncomputable def R_SameCells_L1 (a0 b:List Cell) (v0:Int):Option Bool:=
 loopO (fun y=>R_SameCells_B1 a0 b y) v0
noncomputable def R_SameCells (a0 b:List Cell):Option Bool:=
 if (!decide ((a0.length:Int)=(b.length:Int)))=true then
  some false
 else
  R_SameCells_L1 a0 b 0
theorem R_SameCells_ok (a0 b:List Cell) (r:Bool) (hF:R_SameCells a0 b=some r):Pe Tryz.prog 20 S.none [.sl 5 (a0.map e_Cell),.sl 5 (b.map e_Cell)] (.bool r) S.none:=by
 refine PT 26 [.tmp 4] [4] Tryz.func20 ?_
 intro Q g hfin
 unfold R_SameCells at hF
 refine LR0 ?_
 refine LR [.nat (a0.length:Int),.nat (b.length:Int)] (hc (len_ok e_Cell a0) (hc (len_ok e_Cell b) .nil)) ?_
 refine Nif hF ?_ ?_ <;> intro hb hF
 ·refine LR0 ?_
  cases hF
  exact Wz [] hfin
 ·refine LR0 ?_
  refine NmeetP (fun v:Unit=>(S.none:S)) (fun v=>R_SameCells_J1 v=some r) ?_ ?_
  ·refine Nblk ?_
   unfold R_SameCells_L1 at hF
   refine Nitq (fun v1:Int=>(⟨[(0,.sl 5 (a0.map e_Cell)),(1,.sl 5 (b.map e_Cell)),(5,.i v1)],[],[],[],[]⟩:S)) [] hF ?_
   intro n1 v1 y1 hF ih1 dn1
   unfold R_SameCells_B1 at hF
   refine LR [.nat (a0.length:Int)] (hc (len_ok e_Cell a0) .nil) ?_
   refine Nif hF ?_ ?_ <;> intro hb hF
   ·refine Nblk ?_
    obtain ⟨h0,h1,hF⟩:=asrt2 hF
    refine LD [.av (e_Cell (lget a0 v1)),.av (e_Cell (lget b v1))] (hc (idx_ok e_Cell h0) (hc (idx_ok e_Cell h1) .nil)) ?_
    refine Nif hF ?_ ?_ <;> intro hb hF
    ·refine LR0 ?_
     have hF:=ret_done hF dn1
     cases hF
     exact Wz [] hfin
    ·refine LR0 ?_
     exact Nrnq [] hF ih1
   ·refine Nexit rfl ?_
    have hF:=inrO_done hF dn1
    exact metQ () [] hF
  ·intro v hF
   unfold R_SameCells_J1 at hF
   refine LR0 ?_
   cases hF
   exact Wz [] hfin

/- tabularyref.NoteBytes -/
/- tabularyref.NoteBytes -/
/- tabularyref.Framed -/
/- tabularylaw.TabletDoes$1 -/
/- tabularylaw.tabletAs -/
/- tabularylaw.TabletDoes$2 -/
/- tabularylaw.tabletAs -/
/- tabularyref.Logged -/
/- tabularylaw.TabletDoes$3 -/
/- tabularylaw.tabletAs -/
/- tabularylaw.sizeFault -/
/- tabularyref.MadeFault -/
/- tabularylaw.TabletDoes$4 -/
/- tabularylaw.tabletAs -/
/- tabularyref.Above -/
/- tabularyref.LogOf -/
/- tabularylaw.TabletDoes$5 -/
/- tabularylaw.tabletAs -/
/- tabularylaw.TabletDoes -/
/- slices.Compact[[]string,string] -/
noncomputable def slices_Compact_string_string_v1_J1 (row:List (List UInt8)) (v:Unit):Option (List (List UInt8)):=
 some row
noncomputable def slices_Compact_string_string_v1_J2 (v2:List (List UInt8)×Int):Option (Int⊕(List (List UInt8))):=
 asrt (0≤v2.2∧v2.2≤(v2.1.length:Int)) <|
 lt ((lclear v2.1 v2.2.toNat (v2.1.length - v2.2.toNat) (([]:List UInt8):List UInt8))) fun (v3:List (List UInt8))=>
 asrt (0≤v2.2∧v2.2≤(v3.length:Int)) <|
 asrt (v2.2.toNat≤v3.length) <|
 some (Sum.inr (v3.take v2.2.toNat))
noncomputable def slices_Compact_string_string_v1_B2 (row:List (List UInt8)) (v1:Int) (v4:List (List UInt8)×Int×Int):Option ((List (List UInt8)×Int×Int)⊕(Int⊕(List (List UInt8)))):=
 if (decide (v4.2.2<(((row.length - v1.toNat):Nat):Int)))=true then
  asrt (0≤v4.2.2∧v4.2.2.toNat<(row.length - v1.toNat)) <|
  asrt (0≤(((v1.toNat+v4.2.2.toNat):Nat):Int)∧(((v1.toNat+v4.2.2.toNat):Nat):Int)<(v4.1.length:Int)) <|
  asrt (0≤w64 (v4.2.2 - 1)∧(w64 (v4.2.2 - 1)).toNat<(row.length - v1.toNat)) <|
  asrt (0≤(((v1.toNat+(w64 (v4.2.2 - 1)).toNat):Nat):Int)∧(((v1.toNat+(w64 (v4.2.2 - 1)).toNat):Nat):Int)<(v4.1.length:Int)) <|
  ob (
   if (!decide ((lget v4.1 (((v1.toNat+v4.2.2.toNat):Nat):Int))=(lget v4.1 (((v1.toNat+(w64 (v4.2.2 - 1)).toNat):Nat):Int))))=true then
    asrt (0≤v4.2.2∧v4.2.2.toNat<(row.length - v1.toNat)) <|
    asrt (0≤(((v1.toNat+v4.2.2.toNat):Nat):Int)∧(((v1.toNat+v4.2.2.toNat):Nat):Int)<(v4.1.length:Int)) <|
    asrt (0≤v4.2.1∧v4.2.1<(v4.1.length:Int)) <|
    asrt (0≤v4.2.1∧v4.2.1<(v4.1.length:Int)) <|
    lt ((lset v4.1 v4.2.1 (lget v4.1 (((v1.toNat+v4.2.2.toNat):Nat):Int)))) fun (v6:List (List UInt8))=>
    some (v6,w64 (v4.2.1+1))
   else
    some (v4.1,v4.2.1)) fun (v5:List (List UInt8)×Int)=>
  some (Sum.inl (v5.1,v5.2,w64 (v4.2.2+1)))
 else
  inrO (slices_Compact_string_string_v1_J2 (v4.1,v4.2.1))
noncomputable def slices_Compact_string_string_v1_L2 (row:List (List UInt8)) (v1:Int) (v0:List (List UInt8)×Int×Int):Option (Int⊕(List (List UInt8))):=
 loopO (fun y=>slices_Compact_string_string_v1_B2 row v1 y) v0
noncomputable def slices_Compact_string_string_v1_B1 (row:List (List UInt8)) (v1:Int):Option (Int⊕(List (List UInt8))):=
 if (decide (v1<(row.length:Int)))=true then
  asrt (0≤v1∧v1<(row.length:Int)) <|
  asrt (0≤v1∧v1<(row.length:Int)) <|
  asrt (0≤w64 (v1 - 1)∧w64 (v1 - 1)<(row.length:Int)) <|
  asrt (0≤w64 (v1 - 1)∧w64 (v1 - 1)<(row.length:Int)) <|
  if (decide ((lget row v1)=(lget row (w64 (v1 - 1)))))=true then
   asrt (0≤v1∧v1≤(row.length:Int)) <|
   slices_Compact_string_string_v1_L2 row v1 (row,v1,1)
  else
   some (Sum.inl (w64 (v1+1)))
 else
  inrO (slices_Compact_string_string_v1_J1 row ())
noncomputable def slices_Compact_string_string_v1_L1 (row:List (List UInt8)) (v0:Int):Option (List (List UInt8)):=
 loopO (fun y=>slices_Compact_string_string_v1_B1 row y) v0
noncomputable def slices_Compact_string_string_v1 (row:List (List UInt8)):Option (List (List UInt8)):=
 if (decide ((row.length:Int)<2))=true then
  some row
 else
  slices_Compact_string_string_v1_L1 row 1
theorem slices_Compact_string_string_v1_ok (row:List (List UInt8)) (rk rc:Nat) (rn:Bool) (r:List (List UInt8)) (hF:slices_Compact_string_string_v1 row=some r):Pe Tryz.prog 93 (.w [(100000,.q 9 1 0 0 rc rn (row.map e_str))]) [.row 100000 0] (.row 100000 1) ⟨[],[],[(100000,.o 9 1 1 (r.map e_str))],[],[]⟩:=by
 refine PT 61 [.tmp 2] [86] Tryz.func93 ?_
 intro Q g hfin
 unfold slices_Compact_string_string_v1 at hF
 refine LR0 ?_
 refine LR [.nat (row.length:Int)] (hc (len_ok e_str row) .nil) ?_
 refine Nif hF ?_ ?_ <;> intro hb hF
 ·refine LR0 ?_
  cases hF
  exact Wz [(100000,⟨1,false,false,false⟩)] hfin
 ·refine LR0 ?_
  refine NmeetP (fun v:Unit=>(⟨[(0,.row 100000 0)],[],[(100000,.q 9 1 0 0 rc rn (row.map e_str))],[],[]⟩:S)) (fun v=>slices_Compact_string_string_v1_J1 row v=some r) ?_ ?_
  ·refine Nblk ?_
   unfold slices_Compact_string_string_v1_L1 at hF
   refine Nitq (fun v1:Int=>(⟨[(0,.row 100000 0),(3,.i v1)],[],[(100000,.q 9 1 0 0 rc rn (row.map e_str))],[],[]⟩:S)) [] hF ?_
   intro n1 v1 y1 hF ih1 dn1
   unfold slices_Compact_string_string_v1_B1 at hF
   refine LR [.nat (row.length:Int)] (hc (len_ok e_str row) .nil) ?_
   refine Nif hF ?_ ?_ <;> intro hb hF
   ·refine Nblk ?_
    obtain ⟨h0,h1,h2,h3,hF⟩:=asrt4 hF
    refine LD [.av (e_str (lget row v1)),.av (e_str (lget row (w64 (v1 - 1))))] (hc (ixr_ok e_str h0) (hc (ldr_ok e_str h1) (hc (ixr_ok e_str h2) (hc (ldr_ok e_str h3) .nil)))) ?_
    refine Nif hF ?_ ?_ <;> intro hb hF
    ·obtain ⟨h4,hF⟩:=aE hF
     refine LR [.vw (row.length - v1.toNat)] (hc (vw10_ok e_str h4) .nil) ?_
     refine LR0 ?_
     refine NmeetP (fun v2:List (List UInt8)×Int=>(⟨[(0,.row 100000 0),(3,.i v2.2)],[],[(100000,.q 9 1 0 0 rc rn (v2.1.map e_str))],[],[]⟩:S)) (fun v2=>slices_Compact_string_string_v1_J2 v2=some y1) ?_ ?_
     ·refine Nblk ?_
      unfold slices_Compact_string_string_v1_L2 at hF
      refine Nitq (fun v4:List (List UInt8)×Int×Int=>(⟨[(0,.row 100000 0),(3,.i v4.2.1),(4,.rowv 100000 0 v1.toNat (row.length - v1.toNat)),(5,.i v4.2.2)],[],[(100000,.q 9 1 0 0 rc rn (v4.1.map e_str))],[],[]⟩:S)) [] hF ?_
      intro n2 v4 y2 hF ih2 dn2
      unfold slices_Compact_string_string_v1_B2 at hF
      refine LR0 ?_
      refine Nif hF ?_ ?_ <;> intro hb hF
      ·refine Nblk ?_
       obtain ⟨h8,h9,h10,h11,hF⟩:=asrt4 hF
       refine LD [.av (e_str (lget v4.1 (((v1.toNat+v4.2.2.toNat):Nat):Int))),.av (e_str (lget v4.1 (((v1.toNat+(w64 (v4.2.2 - 1)).toNat):Nat):Int)))] (hc h8 (hc (ldr_ok e_str h9) (hc h10 (hc (ldr_ok e_str h11) .nil)))) ?_
       obtain ⟨v5,hv,hF⟩:=oE hF
       refine Nmeet (⟨[(0,.row 100000 0),(3,.i v5.2),(4,.rowv 100000 0 v1.toNat (row.length - v1.toNat)),(5,.i v4.2.2)],[],[(100000,.q 9 1 0 0 rc rn (v5.1.map e_str))],[],[]⟩:S) ?_ ?_
       ·have hF:=hv
        refine Nif hF ?_ ?_ <;> intro hb hF
        ·obtain ⟨h12,hF⟩:=aE hF
         obtain ⟨h13,h14,hF⟩:=asrt2 hF
         obtain ⟨h15,hF⟩:=aE hF
         obtain ⟨v6,hv,hF⟩:=lS hF
         refine LR [.av (e_str (lget v4.1 (((v1.toNat+v4.2.2.toNat):Nat):Int))),.av (e_str (lget v4.1 v4.2.1)),.xs (v6.map e_str)] (hc h12 (hc (ldr_ok e_str h13) (hc (ixr_ok e_str h14) (hc (ldr_ok e_str h15) (hc (setN e_str hv) (hc (Nat.zero_le v4.2.1.toNat) .nil)))))) ?_
         refine LR0 ?_
         cases hF
         exact met' []
        ·cases hF
         exact met' []
       ·refine LR0 ?_
        exact Nrnq [] hF ih2
      ·refine Nexit rfl ?_
       have hF:=inrO_done hF dn2
       exact metQ (v4.1,v4.2.1) [] hF
     ·intro v2 hF
      unfold slices_Compact_string_string_v1_J2 at hF
      obtain ⟨h5,hF⟩:=aE hF
      refine NRL ((lclear v2.1 v2.2.toNat (v2.1.length - v2.2.toNat) (([]:List UInt8):List UInt8))) (fun v3:List (List UInt8)=>([],[],[(100000,.q 9 1 0 0 rc rn (v3.map e_str))],[])) [.vw (v2.1.length - v2.2.toNat),.xs ((lclear v2.1 v2.2.toNat (v2.1.length - v2.2.toNat) (([]:List UInt8):List UInt8)).map e_str)] [0,3] [] [100000] [] (hc (vw10_ok e_str h5) (hc (clr_ok e_str v2.1 v2.2.toNat (v2.1.length - v2.2.toNat) (([]:List UInt8):List UInt8)) (hc (Nat.zero_le v2.2.toNat) .nil))) (fun v3 hv=>?_)
      have hF:=lt_elim hF hv
      obtain ⟨h6,hF⟩:=aE hF
      refine VR [.vw v2.2.toNat] [2] [] [100000] [] [(2,.rowv 100000 0 0 v2.2.toNat)] [] [(100000,.q 9 1 0 0 rc rn (v3.map e_str))] [] (hc (vw01_ok (cm:=rc) e_str h6) .nil) ?_
      obtain ⟨h7,hF⟩:=aE hF
      refine Wk_truncL 2 100000 0 v2.2.toNat ((v3.take v2.2.toNat).map e_str) rfl rfl rfl rfl (tk_ok e_str h7).1 (Nat.zero_le _) (List.map_take).symm ?_
      have hF:=ret_done hF dn1
      cases hF
      exact Wz [(100000,⟨1,false,true,false⟩)] hfin
    ·refine LR0 ?_
     exact Nrnq [] hF ih1
   ·refine Nexit rfl ?_
    have hF:=inrO_done hF dn1
    exact metQ () [] hF
  ·intro v hF
   unfold slices_Compact_string_string_v1_J1 at hF
   refine LR0 ?_
   cases hF
   exact Wz [(100000,⟨1,false,false,false⟩)] hfin

/- tablet.Halve -/
noncomputable def tablet_Halve_J1 (v:Fault×Fault×List (List UInt8)):Option (List UInt8×Fault):=
 ob (slices_Compact_string_string_v1 v.2.2) fun x2=>
 if (decide ((x2.length:Int)<2))=true then
  lt (tablet_fault 6 0) fun x3=>
  some (([]:List UInt8),x3)
 else
  asrt (0≤w64 (Int.tdiv (x2.length:Int) 2)∧w64 (Int.tdiv (x2.length:Int) 2)<(x2.length:Int)) <|
  asrt (0≤w64 (Int.tdiv (x2.length:Int) 2)∧w64 (Int.tdiv (x2.length:Int) 2)<(x2.length:Int)) <|
  some ((lget x2 (w64 (Int.tdiv (x2.length:Int) 2))),v.2.1)
noncomputable def tablet_Halve_B1 (x1:List Cell×List Cell) (v1:Fault×Fault×List (List UInt8)×Int):Option ((Fault×Fault×List (List UInt8)×Int)⊕(List UInt8×Fault)):=
 if (decide (v1.2.2.2<(x1.1.length:Int)))=true then
  asrt (0≤v1.2.2.2∧v1.2.2.2<(x1.1.length:Int)) <|
  asrt (0≤v1.2.2.2∧v1.2.2.2<(x1.1.length:Int)) <|
  asrt (((v1.2.2.1++([(lget x1.1 v1.2.2.2).Row]:List (List UInt8))).length:Int)*16≤140737488351232) <|
  some (Sum.inl (v1.1,v1.2.1,(v1.2.2.1++([(lget x1.1 v1.2.2.2).Row]:List (List UInt8))),w64 (v1.2.2.2+1)))
 else
  inrO (tablet_Halve_J1 (v1.1,v1.2.1,v1.2.2.1))
noncomputable def tablet_Halve_L1 (x1:List Cell×List Cell) (v0:Fault×Fault×List (List UInt8)×Int):Option (List UInt8×Fault):=
 loopO (fun y=>tablet_Halve_B1 x1 y) v0
noncomputable def tablet_Halve (t0:Tablet):Option (List UInt8×Fault):=
 ob (tablet_load t0) fun x=>
 sm x (fun (x:Fault)=>
  if (!decide (x.Code=0))=true then
   some (([]:List UInt8),x)
  else
   none) (fun (x:List UInt8×Int×List (List UInt8)×Int×Int×List Note×Int×List Cell×List (List Cell)×Fault)=>
  if (!decide (x.2.2.2.2.2.2.2.2.2.Code=0))=true then
   some (([]:List UInt8),x.2.2.2.2.2.2.2.2.2)
  else
   ob (tablet_tab_all x.1 x.2.1 x.2.2.1 x.2.2.2.1 x.2.2.2.2.1 x.2.2.2.2.2.2.1 x.2.2.2.2.2.1 x.2.2.2.2.2.2.2.1 x.2.2.2.2.2.2.2.2.1) fun x1=>
   tablet_Halve_L1 x1 ((⟨0,0⟩:Fault),x.2.2.2.2.2.2.2.2.2,([]:List (List UInt8)),0))
theorem tablet_Halve_ok (t0:Tablet) (r:List UInt8×Fault) (hF:tablet_Halve t0=some r):Pe Tryz.prog 40 S.none [.agg (c_Tablet t0)] (.tup [.str r.1,.agg (c_Fault r.2)]) S.none:=by
 refine PT 44 [.tmp 2,.cell 3 35] [9,35] Tryz.func40 ?_
 intro Q g hfin
 unfold tablet_Halve at hF
 refine LR0 ?_
 obtain ⟨x,h0,hF⟩:=oE hF
 rcases x with x | x
 ·have hF:=sm_l hF
  refine LR [.callB (.tup [.nilp,.agg (c_Fault x)])] (hc (tablet_load_okl t0 x h0) .nil) ?_
  refine LR0 ?_
  refine Nif hF ?_ ?_ <;> intro hb hF
  ·refine LD0 ?_
   cases hF
   exact Wz [] hfin
  ·refine LR0 ?_
   cases hF
 ·have hF:=sm_r hF
  have p1:=(Pe.ren (tablet_load_okr t0 x h0) ⟨[(49,11)],[(54,11),(143,20011),(149,40011)],[],[]⟩)
  refine LR [cE [] [] [] [] p1] (hc p1 .nil) ?_
  refine LR0 ?_
  refine Nif hF ?_ ?_ <;> intro hb hF
  ·refine LD0 ?_
   cases hF
   exact Wz [] hfin
  ·refine LR0 ?_
   obtain ⟨x1,h2,hF⟩:=oE hF
   have p3:=(Pe.ren (tablet_tab_all_ok x.1 x.2.1 x.2.2.1 x.2.2.2.1 x.2.2.2.2.1 x.2.2.2.2.2.2.1 x.2.2.2.2.2.1 x.2.2.2.2.2.2.2.1 x.2.2.2.2.2.2.2.2.1 ((x.2.2.2.2.2.1.map e_Note).length) 0 true ((x.2.2.2.2.2.2.2.1.map e_Cell).length) 0 false 0 0 true x1 h2) ⟨[(100000,11)],[(100000,11),(100001,40011),(100002,20011),(5,19)],[],[]⟩)
   refine VR [cE [11] [11,40011,20011] [] [] p3,.nat (x1.1.length:Int)] [3,5,6,19,20,21] [3,5] [19] [] [(3,.ptr 3 0),(5,.ptr 5 0),(6,.nils),(19,.row 19 1),(20,.i (x1.1.length:Int)),(21,.i 0)] [(3,[.i 0,.i 0]),(5,(c_Fault x.2.2.2.2.2.2.2.2.2))] [(19,.o 53 5 1 (x1.1.map e_Cell))] [] (hc p3 (hc (len_ok e_Cell x1.1) .nil)) ?_
   refine NmeetP (fun v:Fault×Fault×List (List UInt8)=>(⟨[(3,.ptr 3 0),(5,.ptr 5 0),(6,.row 29 0)],[(3,(c_Fault v.1)),(5,(c_Fault v.2.1))],[(29,.z 9 1 0 (v.2.2.map e_str))],[],[]⟩:S)) (fun v=>tablet_Halve_J1 v=some r) ?_ ?_
   ·refine Nblk ?_
    unfold tablet_Halve_L1 at hF
    refine Wk_nilrow 6 60000 9 1 rfl rfl rfl ?_
    refine Wk_trim (fs:=[3,5,6,19,20,21]) (bs:=[3,5]) (rs:=[19,60000]) (ms:=[]) (aa:=[]) (nv:=[]) rfl ?_
    refine Wk_ren' ⟨[],[(60000,29)],[],[]⟩ rfl ?_
    refine Nitq (fun v1:Fault×Fault×List (List UInt8)×Int=>(⟨[(3,.ptr 3 0),(5,.ptr 5 0),(6,.row 29 0),(19,.row 19 1),(20,.i (x1.1.length:Int)),(21,.i v1.2.2.2)],[(3,(c_Fault v1.1)),(5,(c_Fault v1.2.1))],[(19,.o 53 5 1 (x1.1.map e_Cell)),(29,.z 9 1 0 (v1.2.2.1.map e_str))],[],[]⟩:S)) [] hF ?_
    intro n1 v1 y1 hF ih1 dn1
    unfold tablet_Halve_B1 at hF
    refine LR0 ?_
    refine Nif hF ?_ ?_ <;> intro hb hF
    ·refine Nblk ?_
     obtain ⟨h9,h10,hF⟩:=asrt2 hF
     refine LR [.av (e_Cell (lget x1.1 v1.2.2.2))] (hc (ixr_ok e_Cell h9) (hc (ldr_ok e_Cell h10) .nil)) ?_
     obtain ⟨h11,hF⟩:=aE hF
     refine LR [.sealed,.xs ((v1.2.2.1++([(lget x1.1 v1.2.2.2).Row]:List (List UInt8))).map e_str)] (hc (app_ok e_str v1.2.2.1 ([(lget x1.1 v1.2.2.2).Row]:List (List UInt8))) (hc (appl_ok e_str h11) .nil)) ?_
     refine LR0 ?_
     exact Nrnq [(29,⟨0,true,true,false⟩)] hF ih1
    ·refine Nexit rfl ?_
     have hF:=inrO_done hF dn1
     exact metQ (v1.1,v1.2.1,v1.2.2.1) [] hF
   ·intro v hF
    unfold tablet_Halve_J1 at hF
    obtain ⟨x2,h4,hF⟩:=oE hF
    have p5:=(Pe.ren (slices_Compact_string_string_v1_ok v.2.2 0 0 true x2 h4) ⟨[],[(100000,29)],[],[]⟩)
    refine LR [cE [] [29] [] [] p5] (hc p5 .nil) ?_
    refine LR [.nat (x2.length:Int)] (hc (len_ok e_str x2) .nil) ?_
    refine Nif hF ?_ ?_ <;> intro hb hF
    ·obtain ⟨x3,h6,hF⟩:=lS hF
     refine LR [.callB (.agg (c_Fault x3))] (hc (tablet_fault_ok 6 0 x3 h6) .nil) ?_
     cases hF
     exact Wz [] hfin
    ·obtain ⟨h7,hF⟩:=aE hF
     obtain ⟨h8,hF⟩:=aE hF
     refine LD [.nat (x2.length:Int),.av (e_str (lget x2 (w64 (Int.tdiv (x2.length:Int) 2))))] (hc (len_ok e_str x2) (hc (by decide:(2:Int)≠0) (hc (ixr_ok e_str h7) (hc (ldr_ok e_str h8) .nil)))) ?_
     cases hF
     exact Wz [] hfin

/- tablet.Part$1 -/
noncomputable def tablet_Part_1 (box:Int) (box1 box2:List UInt8) (box3:Tablet):Option Fault:=
 lt (tablet_sized box) fun x=>
 if (!decide (x.Code=0))=true then
  some x
 else
  none
theorem tablet_Part_1_ok (box:Int) (box1 box2:List UInt8) (box3:Tablet) (r:Fault) (hF:tablet_Part_1 box box1 box2 box3=some r):Pe Tryz.prog 94 ⟨[],[(100000,[.i box]),(100001,[.str box1]),(100002,[.str box2]),(100003,(c_Tablet box3))],[],[],[]⟩ [.nilp,.ptr 100000 0,.ptr 100001 0,.ptr 100002 0,.ptr 100003 0] (.agg (c_Fault r)) ⟨[],[(100000,[.i box]),(100001,[.str box1]),(100002,[.str box2]),(100003,(c_Tablet box3))],[],[],[]⟩:=by
 refine PT 48 [.cell 6 35] [35] Tryz.func94 ?_
 intro Q g hfin
 unfold tablet_Part_1 at hF
 refine LR0 ?_
 obtain ⟨x,h0,hF⟩:=lS hF
 refine LR [.callB (.agg (c_Fault x))] (hc (tablet_sized_ok box x h0) .nil) ?_
 refine LR0 ?_
 refine Nif hF ?_ ?_ <;> intro hb hF
 ·refine LR0 ?_
  cases hF
  exact Wz [] hfin
 ·cases hF

/- tablet.Part$1$1 -/
noncomputable def tablet_Part_1_1 (c:Cell) (box box1:List UInt8):Bool:=
 lt ((Op.bytesLess c.Row box)||((!decide (box1=([]:List UInt8)))&&(!Op.bytesLess c.Row box1))) fun (v:Bool)=>
 v
theorem tablet_Part_1_1_ok (c:Cell) (box box1:List UInt8) (r:Bool) (hF:tablet_Part_1_1 c box box1=r):Pe Tryz.prog 96 ⟨[],[(100000,[.str box]),(100001,[.str box1])],[],[],[]⟩ [.agg (c_Cell c),.ptr 100000 0,.ptr 100001 0] (.bool r) ⟨[],[(100000,[.str box]),(100001,[.str box1])],[],[],[]⟩:=by
 refine PT 19 [.tmp 4] [4] Tryz.func96 ?_
 intro Q g hfin
 unfold tablet_Part_1_1 at hF
 refine LR0 ?_
 refine NRL ((Op.bytesLess c.Row box)||((!decide (box1=([]:List UInt8)))&&(!Op.bytesLess c.Row box1))) (fun v:Bool=>([(4,.bool v)],[],[],[])) [] [4] [100000,100001] [] [] .nil (fun v hv=>?_)
 have hF:=lt_elim hF hv
 cases hF
 exact Wz [] hfin

/- slices.IndexFunc[[]api.Cell,api.Cell] -/
noncomputable def slices_IndexFunc_api_Cell_api_Cell_v1_J1 (v:Unit):Option Int:=
 some (-1)
noncomputable def slices_IndexFunc_api_Cell_api_Cell_v1_B1 (box box1:List UInt8) (row:List Cell) (v1:Int):Option (Int⊕Int):=
 if (decide (v1<(row.length:Int)))=true then
  asrt (0≤v1∧v1<(row.length:Int)) <|
  asrt (0≤v1∧v1<(row.length:Int)) <|
  lt (tablet_Part_1_1 (⟨(lget row v1).Row,(lget row v1).Col,(lget row v1).Time,(lget row v1).Gone,(lget row v1).Value⟩:Cell) box box1) fun x=>
  if x=true then
   some (Sum.inr v1)
  else
   some (Sum.inl (w64 (v1+1)))
 else
  inrO (slices_IndexFunc_api_Cell_api_Cell_v1_J1 ())
noncomputable def slices_IndexFunc_api_Cell_api_Cell_v1_L1 (box box1:List UInt8) (row:List Cell) (v0:Int):Option Int:=
 loopO (fun y=>slices_IndexFunc_api_Cell_api_Cell_v1_B1 box box1 row y) v0
noncomputable def slices_IndexFunc_api_Cell_api_Cell_v1 (box box1:List UInt8) (row:List Cell):Option Int:=
 slices_IndexFunc_api_Cell_api_Cell_v1_L1 box box1 row 0
theorem slices_IndexFunc_api_Cell_api_Cell_v1_ok (box box1:List UInt8) (row:List Cell) (rk rc:Nat) (rn:Bool) (r:Int) (hF:slices_IndexFunc_api_Cell_api_Cell_v1 box box1 row=some r):Pe Tryz.prog 133 ⟨[],[(100000,[.str box]),(100001,[.str box1])],[(100000,.q 53 5 0 rk rc rn (row.map e_Cell))],[],[]⟩ [.row 100000 0,.fn 96 [.ptr 100000 0,.ptr 100001 0]] (.i r) ⟨[],[(100000,[.str box]),(100001,[.str box1])],[(100000,.q 53 5 0 rk rc rn (row.map e_Cell))],[],[]⟩:=by
 refine PT 19 [.tmp 4] [3] Tryz.func133 ?_
 intro Q g hfin
 unfold slices_IndexFunc_api_Cell_api_Cell_v1 at hF
 refine LR0 ?_
 refine LR [.nat (row.length:Int)] (hc (len_ok e_Cell row) .nil) ?_
 refine NmeetP (fun v:Unit=>(⟨[],[(100000,[.str box]),(100001,[.str box1])],[(100000,.q 53 5 0 rk rc rn (row.map e_Cell))],[],[]⟩:S)) (fun v=>slices_IndexFunc_api_Cell_api_Cell_v1_J1 v=some r) ?_ ?_
 ·refine Nblk ?_
  unfold slices_IndexFunc_api_Cell_api_Cell_v1_L1 at hF
  refine Nitq (fun v1:Int=>(⟨[(0,.row 100000 0),(1,.fn 96 [.ptr 100000 0,.ptr 100001 0]),(7,.i (row.length:Int)),(8,.i v1)],[(100000,[.str box]),(100001,[.str box1])],[(100000,.q 53 5 0 rk rc rn (row.map e_Cell))],[],[]⟩:S)) [] hF ?_
  intro n1 v1 y1 hF ih1 dn1
  unfold slices_IndexFunc_api_Cell_api_Cell_v1_B1 at hF
  refine LR0 ?_
  refine Nif hF ?_ ?_ <;> intro hb hF
  ·refine Nblk ?_
   refine LR0 ?_
   obtain ⟨h0,h1,hF⟩:=asrt2 hF
   obtain ⟨x,h2,hF⟩:=lS hF
   refine LR [.av (e_Cell (lget row v1)),.callR [100000,100001] [] [] [] (.bool x)] (hc (ixr_ok e_Cell h0) (hc (ldr_ok e_Cell h1) (hc (Pe.ren (tablet_Part_1_1_ok (⟨(lget row v1).Row,(lget row v1).Col,(lget row v1).Time,(lget row v1).Gone,(lget row v1).Value⟩:Cell) box box1 x h2) ⟨[],[],[],[]⟩) .nil))) ?_
   refine Nif hF ?_ ?_ <;> intro hb hF
   ·refine LR0 ?_
    have hF:=ret_done hF dn1
    cases hF
    exact Wz [] hfin
   ·refine LR0 ?_
    exact Nrnq [] hF ih1
  ·refine Nexit rfl ?_
   have hF:=inrO_done hF dn1
   exact metQ () [] hF
 ·intro v hF
  unfold slices_IndexFunc_api_Cell_api_Cell_v1_J1 at hF
  refine LR0 ?_
  cases hF
  exact Wz [] hfin

/- slices.DeleteFunc[[]api.Cell,api.Cell] -/
noncomputable def slices_DeleteFunc_api_Cell_api_Cell_v1_J1 (v:List Cell×Int):Option (List Cell):=
 asrt (0≤v.2∧v.2≤(v.1.length:Int)) <|
 lt ((lclear v.1 v.2.toNat (v.1.length - v.2.toNat) ((⟨([]:List UInt8),([]:List UInt8),0,false,([]:List UInt8)⟩:Cell):Cell))) fun (v1:List Cell)=>
 asrt (0≤v.2∧v.2≤(v1.length:Int)) <|
 asrt (v.2.toNat≤v1.length) <|
 some (v1.take v.2.toNat)
noncomputable def slices_DeleteFunc_api_Cell_api_Cell_v1_B1 (box box1:List UInt8) (v2:List Cell×Int×Int):Option ((List Cell×Int×Int)⊕(List Cell)):=
 if (decide (v2.2.2<(v2.1.length:Int)))=true then
  asrt (0≤v2.2.2∧v2.2.2<(v2.1.length:Int)) <|
  asrt (0≤v2.2.2∧v2.2.2<(v2.1.length:Int)) <|
  lt (tablet_Part_1_1 (⟨(lget v2.1 v2.2.2).Row,(lget v2.1 v2.2.2).Col,(lget v2.1 v2.2.2).Time,(lget v2.1 v2.2.2).Gone,(lget v2.1 v2.2.2).Value⟩:Cell) box box1) fun x1=>
  ob (
   if (!x1)=true then
    asrt (0≤v2.2.1∧v2.2.1<(v2.1.length:Int)) <|
    asrt (0≤v2.2.1∧v2.2.1<(v2.1.length:Int)) <|
    lt ((lset v2.1 v2.2.1 (⟨(lget v2.1 v2.2.2).Row,(lget v2.1 v2.2.2).Col,(lget v2.1 v2.2.2).Time,(lget v2.1 v2.2.2).Gone,(lget v2.1 v2.2.2).Value⟩:Cell))) fun (v4:List Cell)=>
    some (v4,w64 (v2.2.1+1))
   else
    some (v2.1,v2.2.1)) fun (v3:List Cell×Int)=>
  some (Sum.inl (v3.1,v3.2,w64 (v2.2.2+1)))
 else
  inrO (slices_DeleteFunc_api_Cell_api_Cell_v1_J1 (v2.1,v2.2.1))
noncomputable def slices_DeleteFunc_api_Cell_api_Cell_v1_L1 (box box1:List UInt8) (v0:List Cell×Int×Int):Option (List Cell):=
 loopO (fun y=>slices_DeleteFunc_api_Cell_api_Cell_v1_B1 box box1 y) v0
noncomputable def slices_DeleteFunc_api_Cell_api_Cell_v1 (box box1:List UInt8) (row:List Cell):Option (List Cell):=
 ob (slices_IndexFunc_api_Cell_api_Cell_v1 box box1 row) fun x=>
 if (decide (x=(-1)))=true then
  some row
 else
  slices_DeleteFunc_api_Cell_api_Cell_v1_L1 box box1 (row,x,w64 (x+1))
theorem slices_DeleteFunc_api_Cell_api_Cell_v1_ok (box box1:List UInt8) (row:List Cell) (rk rc:Nat) (rn:Bool) (r:List Cell) (hF:slices_DeleteFunc_api_Cell_api_Cell_v1 box box1 row=some r):Pe Tryz.prog 95 ⟨[],[(100000,[.str box]),(100001,[.str box1])],[(100000,.q 53 5 0 0 rc rn (row.map e_Cell))],[],[]⟩ [.row 100000 0,.fn 96 [.ptr 100000 0,.ptr 100001 0]] (.row 100000 1) ⟨[],[(100000,[.str box]),(100001,[.str box1])],[(100000,.o 53 5 1 (r.map e_Cell))],[],[]⟩:=by
 refine PT 42 [.tmp 4] [28] Tryz.func95 ?_
 intro Q g hfin
 unfold slices_DeleteFunc_api_Cell_api_Cell_v1 at hF
 refine LR0 ?_
 obtain ⟨x,h0,hF⟩:=oE hF
 refine LR [.callR [100000,100001] [100000] [] [] (.i x)] (hc (Pe.ren (slices_IndexFunc_api_Cell_api_Cell_v1_ok box box1 row 0 rc rn x h0) ⟨[],[],[],[]⟩) .nil) ?_
 refine LR0 ?_
 refine Nif hF ?_ ?_ <;> intro hb hF
 ·refine LR0 ?_
  cases hF
  exact Wz [(100000,⟨1,false,false,false⟩)] hfin
 ·refine LR0 ?_
  refine NmeetP (fun v:List Cell×Int=>(⟨[(0,.row 100000 0),(5,.i v.2)],[(100000,[.str box]),(100001,[.str box1])],[(100000,.q 53 5 0 0 rc rn (v.1.map e_Cell))],[],[]⟩:S)) (fun v=>slices_DeleteFunc_api_Cell_api_Cell_v1_J1 v=some r) ?_ ?_
  ·refine Nblk ?_
   unfold slices_DeleteFunc_api_Cell_api_Cell_v1_L1 at hF
   refine Nitq (fun v2:List Cell×Int×Int=>(⟨[(0,.row 100000 0),(1,.fn 96 [.ptr 100000 0,.ptr 100001 0]),(5,.i v2.2.1),(6,.i v2.2.2)],[(100000,[.str box]),(100001,[.str box1])],[(100000,.q 53 5 0 0 rc rn (v2.1.map e_Cell))],[],[]⟩:S)) [] hF ?_
   intro n1 v2 y1 hF ih1 dn1
   unfold slices_DeleteFunc_api_Cell_api_Cell_v1_B1 at hF
   refine LR [.nat (v2.1.length:Int)] (hc (len_ok e_Cell v2.1) .nil) ?_
   refine Nif hF ?_ ?_ <;> intro hb hF
   ·refine Nblk ?_
    obtain ⟨h4,h5,hF⟩:=asrt2 hF
    refine LR [.av (e_Cell (lget v2.1 v2.2.2))] (hc (ixr_ok e_Cell h4) (hc (ldr_ok e_Cell h5) .nil)) ?_
    obtain ⟨x1,h6,hF⟩:=lS hF
    refine LR [.callR [100000,100001] [] [] [] (.bool x1)] (hc (Pe.ren (tablet_Part_1_1_ok (⟨(lget v2.1 v2.2.2).Row,(lget v2.1 v2.2.2).Col,(lget v2.1 v2.2.2).Time,(lget v2.1 v2.2.2).Gone,(lget v2.1 v2.2.2).Value⟩:Cell) box box1 x1 h6) ⟨[],[],[],[]⟩) .nil) ?_
    obtain ⟨v3,hv,hF⟩:=oE hF
    refine Nmeet (⟨[(0,.row 100000 0),(1,.fn 96 [.ptr 100000 0,.ptr 100001 0]),(5,.i v3.2),(6,.i v2.2.2)],[(100000,[.str box]),(100001,[.str box1])],[(100000,.q 53 5 0 0 rc rn (v3.1.map e_Cell))],[],[]⟩:S) ?_ ?_
    ·have hF:=hv
     refine Nif hF ?_ ?_ <;> intro hb hF
     ·obtain ⟨h7,hF⟩:=aE hF
      obtain ⟨h8,hF⟩:=aE hF
      obtain ⟨v4,hv,hF⟩:=lS hF
      refine LR [.av (e_Cell (lget v2.1 v2.2.1)),.xs (v4.map e_Cell)] (hc (ixr_ok e_Cell h7) (hc (ldr_ok e_Cell h8) (hc (setN e_Cell hv) (hc (Nat.zero_le v2.2.1.toNat) .nil)))) ?_
      refine LR0 ?_
      cases hF
      exact met' []
     ·cases hF
      exact met' []
    ·refine LR0 ?_
     exact Nrnq [] hF ih1
   ·refine Nexit rfl ?_
    have hF:=inrO_done hF dn1
    exact metQ (v2.1,v2.2.1) [] hF
  ·intro v hF
   unfold slices_DeleteFunc_api_Cell_api_Cell_v1_J1 at hF
   obtain ⟨h1,hF⟩:=aE hF
   refine NRL ((lclear v.1 v.2.toNat (v.1.length - v.2.toNat) ((⟨([]:List UInt8),([]:List UInt8),0,false,([]:List UInt8)⟩:Cell):Cell))) (fun v1:List Cell=>([],[],[(100000,.q 53 5 0 0 rc rn (v1.map e_Cell))],[])) [.vw (v.1.length - v.2.toNat),.xs ((lclear v.1 v.2.toNat (v.1.length - v.2.toNat) ((⟨([]:List UInt8),([]:List UInt8),0,false,([]:List UInt8)⟩:Cell):Cell)).map e_Cell)] [0,5] [100000,100001] [100000] [] (hc (vw10_ok e_Cell h1) (hc (clr_ok e_Cell v.1 v.2.toNat (v.1.length - v.2.toNat) ((⟨([]:List UInt8),([]:List UInt8),0,false,([]:List UInt8)⟩:Cell):Cell)) (hc (Nat.zero_le v.2.toNat) .nil))) (fun v1 hv=>?_)
   have hF:=lt_elim hF hv
   obtain ⟨h2,hF⟩:=aE hF
   refine VR [.vw v.2.toNat] [4] [100000,100001] [100000] [] [(4,.rowv 100000 0 0 v.2.toNat)] [(100000,[.str box]),(100001,[.str box1])] [(100000,.q 53 5 0 0 rc rn (v1.map e_Cell))] [] (hc (vw01_ok (cm:=rc) e_Cell h2) .nil) ?_
   obtain ⟨h3,hF⟩:=aE hF
   refine Wk_truncL 4 100000 0 v.2.toNat ((v1.take v.2.toNat).map e_Cell) rfl rfl rfl rfl (tk_ok e_Cell h3).1 (Nat.zero_le _) (List.map_take).symm ?_
   cases hF
   exact Wz [(100000,⟨1,false,true,false⟩)] hfin

/- tablet.Part$1 -/
noncomputable def tablet_Part_1_v1 (box:List UInt8) (box1:Int) (box2:List (List UInt8)) (box3 box4:Int) (box5 box6:Int) (box7 box8:List UInt8) (box9:Tablet) (row:List Note) (row1:List Cell) (row2:List (List Cell)):Option (Fault×List UInt8×Int×List (List UInt8)×Int×Int×Int×List Cell):=
 lt (tablet_sized box6) fun x=>
 if (!decide (x.Code=0))=true then
  some (x,box,box1,box2,box3,box4,box5,row1)
 else
  ob (tablet_tab_all box box1 box2 box3 box4 box5 row row1 row2) fun x1=>
  ob (slices_DeleteFunc_api_Cell_api_Cell_v1 box7 box8 x1.1) fun x2=>
  if (decide ((x2.length:Int)=0))=true then
   some ((⟨0,0⟩:Fault),([]:List UInt8),0,([]:List (List UInt8)),box5,box9.Since,box5,x1.2)
  else
   ob (file_Make x2 box6) fun x3=>
   some (x3.2,([]:List UInt8),0,([x3.1]:List (List UInt8)),box5,box9.Since,box5,x1.2)
theorem tablet_Part_1_v1_ok (box:List UInt8) (box1:Int) (box2:List (List UInt8)) (box3 box4:Int) (box5 box6:Int) (box7 box8:List UInt8) (box9:Tablet) (row:List Note) (row1:List Cell) (row2:List (List Cell)) (rk rc:Nat) (rn:Bool) (rk1 rc1:Nat) (rn1:Bool) (rk2 rc2:Nat) (rn2:Bool) (r:Fault×List UInt8×Int×List (List UInt8)×Int×Int×Int×List Cell) (hF:tablet_Part_1_v1 box box1 box2 box3 box4 box5 box6 box7 box8 box9 row row1 row2=some r):Pe Tryz.prog 94 ⟨[],[(100000,[.sl 1 (box.map e_u8),.i box1,.sl 1 (box2.map e_L_u8),.i box3,.i box4,.row 100000 0,.i box5,.row 100001 0,.row 100002 0]),(100001,[.i box6]),(100002,[.str box7]),(100003,[.str box8]),(100004,(c_Tablet box9))],[(100000,.q 50 2 0 rk rc rn (row.map e_Note)),(100001,.q 53 5 0 rk1 rc1 rn1 (row1.map e_Cell)),(100002,.q 28 1 0 rk2 rc2 rn2 (row2.map e_L_Cell))],[],[]⟩ [.ptr 100000 0,.ptr 100001 0,.ptr 100002 0,.ptr 100003 0,.ptr 100004 0] (.agg (c_Fault r.1)) ⟨[],[(100000,[.sl 1 (r.2.1.map e_u8),.i r.2.2.1,.sl 1 (r.2.2.2.1.map e_L_u8),.i r.2.2.2.2.1,.i r.2.2.2.2.2.1,.row 100000 0,.i r.2.2.2.2.2.2.1,.row 100001 0,.row 100002 0]),(100001,[.i box6]),(100002,[.str box7]),(100003,[.str box8]),(100004,(c_Tablet box9))],[(100000,.q 50 2 0 rk rc rn (row.map e_Note)),(100001,⟨53,5,0,(r.2.2.2.2.2.2.2.map e_Cell).length,rc1,rn1,0,[],(r.2.2.2.2.2.2.2.map e_Cell)⟩),(100002,.q 28 1 0 rk2 rc2 rn2 (row2.map e_L_Cell))],[],[]⟩:=by
 refine PT 48 [.cell 6 35] [35] Tryz.func94 ?_
 intro Q g hfin
 unfold tablet_Part_1_v1 at hF
 refine LR0 ?_
 obtain ⟨x,h0,hF⟩:=lS hF
 refine LR [.callB (.agg (c_Fault x))] (hc (tablet_sized_ok box6 x h0) .nil) ?_
 refine LR0 ?_
 refine Nif hF ?_ ?_ <;> intro hb hF
 ·refine LR0 ?_
  cases hF
  exact Wz [(100001,⟨0,true,true,true⟩)] hfin
 ·obtain ⟨x1,h1,hF⟩:=oE hF
  have p2:=(Pe.ren (tablet_tab_all_ok box box1 box2 box3 box4 box5 row row1 row2 rk rc rn rk1 rc1 rn1 rk2 rc2 rn2 x1 h1) ⟨[],[(5,18)],[],[]⟩)
  obtain ⟨x2,h3,hF⟩:=oE hF
  have p4:=(Pe.ren (slices_DeleteFunc_api_Cell_api_Cell_v1_ok box7 box8 x1.1 0 0 false x2 h3) ⟨[(100000,100002),(100001,100003)],[(100000,18)],[],[(100000,1)]⟩)
  refine LR [cE [100000] [100000,100001,100002] [] [] p2,cE [100002,100003] [18] [] [] p4] (hc p2 (hc p4 .nil)) ?_
  refine LD0 ?_
  refine LR [.nat (x2.length:Int)] (hc (len_ok e_Cell x2) .nil) ?_
  refine Nif hF ?_ ?_ <;> intro hb hF
  ·refine VR [] [6] [6,100000,100001,100002,100003,100004] [100000,100001,100002] [] [(6,.ptr 6 0)] [(6,[.i 0,.i 0]),(100000,[.nils,.i 0,.nils,.i box5,.i box9.Since,.row 100000 0,.i box5,.row 100001 0,.row 100002 0]),(100001,[.i box6]),(100002,[.str box7]),(100003,[.str box8]),(100004,(c_Tablet box9))] [(100000,.q 50 2 0 rk rc rn (row.map e_Note)),(100001,⟨53,5,0,(x1.2.map e_Cell).length,rc1,rn1,0,[],(x1.2.map e_Cell)⟩),(100002,.q 28 1 0 rk2 rc2 rn2 (row2.map e_L_Cell))] [] .nil ?_
   cases hF
   refine Wk_coeB 100000 [.sl 1 (([]:List UInt8).map e_u8),.i 0,.sl 1 (([]:List (List UInt8)).map e_L_u8),.i box5,.i box9.Since,.row 100000 0,.i box5,.row 100001 0,.row 100002 0] rfl (.cons (CoeS.nils 1) (.cons (CoeS.refl _) (.cons (CoeS.nils 1) (.cons (CoeS.refl _) (.cons (CoeS.refl _) (.cons (CoeS.refl _) (.cons (CoeS.refl _) (.cons (CoeS.refl _) (.cons (CoeS.refl _) .nil))))))))) ?_
   exact Wz [] hfin
  ·obtain ⟨x3,h5,hF⟩:=oE hF
   have p6:=(Pe.ren (file_Make_ok x2 box6 x3 h5) ⟨[],[(76,38)],[],[]⟩)
   refine LR [cE [] [] [] [] p6] (hc p6 .nil) ?_
   refine LR [.sealed] .nil ?_
   refine VR [] [6] [6,100000,100001,100002,100003,100004] [100000,100001,100002] [] [(6,.ptr 6 0)] [(6,(c_Fault x3.2)),(100000,[.nils,.i 0,.sl 1 (([x3.1]:List (List UInt8)).map e_L_u8),.i box5,.i box9.Since,.row 100000 0,.i box5,.row 100001 0,.row 100002 0]),(100001,[.i box6]),(100002,[.str box7]),(100003,[.str box8]),(100004,(c_Tablet box9))] [(100000,.q 50 2 0 rk rc rn (row.map e_Note)),(100001,⟨53,5,0,(x1.2.map e_Cell).length,rc1,rn1,0,[],(x1.2.map e_Cell)⟩),(100002,.q 28 1 0 rk2 rc2 rn2 (row2.map e_L_Cell))] [] .nil ?_
   cases hF
   refine Wk_coeB 100000 [.sl 1 (([]:List UInt8).map e_u8),.i 0,.sl 1 (([x3.1]:List (List UInt8)).map e_L_u8),.i box5,.i box9.Since,.row 100000 0,.i box5,.row 100001 0,.row 100002 0] rfl (.cons (CoeS.nils 1) (.cons (CoeS.refl _) (.cons (CoeS.refl _) (.cons (CoeS.refl _) (.cons (CoeS.refl _) (.cons (CoeS.refl _) (.cons (CoeS.refl _) (.cons (CoeS.refl _) (.cons (CoeS.refl _) .nil))))))))) ?_
   exact Wz [] hfin

end G
end Go.Proofs.YticbfakiihfgmaaGreat
