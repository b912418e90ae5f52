/- The program's functions as plain functions, and that they are these. Written by a program (dec2.py). -/
import Derived.Test.YthiighaapaomcaaGf2
namespace Go.Proofs.Ythiighaapaomcaa
open Go Go.Dm
set_option linter.unusedVariables false
set_option linter.unusedSimpArgs false
set_option maxRecDepth 100000
namespace G
noncomputable section
/- tabularylaw.ClanMoves -/
def law_ClanMoves_J4 (v3:Unit):Option Bool:=
 some false
def law_ClanMoves_J5 (v6:Unit):Option ((List Deed×Clan×Fault×Int)⊕Bool):=
 some (Sum.inr false)
def law_ClanMoves_J6 (v5:Int) (v7:List Deed×Clan×Fault×Int) (x4:List Deed×Clan×Fault) (v8:Bool):Option ((List Deed×Clan×Fault×Int)⊕((List Deed×Clan×Fault×Int)⊕Bool)):=
 if v8=true then
  asrt (0≤v5∧v5<(x4.2.1.Nodes.length:Int)) <|
  asrt ((decide (0<(((lget x4.2.1.Nodes v5).Log).length:Int)))=true→0≤w64 ((((lget x4.2.1.Nodes v5).Log).length:Int) - 1)∧w64 ((((lget x4.2.1.Nodes v5).Log).length:Int) - 1)<(((lget x4.2.1.Nodes v5).Log).length:Int)) <|
  asrt ((decide (0<(((lget x4.2.1.Nodes v5).Log).length:Int)))=true→0≤v5∧v5<(x4.2.1.Nodes.length:Int)) <|
  lt ((decide (0<(((lget x4.2.1.Nodes v5).Log).length:Int)))&&(decide (((lget ((lget x4.2.1.Nodes v5).Log) (w64 ((((lget x4.2.1.Nodes v5).Log).length:Int) - 1))).Term)=((lget x4.2.1.Nodes v5).Term)))) fun v9=>
  some (Sum.inr (Sum.inr v9))
 else
  some (Sum.inl (x4.1,x4.2.1,x4.2.2,w64 (v7.2.2.2+1)))
def law_ClanMoves_B3 (num v5:Int) (v7:List Deed×Clan×Fault×Int) (x4:List Deed×Clan×Fault) (v10:Bool×Int):Option ((Bool×Int)⊕((List Deed×Clan×Fault×Int)⊕((List Deed×Clan×Fault×Int)⊕Bool))):=
 if (decide (v10.2<num))=true then
  asrt (v10.1=true→0≤v10.2∧v10.2<(x4.2.1.Nodes.length:Int)) <|
  asrt (v10.1=true→0≤v5∧v5<(x4.2.1.Nodes.length:Int)) <|
  lt (v10.1&&(decide (((lget x4.2.1.Nodes v10.2).Commit)=(((lget x4.2.1.Nodes v5).Log).length:Int)))) fun v11=>
  some (Sum.inl (v11,w64 (v10.2+1)))
 else
  inrO (law_ClanMoves_J6 v5 v7 x4 v10.1)
def law_ClanMoves_L3 (num v5:Int) (v7:List Deed×Clan×Fault×Int) (x4:List Deed×Clan×Fault) (v0:Bool×Int):Option ((List Deed×Clan×Fault×Int)⊕((List Deed×Clan×Fault×Int)⊕Bool)):=
 loopO (fun y=>law_ClanMoves_B3 num v5 v7 x4 y) v0
def law_ClanMoves_B2 (num:Int) (texts:List (List UInt8)) (v5:Int) (v7:List Deed×Clan×Fault×Int):Option ((List Deed×Clan×Fault×Int)⊕((List Deed×Clan×Fault×Int)⊕Bool)):=
 if (decide (v7.2.2.2<80))=true then
  asrt (((v7.1++[(⟨2,v5,0⟩:Deed)]).length:Int)*24≤140737488351232) <|
  ob (law_calm_v1 num texts (v7.1++[(⟨2,v5,0⟩:Deed)])) fun x4=>
  if ((!decide (x4.2.2.Code=0))||(!decide ((x4.2.1.Nodes.length:Int)=num)))=true then
   some (Sum.inr (Sum.inr false))
  else
   if (decide (1700<(x4.1.length:Int)))=true then
    some (Sum.inr (Sum.inr true))
   else
    law_ClanMoves_L3 num v5 v7 x4 (true,0)
 else
  inrO (law_ClanMoves_J5 ())
def law_ClanMoves_L2 (num:Int) (texts:List (List UInt8)) (v5:Int) (v0:List Deed×Clan×Fault×Int):Option ((List Deed×Clan×Fault×Int)⊕Bool):=
 loopO (fun y=>law_ClanMoves_B2 num texts v5 y) v0
def law_ClanMoves_B1 (num:Int) (texts:List (List UInt8)) (who:Int) (v4:List Deed×Clan×Fault×Int):Option ((List Deed×Clan×Fault×Int)⊕Bool):=
 if (decide (v4.2.2.2<(w64 (4*num))))=true then
  asrt (num≠0) <|
  lt (Int.tmod (w64 ((w64 (Int.tmod (IntKind.u64.wrap who) (IntKind.u64.wrap num)))+v4.2.2.2)) num) fun v5=>
  asrt ((v4.1.length:Int)*24≤140737488351232) <|
  asrt (((v4.1++[(⟨6,v5,0⟩:Deed),(⟨0,v5,0⟩:Deed)]).length:Int)*24≤140737488351232) <|
  ob (law_calm_v1 num texts (v4.1++[(⟨6,v5,0⟩:Deed),(⟨0,v5,0⟩:Deed)])) fun x3=>
  if ((!decide (x3.2.2.Code=0))||(!decide ((x3.2.1.Nodes.length:Int)=num)))=true then
   some (Sum.inr false)
  else
   if (decide (1700<(x3.1.length:Int)))=true then
    some (Sum.inr true)
   else
    asrt (0≤v5∧v5<(x3.2.1.Nodes.length:Int)) <|
    if (!decide (((lget x3.2.1.Nodes v5).Role)=2))=true then
     some (Sum.inl (x3.1,x3.2.1,x3.2.2,w64 (v4.2.2.2+1)))
    else
     asrt (((x3.1++[(⟨1,v5,0⟩:Deed)]).length:Int)*24≤140737488351232) <|
     law_ClanMoves_L2 num texts v5 ((x3.1++[(⟨1,v5,0⟩:Deed)]),x3.2.1,x3.2.2,0)
 else
  inrO (law_ClanMoves_J4 ())
def law_ClanMoves_L1 (num:Int) (texts:List (List UInt8)) (who:Int) (v0:List Deed×Clan×Fault×Int):Option Bool:=
 loopO (fun y=>law_ClanMoves_B1 num texts who y) v0
def law_ClanMoves_J3 (num:Int) (texts:List (List UInt8)) (who:Int) (x2:Clan×Fault) (v1:List Deed) (v2:Int):Option Bool:=
 if (decide ((texts.length:Int)≤v2))=true then
  some true
 else
  asrt ((IntKind.u64.wrap num)≠0) <|
  law_ClanMoves_L1 num texts who (v1,x2.1,x2.2,0)
def law_ClanMoves_B4 (num:Int) (texts:List (List UInt8)) (deeds:List Deed) (who:Int) (x2:Clan×Fault) (v1:List Deed) (v12:Int×Int):Option ((Int×Int)⊕Bool):=
 if (decide (v12.2<(deeds.length:Int)))=true then
  asrt (0≤v12.2∧v12.2<(deeds.length:Int)) <|
  ob (
   if (decide (((lget deeds v12.2).Kind)=1))=true then
    some (w64 (v12.1+1))
   else
    some v12.1) fun v13=>
  some (Sum.inl (v13,w64 (v12.2+1)))
 else
  inrO (law_ClanMoves_J3 num texts who x2 v1 v12.1)
def law_ClanMoves_L4 (num:Int) (texts:List (List UInt8)) (deeds:List Deed) (who:Int) (x2:Clan×Fault) (v1:List Deed) (v0:Int×Int):Option Bool:=
 loopO (fun y=>law_ClanMoves_B4 num texts deeds who x2 v1 y) v0
def law_ClanMoves_J2 (num:Int) (texts:List (List UInt8)) (deeds:List Deed) (who:Int) (x2:Clan×Fault) (v1:List Deed):Option Bool:=
 law_ClanMoves_L4 num texts deeds who x2 v1 (0,0)
def law_ClanMoves_B5 (num:Int) (texts:List (List UInt8)) (deeds:List Deed) (who:Int) (x2:Clan×Fault) (v14:List Deed×Int):Option ((List Deed×Int)⊕Bool):=
 if (decide (0<v14.2))=true then
  asrt (((v14.1++[(⟨5,0,w64 (v14.2 - 1)⟩:Deed)]).length:Int)*24≤140737488351232) <|
  some (Sum.inl ((v14.1++[(⟨5,0,w64 (v14.2 - 1)⟩:Deed)]),w64 (v14.2 - 1)))
 else
  inrO (law_ClanMoves_J2 num texts deeds who x2 v14.1)
def law_ClanMoves_L5 (num:Int) (texts:List (List UInt8)) (deeds:List Deed) (who:Int) (x2:Clan×Fault) (v0:List Deed×Int):Option Bool:=
 loopO (fun y=>law_ClanMoves_B5 num texts deeds who x2 y) v0
def law_ClanMoves_J1 (num:Int) (texts:List (List UInt8)) (deeds:List Deed) (who:Int) (v:Unit):Option Bool:=
 asrt ((deeds.length:Int)*24≤140737488351232) <|
 ob (R_Games_v1 num texts deeds) fun x1=>
 if (!decide (x1.2.Code=0))=true then
  some true
 else
  ob (clan_Play_v1 num texts deeds) fun x2=>
  if (!decide (x2.2.Code=0))=true then
   some false
  else
   law_ClanMoves_L5 num texts deeds who x2 (deeds,(x2.1.Way.length:Int))
def law_ClanMoves_B6 (num:Int) (texts:List (List UInt8)) (deeds:List Deed) (who v15:Int):Option (Int⊕Bool):=
 if (decide (v15<(texts.length:Int)))=true then
  asrt (0≤v15∧v15<(texts.length:Int)) <|
  if (decide (200<((lget texts v15).length:Int)))=true then
   some (Sum.inr true)
  else
   some (Sum.inl (w64 (v15+1)))
 else
  inrO (law_ClanMoves_J1 num texts deeds who ())
def law_ClanMoves_L6 (num:Int) (texts:List (List UInt8)) (deeds:List Deed) (who v0:Int):Option Bool:=
 loopO (fun y=>law_ClanMoves_B6 num texts deeds who y) v0
def law_ClanMoves (num:Int) (texts:List (List UInt8)) (deeds:List Deed) (who:Int):Option Bool:=
 ob (law_clanBegun) fun x=>
 if (!x)=true then
  some false
 else
  if (((((decide (100<(deeds.length:Int)))||(decide ((texts.length:Int)=0)))||(decide (90<(texts.length:Int))))||(decide (num<1)))||(decide (7<num)))=true then
   some true
  else
   law_ClanMoves_L6 num texts deeds who 0
theorem law_ClanMoves_ok {num texts deeds who r} (hF:law_ClanMoves num texts deeds who=some r):Pe Try.prog 6 S.none [.i num,.sl 1 (texts.map e_str),.sl 3 (deeds.map e_Deed),.i who] (.bool r) S.none:=by
 refine PT 251 [.tmp 8] [4] Try.func6 ?_
 intro Q g hfin
 unfold law_ClanMoves at hF
 refine LR0 ?_
 obtain ⟨x,h0,hF⟩:=oE hF
 refine RJ (.b (law_clanBegun_ok h0) .z) ?_
 refine Nif hF ?_ ?_ <;> intro hb hF
 ·refine LR0 ?_
  cases hF
  exact Wz [] hfin
 ·refine RJ (.l e_Deed deeds (.a (.nat (texts.length:Int)) (.g (fun (_:(!(decide (100<(deeds.length:Int))))=true)=>(len_ok e_str texts)) (.a (.nat (texts.length:Int)) (.g (fun (_:(!((decide (100<(deeds.length:Int)))||(decide ((texts.length:Int)=0))))=true)=>(len_ok e_str texts)) .z))))) ?_
  refine Nif hF ?_ ?_ <;> intro hb hF
  ·refine LR0 ?_
   cases hF
   exact Wz [] hfin
  ·refine LR0 ?_
   refine NmS (fun v=>law_ClanMoves_J1 num texts deeds who v=some r) (fun Z v=>Z.up [0,1,2,3] [] [] [] [] [] [] []) ?_ ?_
   ·refine Nblk ?_
    unfold law_ClanMoves_L6 at hF
    refine Nits hF [] (fun Z v15=>Z.up [0,1,2,3,9] [] [] [] [(9,.i v15)] [] [] []) ?_
    intro n1 v15 y1 hF ih1 dn1
    unfold law_ClanMoves_B6 at hF
    refine RJ (.l e_str texts .z) ?_
    refine Nif hF ?_ ?_ <;> intro hb hF
    ·refine Nblk ?_
     obtain ⟨h22,hF⟩:=aE hF
     refine RJ (.i e_str h22 .z) ?_
     refine Nif hF ?_ ?_ <;> intro hb hF
     ·refine LR0 ?_
      have hF:=ret_done hF dn1
      cases hF
      exact Wz [] hfin
     ·refine LR0 ?_
      exact Nrnq [] hF ih1
    ·refine Nexit rfl ?_
     have hF:=inrO_done hF dn1
     exact metQ () [] hF
   ·intro v hF
    unfold law_ClanMoves_J1 at hF
    obtain ⟨h1,hF⟩:=aE hF
    refine RJ (.p0 e_Deed h1 .z) ?_
    obtain ⟨x1,h2,hF⟩:=oE hF
    refine RJ (.c (R_Games_v1_ok h2) .z) ?_
    refine LR0 ?_
    refine Nif hF ?_ ?_ <;> intro hb hF
    ·refine LR0 ?_
     cases hF
     exact Wz [] hfin
    ·obtain ⟨x2,h3,hF⟩:=oE hF
     refine RJ (.c (clan_Play_v1_ok h3) .z) ?_
     refine LR0 ?_
     refine Nif hF ?_ ?_ <;> intro hb hF
     ·refine LR0 ?_
      cases hF
      exact Wz [] hfin
     ·refine RJ (.l e_Mail x2.1.Way .z) ?_
      refine NmS (fun v1=>law_ClanMoves_J2 num texts deeds who x2 v1=some r) (fun Z v1=>Z.up [0,1,2,3,10,13,14] [13,14] [61] [] [(10,.row 61 0)] [] [(61,⟨35,3,0,(v1.map e_Deed).length,0,true,0,[],(v1.map e_Deed)⟩)] []) ?_ ?_
      ·refine Nblk ?_
       unfold law_ClanMoves_L5 at hF
       refine Nits hF [(61,⟨0,true,true,true⟩)] (fun Z v14=>Z.up [0,1,2,3,10,13,14,15] [13,14] [61] [] [(10,.row 61 0),(15,.i v14.2)] [] [(61,⟨35,3,0,(v14.1.map e_Deed).length,0,true,0,[],(v14.1.map e_Deed)⟩)] []) ?_
       intro n1 v14 y1 hF ih1 dn1
       unfold law_ClanMoves_B5 at hF
       refine LR0 ?_
       refine Nif hF ?_ ?_ <;> intro hb hF
       ·refine Nblk ?_
        obtain ⟨h21,hF⟩:=aE hF
        refine RJ (.a (.sealed) (.p e_Deed h21 .z)) ?_
        refine LR0 ?_
        exact Nrnq [(61,⟨0,true,true,true⟩)] hF ih1
       ·refine Nexit rfl ?_
        have hF:=inrO_done hF dn1
        exact metQ v14.1 [] hF
      ·intro v1 hF
       unfold law_ClanMoves_J2 at hF
       refine LR0 ?_
       refine LR0 ?_
       refine NmS (fun v2=>law_ClanMoves_J3 num texts who x2 v1 v2=some r) (fun Z v2=>Z.up [0,1,3,10,13,14,16] [13,14] [61] [] [(16,.i v2)] [] [] []) ?_ ?_
       ·refine Nblk ?_
        unfold law_ClanMoves_L4 at hF
        refine Nits hF [] (fun Z v12=>Z.up [0,1,2,3,10,13,14,16,17] [13,14] [61] [] [(16,.i v12.1),(17,.i v12.2)] [] [] []) ?_
        intro n1 v12 y1 hF ih1 dn1
        unfold law_ClanMoves_B4 at hF
        refine RJ (.l e_Deed deeds .z) ?_
        refine Nif hF ?_ ?_ <;> intro hb hF
        ·refine Nblk ?_
         obtain ⟨h20,hF⟩:=aE hF
         refine RJ (.i e_Deed h20 .z) ?_
         obtain ⟨v13,hv,hF⟩:=oE hF
         refine NmT (fun Z=>Z.up [0,1,2,3,10,13,14,16,17] [13,14] [61] [] [(16,.i v13)] [] [] []) ?_ ?_
         ·have hF:=hv
          refine Nif hF ?_ ?_ <;> intro hb hF
          ·refine LR0 ?_
           cases hF
           exact met' []
          ·cases hF
           exact met' []
         ·refine LR0 ?_
          exact Nrnq [] hF ih1
        ·refine Nexit rfl ?_
         have hF:=inrO_done hF dn1
         exact metQ v12.1 [] hF
       ·intro v2 hF
        unfold law_ClanMoves_J3 at hF
        refine RJ (.l e_str texts .z) ?_
        refine Nif hF ?_ ?_ <;> intro hb hF
        ·refine LR0 ?_
         cases hF
         exact Wz [] hfin
        ·obtain ⟨h4,hF⟩:=aE hF
         refine RJ (.g h4 .z) ?_
         refine LR0 ?_
         refine NmQ (fun v3=>law_ClanMoves_J4 v3=some r) (fun v3=>(.w [])) ?_ ?_
         ·refine Nblk ?_
          unfold law_ClanMoves_L1 at hF
          refine Nits hF [] (fun Z v4=>Z.up [0,1,3,10,13,14,18] [13,14] [61] [] [(18,.i v4.2.2.2)] [(13,(c_Clan v4.2.1)),(14,(c_Fault v4.2.2.1))] [(61,⟨35,3,0,(v4.1.map e_Deed).length,0,true,0,[],(v4.1.map e_Deed)⟩)] []) ?_
          intro n1 v4 y1 hF ih1 dn1
          unfold law_ClanMoves_B1 at hF
          refine LR0 ?_
          refine Nif hF ?_ ?_ <;> intro hb hF
          ·refine Nblk ?_
           obtain ⟨h5,hF⟩:=aE hF
           refine NRL (Int.tmod (w64 ((w64 (Int.tmod (IntKind.u64.wrap who) (IntKind.u64.wrap num)))+v4.2.2.2)) num) (fun v5:Int=>([(19,.i v5)],[],[],[])) [] [0,1,3,10,13,14,18,19] [13,14] [61] [] (hc h5 .nil) (fun v5 hv=>?_)
           have hF:=lt_elim hF hv
           obtain ⟨h6,hF⟩:=aE hF
           refine RJ (.p0 e_Deed h6 .z) ?_
           obtain ⟨h7,hF⟩:=aE hF
           refine RJ (.a (.sealed) (.p e_Deed h7 .z)) ?_
           obtain ⟨x3,h8,hF⟩:=oE hF
           have p9:=(Pe.ren (law_calm_v1_ok 0 0 true h8) ⟨[],[(100000,131)],[],[(100000,2)]⟩)
           refine RJ (.e [] [131] p9 .z) ?_
           refine RJ (.a (.nat (x3.2.1.Nodes.length:Int)) (.g (fun (_:(!(!decide (x3.2.2.Code=0)))=true)=>(len_ok e_Node x3.2.1.Nodes)) .z)) ?_
           refine Nif hF ?_ ?_ <;> intro hb hF
           ·refine LR0 ?_
            have hF:=ret_done hF dn1
            cases hF
            exact Wz [] hfin
           ·refine RJ (.l e_Deed x3.1 .z) ?_
            refine Nif hF ?_ ?_ <;> intro hb hF
            ·refine LR0 ?_
             have hF:=ret_done hF dn1
             cases hF
             exact Wz [] hfin
            ·refine LR0 ?_
             obtain ⟨h10,hF⟩:=aE hF
             refine RJ (.i e_Node h10 .z) ?_
             refine Nif hF ?_ ?_ <;> intro hb hF
             ·refine Nexit rfl ?_
              refine VR [] [0,1,3,10,13,14,18] [13,14] [131] [] [(0,.i num),(1,.sl 1 (texts.map e_str)),(3,.i (w64 (Int.tmod (IntKind.u64.wrap who) (IntKind.u64.wrap num)))),(10,.row 131 3),(13,.ptr 13 0),(14,.ptr 14 0),(18,.i (w64 (v4.2.2.2+1)))] [(13,(c_Clan x3.2.1)),(14,(c_Fault x3.2.2))] [(131,⟨35,3,3,(x3.1.map e_Deed).length,0,true,0,[],(x3.1.map e_Deed)⟩)] [] .nil ?_
              refine Wk_trim (fs:=[0,1,3,10,13,14,18]) (bs:=[13,14]) (rs:=[131]) (ms:=[]) (aa:=[]) (nv:=[]) rfl ?_
              refine Wk_ren' ⟨[],[(131,61)],[],[]⟩ rfl ?_
              exact Nrnq [(61,⟨0,true,true,true⟩)] hF ih1
             ·obtain ⟨h11,hF⟩:=aE hF
              refine RJ (.a (.sealed) (.p e_Deed h11 .z)) ?_
              refine LR0 ?_
              refine NmQ (fun v6=>law_ClanMoves_J5 v6=some y1) (fun v6=>(.w [])) ?_ ?_
              ·refine Nblk ?_
               unfold law_ClanMoves_L2 at hF
               refine Nits hF [(131,⟨0,true,true,true⟩)] (fun Z v7=>Z.up [0,1,10,13,14,19,21] [13,14] [131] [] [(10,.row 131 0),(21,.i v7.2.2.2)] [(13,(c_Clan v7.2.1)),(14,(c_Fault v7.2.2.1))] [(131,⟨35,3,0,(v7.1.map e_Deed).length,0,true,0,[],(v7.1.map e_Deed)⟩)] []) ?_
               intro n2 v7 y2 hF ih2 dn2
               unfold law_ClanMoves_B2 at hF
               refine LR0 ?_
               refine Nif hF ?_ ?_ <;> intro hb hF
               ·refine Nblk ?_
                obtain ⟨h12,hF⟩:=aE hF
                refine RJ (.a (.sealed) (.p e_Deed h12 .z)) ?_
                obtain ⟨x4,h13,hF⟩:=oE hF
                have p14:=(Pe.ren (law_calm_v1_ok ((v7.1.map e_Deed).length) 0 true h13) ⟨[],[(100000,131)],[],[(100000,1)]⟩)
                refine RJ (.e [] [131] p14 .z) ?_
                refine RJ (.a (.nat (x4.2.1.Nodes.length:Int)) (.g (fun (_:(!(!decide (x4.2.2.Code=0)))=true)=>(len_ok e_Node x4.2.1.Nodes)) .z)) ?_
                refine Nif hF ?_ ?_ <;> intro hb hF
                ·refine LR0 ?_
                 have hF:=ret_done hF dn2
                 have hF:=ret_done hF dn1
                 cases hF
                 exact Wz [] hfin
                ·refine RJ (.l e_Deed x4.1 .z) ?_
                 refine Nif hF ?_ ?_ <;> intro hb hF
                 ·refine LR0 ?_
                  have hF:=ret_done hF dn2
                  have hF:=ret_done hF dn1
                  cases hF
                  exact Wz [] hfin
                 ·refine LR0 ?_
                  refine LR0 ?_
                  refine NmS (fun v8=>law_ClanMoves_J6 v5 v7 x4 v8=some y2) (fun Z v8=>Z.up [0,1,10,13,14,19,21,22] [13,14] [131] [] [(22,.bool v8)] [] [] []) ?_ ?_
                  ·refine Nblk ?_
                   unfold law_ClanMoves_L3 at hF
                   refine Nits hF [] (fun Z v10=>Z.up [0,1,10,13,14,19,21,22,23] [13,14] [131] [] [(22,.bool v10.1),(23,.i v10.2)] [] [] []) ?_
                   intro n3 v10 y3 hF ih3 dn3
                   unfold law_ClanMoves_B3 at hF
                   refine LR0 ?_
                   refine Nif hF ?_ ?_ <;> intro hb hF
                   ·refine Nblk ?_
                    obtain ⟨h18,h19,hF⟩:=asrt2 hF
                    refine NDL (v10.1&&(decide (((lget x4.2.1.Nodes v10.2).Commit)=(((lget x4.2.1.Nodes v5).Log).length:Int)))) (fun v11:Bool=>([(22,.bool v11)],[],[],[])) [.av (e_Node (lget x4.2.1.Nodes v10.2)),.av (e_Node (lget x4.2.1.Nodes v5)),.nat (((lget x4.2.1.Nodes v5).Log).length:Int)] [0,1,10,13,14,19,21,22,23] [13,14] [131] [] (hc (fun (ga0:v10.1=true)=>(idx_ok e_Node (h18 ga0))) (hc (fun (ga0:v10.1=true)=>(idx_ok e_Node (h19 ga0))) (hc (fun (_:v10.1=true)=>(len_ok e_Entry ((lget x4.2.1.Nodes v5).Log))) .nil))) (fun v11 hv=>?_)
                    have hF:=lt_elim hF hv
                    refine LR0 ?_
                    exact Nrnq [] hF ih3
                   ·refine Nexit rfl ?_
                    have hF:=inrO_done hF dn3
                    exact metQ v10.1 [] hF
                  ·intro v8 hF
                   unfold law_ClanMoves_J6 at hF
                   refine LR0 ?_
                   refine Nif hF ?_ ?_ <;> intro hb hF
                   ·obtain ⟨h15,hF⟩:=aE hF
                    refine RJ (.i e_Node h15 .z) ?_
                    obtain ⟨h16,h17,hF⟩:=asrt2 hF
                    refine NDL ((decide (0<(((lget x4.2.1.Nodes v5).Log).length:Int)))&&(decide (((lget ((lget x4.2.1.Nodes v5).Log) (w64 ((((lget x4.2.1.Nodes v5).Log).length:Int) - 1))).Term)=((lget x4.2.1.Nodes v5).Term)))) (fun v9:Bool=>([(8,.bool v9)],[],[],[])) [.nat (((lget x4.2.1.Nodes v5).Log).length:Int),.nat (((lget x4.2.1.Nodes v5).Log).length:Int),.av (e_Entry (lget ((lget x4.2.1.Nodes v5).Log) (w64 ((((lget x4.2.1.Nodes v5).Log).length:Int) - 1)))),.av (e_Node (lget x4.2.1.Nodes v5))] [8] [] [] [] (hc (len_ok e_Entry ((lget x4.2.1.Nodes v5).Log)) (hc (fun (_:(decide (0<(((lget x4.2.1.Nodes v5).Log).length:Int)))=true)=>(len_ok e_Entry ((lget x4.2.1.Nodes v5).Log))) (hc (fun (ga0:(decide (0<(((lget x4.2.1.Nodes v5).Log).length:Int)))=true)=>(idx_ok e_Entry (h16 ga0))) (hc (fun (ga0:(decide (0<(((lget x4.2.1.Nodes v5).Log).length:Int)))=true)=>(idx_ok e_Node (h17 ga0))) .nil)))) (fun v9 hv=>?_)
                    have hF:=lt_elim hF hv
                    have hF:=ret_done hF dn2
                    have hF:=ret_done hF dn1
                    cases hF
                    exact Wz [] hfin
                   ·refine LR0 ?_
                    exact Nrnq [(131,⟨0,true,true,true⟩)] hF ih2
               ·refine Nexit rfl ?_
                have hF:=inrO_done hF dn2
                exact metQ () [] hF
              ·intro v6 hF
               unfold law_ClanMoves_J5 at hF
               refine LR0 ?_
               have hF:=ret_done hF dn1
               cases hF
               exact Wz [] hfin
          ·refine Nexit rfl ?_
           have hF:=inrO_done hF dn1
           exact metQ () [] hF
         ·intro v3 hF
          unfold law_ClanMoves_J4 at hF
          refine LR0 ?_
          cases hF
          exact Wz [] hfin

end
end G
end Go.Proofs.Ythiighaapaomcaa
