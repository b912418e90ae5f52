/- The program's functions as plain functions, and that they are these. Written by a program (dec2.py). -/
import Derived.Test.YthiighaapaomcaaGf2
namespace Go.Proofs.Ythiighaapaomcaa
open Go Go.Dm
set_option linter.unusedVariables false
set_option linter.unusedSimpArgs false
set_option maxRecDepth 100000
namespace G
noncomputable section
/- tabularylaw.ClanAgrees -/
def law_ClanAgrees_M2 (p:Int×List Entry) (p1:Int×goodAt):Option (Unit⊕Unit):=
 asrt ((!(decide ((p.2.length:Int)≤p1.1)))=true→(decide (p1.2.term<p.1))=true→0≤p1.1∧p1.1<(p.2.length:Int)) <|
 if ((decide (p1.2.term<p.1))&&((decide ((p.2.length:Int)≤p1.1))||(!(decide ((lget p.2 p1.1).Term=p1.2.e.Term)&&(decide ((lget p.2 p1.1).Text=p1.2.e.Text)&&true)))))=true then
  some (Sum.inr ())
 else
  some (Sum.inl ())
def law_ClanAgrees_M3 (v:(List (Int×List Entry))×(List (Int×goodAt))) (p:Int×List Entry):Option (Unit⊕Unit):=
 asrt (∀ p1∈v.2,law_ClanAgrees_M2 p p1=some (Sum.inl ())) <|
 some (Sum.inl ())
def law_ClanAgrees_J1 (v:(List (Int×List Entry))×(List (Int×goodAt))):Option Bool:=
 asrt (∀ p∈v.1,law_ClanAgrees_M3 v p=some (Sum.inl ())) <|
 some true
def law_ClanAgrees_J4 (v1:(List (Int×Int))×(List (Int×List Entry))×(List (Int×goodAt))×Int) (v2:(List (Int×Int))×(List (Int×List Entry))×(List (Int×goodAt))):Option (((List (Int×Int))×(List (Int×List Entry))×(List (Int×goodAt))×Int)⊕Bool):=
 some (Sum.inl (v2.1,v2.2.1,v2.2.2,w64 (v1.2.2.2+1)))
def law_ClanAgrees_J7 (v3:(List (Int×Int))×(List (Int×List Entry))×(List (Int×goodAt))×Int) (v4:(List (Int×Int))×(List (Int×List Entry))) (v5:(List (Int×goodAt))) (v6:Unit):Option (((List (Int×Int))×(List (Int×List Entry))×(List (Int×goodAt))×Int)⊕(((List (Int×Int))×(List (Int×List Entry))×(List (Int×goodAt))×Int)⊕Bool)):=
 some (Sum.inl (v4.1,v4.2,v5,w64 (v3.2.2.2+1)))
def law_ClanAgrees_J8 (v7:Int) (v9:Bool):Option (Int⊕(((List (Int×Int))×(List (Int×List Entry))×(List (Int×goodAt))×Int)⊕(((List (Int×Int))×(List (Int×List Entry))×(List (Int×goodAt))×Int)⊕Bool))):=
 if (!v9)=true then
  some (Sum.inr (Sum.inr (Sum.inr false)))
 else
  some (Sum.inl (w64 (v7+1)))
def law_ClanAgrees_B4 (x2:Clan×Fault) (v3:(List (Int×Int))×(List (Int×List Entry))×(List (Int×goodAt))×Int) (v7 v10:Int):Option (Int⊕(Int⊕(((List (Int×Int))×(List (Int×List Entry))×(List (Int×goodAt))×Int)⊕(((List (Int×Int))×(List (Int×List Entry))×(List (Int×goodAt))×Int)⊕Bool)))):=
 if (decide (0<v10))=true then
  asrt (0≤w64 (v10 - 1)∧w64 (v10 - 1)<(((lget x2.1.Nodes v3.2.2.2).Log).length:Int)) <|
  asrt (0≤w64 (v10 - 1)∧w64 (v10 - 1)<(((lget x2.1.Nodes v7).Log).length:Int)) <|
  if (decide (((lget ((lget x2.1.Nodes v3.2.2.2).Log) (w64 (v10 - 1))).Term)=((lget ((lget x2.1.Nodes v7).Log) (w64 (v10 - 1))).Term)))=true then
   asrt (0≤v10∧v10≤(((lget x2.1.Nodes v3.2.2.2).Log).length:Int)) <|
   asrt (0≤v10∧v10≤(((lget x2.1.Nodes v7).Log).length:Int)) <|
   ob (R_SameLog (ltake ((lget x2.1.Nodes v3.2.2.2).Log) v10) (ltake ((lget x2.1.Nodes v7).Log) v10)) fun x3=>
   inrO (law_ClanAgrees_J8 v7 x3)
  else
   some (Sum.inl (w64 (v10 - 1)))
 else
  inrO (law_ClanAgrees_J8 v7 true)
def law_ClanAgrees_L4 (x2:Clan×Fault) (v3:(List (Int×Int))×(List (Int×List Entry))×(List (Int×goodAt))×Int) (v7 v0:Int):Option (Int⊕(((List (Int×Int))×(List (Int×List Entry))×(List (Int×goodAt))×Int)⊕(((List (Int×Int))×(List (Int×List Entry))×(List (Int×goodAt))×Int)⊕Bool))):=
 loopO (fun y=>law_ClanAgrees_B4 x2 v3 v7 y) v0
def law_ClanAgrees_B3 (x2:Clan×Fault) (v3:(List (Int×Int))×(List (Int×List Entry))×(List (Int×goodAt))×Int) (v4:(List (Int×Int))×(List (Int×List Entry))) (v5:(List (Int×goodAt))) (v7:Int):Option (Int⊕(((List (Int×Int))×(List (Int×List Entry))×(List (Int×goodAt))×Int)⊕(((List (Int×Int))×(List (Int×List Entry))×(List (Int×goodAt))×Int)⊕Bool))):=
 if (decide (v7<v3.2.2.2))=true then
  asrt (0≤v7∧v7<(x2.1.Nodes.length:Int)) <|
  lt ((min (((lget x2.1.Nodes v3.2.2.2).Log).length:Int) (((lget x2.1.Nodes v7).Log).length:Int))) fun v8=>
  law_ClanAgrees_L4 x2 v3 v7 v8
 else
  inrO (law_ClanAgrees_J7 v3 v4 v5 ())
def law_ClanAgrees_L3 (x2:Clan×Fault) (v3:(List (Int×Int))×(List (Int×List Entry))×(List (Int×goodAt))×Int) (v4:(List (Int×Int))×(List (Int×List Entry))) (v5:(List (Int×goodAt))) (v0:Int):Option (((List (Int×Int))×(List (Int×List Entry))×(List (Int×goodAt))×Int)⊕(((List (Int×Int))×(List (Int×List Entry))×(List (Int×goodAt))×Int)⊕Bool)):=
 loopO (fun y=>law_ClanAgrees_B3 x2 v3 v4 v5 y) v0
def law_ClanAgrees_J6 (x2:Clan×Fault) (v3:(List (Int×Int))×(List (Int×List Entry))×(List (Int×goodAt))×Int) (v4:(List (Int×Int))×(List (Int×List Entry))) (v5:(List (Int×goodAt))):Option (((List (Int×Int))×(List (Int×List Entry))×(List (Int×goodAt))×Int)⊕(((List (Int×Int))×(List (Int×List Entry))×(List (Int×goodAt))×Int)⊕Bool)):=
 law_ClanAgrees_L3 x2 v3 v4 v5 0
def law_ClanAgrees_B5 (x2:Clan×Fault) (v3:(List (Int×Int))×(List (Int×List Entry))×(List (Int×goodAt))×Int) (v4:(List (Int×Int))×(List (Int×List Entry))) (v11:(List (Int×goodAt))×Int):Option (((List (Int×goodAt))×Int)⊕(((List (Int×Int))×(List (Int×List Entry))×(List (Int×goodAt))×Int)⊕(((List (Int×Int))×(List (Int×List Entry))×(List (Int×goodAt))×Int)⊕Bool))):=
 if (decide (v11.2<((lget x2.1.Nodes v3.2.2.2).Commit)))=true then
  lt ((((mget v11.1 v11.2).getD ((⟨0,0,(⟨0,([]:List UInt8)⟩:Entry)⟩:goodAt):goodAt)).place,((mget v11.1 v11.2).getD ((⟨0,0,(⟨0,([]:List UInt8)⟩:Entry)⟩:goodAt):goodAt)).term,(((mget v11.1 v11.2).getD ((⟨0,0,(⟨0,([]:List UInt8)⟩:Entry)⟩:goodAt):goodAt)).e).Term,(((mget v11.1 v11.2).getD ((⟨0,0,(⟨0,([]:List UInt8)⟩:Entry)⟩:goodAt):goodAt)).e).Text)) fun (v12:Int×Int×Int×List UInt8)=>
  asrt (((mget v11.1 v11.2).isSome)=true→0≤v11.2∧v11.2<(((lget x2.1.Nodes v3.2.2.2).Log).length:Int)) <|
  if (((mget v11.1 v11.2).isSome)&&(!(decide (v12.2.2.1=(lget ((lget x2.1.Nodes v3.2.2.2).Log) v11.2).Term)&&(decide (v12.2.2.2=(lget ((lget x2.1.Nodes v3.2.2.2).Log) v11.2).Text)&&true))))=true then
   some (Sum.inr (Sum.inr (Sum.inr false)))
  else
   ob (
    if ((!((mget v11.1 v11.2).isSome))||(decide (((lget x2.1.Nodes v3.2.2.2).Term)<v12.2.1)))=true then
     asrt (0≤v11.2∧v11.2<(((lget x2.1.Nodes v3.2.2.2).Log).length:Int)) <|
     lt ((mput v11.1 v11.2 ((⟨v11.2,(lget x2.1.Nodes v3.2.2.2).Term,(⟨(lget ((lget x2.1.Nodes v3.2.2.2).Log) v11.2).Term,(lget ((lget x2.1.Nodes v3.2.2.2).Log) v11.2).Text⟩:Entry)⟩:goodAt):goodAt))) fun v14=>
     some v14
    else
     some v11.1) fun v13=>
   some (Sum.inl (v13,w64 (v11.2+1)))
 else
  inrO (law_ClanAgrees_J6 x2 v3 v4 v11.1)
def law_ClanAgrees_L5 (x2:Clan×Fault) (v3:(List (Int×Int))×(List (Int×List Entry))×(List (Int×goodAt))×Int) (v4:(List (Int×Int))×(List (Int×List Entry))) (v0:(List (Int×goodAt))×Int):Option (((List (Int×Int))×(List (Int×List Entry))×(List (Int×goodAt))×Int)⊕(((List (Int×Int))×(List (Int×List Entry))×(List (Int×goodAt))×Int)⊕Bool)):=
 loopO (fun y=>law_ClanAgrees_B5 x2 v3 v4 y) v0
def law_ClanAgrees_J5 (x2:Clan×Fault) (v3:(List (Int×Int))×(List (Int×List Entry))×(List (Int×goodAt))×Int) (v4:(List (Int×Int))×(List (Int×List Entry))):Option (((List (Int×Int))×(List (Int×List Entry))×(List (Int×goodAt))×Int)⊕(((List (Int×Int))×(List (Int×List Entry))×(List (Int×goodAt))×Int)⊕Bool)):=
 law_ClanAgrees_L5 x2 v3 v4 (v3.2.2.1,0)
def law_ClanAgrees_B2 (num:Int) (v1:(List (Int×Int))×(List (Int×List Entry))×(List (Int×goodAt))×Int) (x2:Clan×Fault) (v3:(List (Int×Int))×(List (Int×List Entry))×(List (Int×goodAt))×Int):Option (((List (Int×Int))×(List (Int×List Entry))×(List (Int×goodAt))×Int)⊕(((List (Int×Int))×(List (Int×List Entry))×(List (Int×goodAt))×Int)⊕Bool)):=
 if (decide (v3.2.2.2<num))=true then
  asrt (0≤v3.2.2.2∧v3.2.2.2<(x2.1.Nodes.length:Int)) <|
  if ((decide (((lget x2.1.Nodes v3.2.2.2).Commit)<0))||(decide ((((lget x2.1.Nodes v3.2.2.2).Log).length:Int)<((lget x2.1.Nodes v3.2.2.2).Commit))))=true then
   some (Sum.inr (Sum.inr false))
  else
   if (decide (((lget x2.1.Nodes v3.2.2.2).Role)=2))=true then
    if (((mget v3.1 ((lget x2.1.Nodes v3.2.2.2).Term)).isSome)&&(!decide (((mget v3.1 ((lget x2.1.Nodes v3.2.2.2).Term)).getD (0:Int))=v3.2.2.2)))=true then
     some (Sum.inr (Sum.inr false))
    else
     if (!((mget v3.1 ((lget x2.1.Nodes v3.2.2.2).Term)).isSome))=true then
      lt ((mput v3.2.1 ((lget x2.1.Nodes v3.2.2.2).Term) ((lget x2.1.Nodes v3.2.2.2).Log:List Entry))) fun v15=>
      law_ClanAgrees_J5 x2 v3 ((mput v3.1 ((lget x2.1.Nodes v3.2.2.2).Term) (v3.2.2.2:Int)),v15)
     else
      law_ClanAgrees_J5 x2 v3 (v3.1,v3.2.1)
   else
    law_ClanAgrees_J5 x2 v3 (v3.1,v3.2.1)
 else
  inrO (law_ClanAgrees_J4 v1 (v3.1,v3.2.1,v3.2.2.1))
def law_ClanAgrees_L2 (num:Int) (v1:(List (Int×Int))×(List (Int×List Entry))×(List (Int×goodAt))×Int) (x2:Clan×Fault) (v0:(List (Int×Int))×(List (Int×List Entry))×(List (Int×goodAt))×Int):Option (((List (Int×Int))×(List (Int×List Entry))×(List (Int×goodAt))×Int)⊕Bool):=
 loopO (fun y=>law_ClanAgrees_B2 num v1 x2 y) v0
def law_ClanAgrees_B1 (num:Int) (texts:List (List UInt8)) (deeds:List Deed) (v1:(List (Int×Int))×(List (Int×List Entry))×(List (Int×goodAt))×Int):Option (((List (Int×Int))×(List (Int×List Entry))×(List (Int×goodAt))×Int)⊕Bool):=
 if (decide (v1.2.2.2≤(deeds.length:Int)))=true then
  asrt (0≤v1.2.2.2∧v1.2.2.2≤(deeds.length:Int)) <|
  ob (clan_Play_v1 num texts (ltake deeds v1.2.2.2)) fun x2=>
  if ((!decide (x2.2.Code=0))||(!decide ((x2.1.Nodes.length:Int)=num)))=true then
   some (Sum.inr false)
  else
   law_ClanAgrees_L2 num v1 x2 (v1.1,v1.2.1,v1.2.2.1,0)
 else
  inrO (law_ClanAgrees_J1 (v1.2.1,v1.2.2.1))
def law_ClanAgrees_L1 (num:Int) (texts:List (List UInt8)) (deeds:List Deed) (v0:(List (Int×Int))×(List (Int×List Entry))×(List (Int×goodAt))×Int):Option Bool:=
 loopO (fun y=>law_ClanAgrees_B1 num texts deeds y) v0
def law_ClanAgrees (num:Int) (texts:List (List UInt8)) (deeds:List Deed):Option Bool:=
 ob (law_clanBegun) fun x=>
 if (!x)=true then
  some false
 else
  if ((decide (120<(deeds.length:Int)))||(decide (300<(texts.length:Int))))=true then
   some true
  else
   ob (R_Games_v1 num texts deeds) fun x1=>
   if (!decide (x1.2.Code=0))=true then
    some true
   else
    law_ClanAgrees_L1 num texts deeds (([]:List (Int×Int)),([]:List (Int×List Entry)),([]:List (Int×goodAt)),0)
theorem law_ClanAgrees_ok {num texts deeds r} (hF:law_ClanAgrees num texts deeds=some r):Pe Try.prog 5 S.none [.i num,.sl 1 (texts.map e_str),.sl 3 (deeds.map e_Deed)] (.bool r) S.none:=by
 refine PT 249 [.tmp 6] [4] Try.func5 ?_
 intro Q g hfin
 unfold law_ClanAgrees at hF
 refine LR0 ?_
 obtain ⟨x,h0,hF⟩:=oE hF
 refine RJ (.b (law_clanBegun_ok h0) .z) ?_
 refine Nif hF ?_ ?_ <;> intro hb hF
 ·refine LR0 ?_
  cases hF
  exact Wz [] hfin
 ·refine RJ (.l e_Deed deeds (.a (.nat (texts.length:Int)) (.g (fun (_:(!(decide (120<(deeds.length:Int))))=true)=>(len_ok e_str texts)) .z))) ?_
  refine Nif hF ?_ ?_ <;> intro hb hF
  ·refine LR0 ?_
   cases hF
   exact Wz [] hfin
  ·obtain ⟨x1,h1,hF⟩:=oE hF
   refine RJ (.c (R_Games_v1_ok h1) .z) ?_
   refine LR0 ?_
   refine Nif hF ?_ ?_ <;> intro hb hF
   ·refine LR0 ?_
    cases hF
    exact Wz [] hfin
   ·refine LR0 ?_
    refine LR0 ?_
    refine LR0 ?_
    refine LR0 ?_
    refine NmS (fun v=>law_ClanAgrees_J1 v=some r) (fun Z v=>Z.up [10,11] [] [] [51,52] [] [] [] [(51,(v.1.map (fun p=>(e_i64 p.1,e_L_Entry p.2)))),(52,(v.2.map (fun p=>(e_i64 p.1,e_goodAt p.2))))]) ?_ ?_
    ·refine Nblk ?_
     unfold law_ClanAgrees_L1 at hF
     refine Nits hF [] (fun Z v1=>Z.up [0,1,2,9,10,11,12] [] [] [50,51,52] [(12,.i v1.2.2.2)] [] [] [(50,(v1.1.map (fun p=>(e_i64 p.1,e_i64 p.2)))),(51,(v1.2.1.map (fun p=>(e_i64 p.1,e_L_Entry p.2)))),(52,(v1.2.2.1.map (fun p=>(e_i64 p.1,e_goodAt p.2))))]) ?_
     intro n1 v1 y1 hF ih1 dn1
     unfold law_ClanAgrees_B1 at hF
     refine RJ (.l e_Deed deeds .z) ?_
     refine Nif hF ?_ ?_ <;> intro hb hF
     ·refine Nblk ?_
      obtain ⟨h5,hF⟩:=aE hF
      obtain ⟨x2,h6,hF⟩:=oE hF
      refine RJ (.s01 e_Deed h5 (.c (clan_Play_v1_ok h6) .z)) ?_
      refine RJ (.a (.nat (x2.1.Nodes.length:Int)) (.g (fun (_:(!(!decide (x2.2.Code=0)))=true)=>(len_ok e_Node x2.1.Nodes)) .z)) ?_
      refine Nif hF ?_ ?_ <;> intro hb hF
      ·refine LR0 ?_
       have hF:=ret_done hF dn1
       cases hF
       exact Wz [] hfin
      ·refine LR0 ?_
       refine NmS (fun v2=>law_ClanAgrees_J4 v1 v2=some y1) (fun Z v2=>Z.up [0,1,2,9,10,11,12] [] [] [50,51,52] [] [] [] [(50,(v2.1.map (fun p=>(e_i64 p.1,e_i64 p.2)))),(51,(v2.2.1.map (fun p=>(e_i64 p.1,e_L_Entry p.2)))),(52,(v2.2.2.map (fun p=>(e_i64 p.1,e_goodAt p.2))))]) ?_ ?_
       ·refine Nblk ?_
        unfold law_ClanAgrees_L2 at hF
        refine Nits hF [] (fun Z v3=>Z.up [0,1,2,9,10,11,12,13,15] [13] [] [50,51,52] [(15,.i v3.2.2.2)] [] [] [(50,(v3.1.map (fun p=>(e_i64 p.1,e_i64 p.2)))),(51,(v3.2.1.map (fun p=>(e_i64 p.1,e_L_Entry p.2)))),(52,(v3.2.2.1.map (fun p=>(e_i64 p.1,e_goodAt p.2))))]) ?_
        intro n2 v3 y2 hF ih2 dn2
        unfold law_ClanAgrees_B2 at hF
        refine LR0 ?_
        refine Nif hF ?_ ?_ <;> intro hb hF
        ·refine Nblk ?_
         obtain ⟨h7,hF⟩:=aE hF
         refine RJ (.i e_Node h7 .z) ?_
         refine RJ (.a (.nat (((lget x2.1.Nodes v3.2.2.2).Log).length:Int)) (.g (fun (_:(!(decide (((lget x2.1.Nodes v3.2.2.2).Commit)<0)))=true)=>(len_ok e_Entry ((lget x2.1.Nodes v3.2.2.2).Log))) .z)) ?_
         refine Nif hF ?_ ?_ <;> intro hb hF
         ·refine LR0 ?_
          have hF:=ret_done hF dn2
          have hF:=ret_done hF dn1
          cases hF
          exact Wz [] hfin
         ·refine LR0 ?_
          refine NmS (fun v4=>law_ClanAgrees_J5 x2 v3 v4=some y2) (fun Z v4=>Z.up [0,1,2,9,10,11,12,13,15,16] [13,16] [] [50,51,52] [] [] [] [(50,(v4.1.map (fun p=>(e_i64 p.1,e_i64 p.2)))),(51,(v4.2.map (fun p=>(e_i64 p.1,e_L_Entry p.2))))]) ?_ ?_
          ·refine Nif hF ?_ ?_ <;> intro hb hF
           ·refine RJ (.a (.av (e_i64 ((mget v3.1 ((lget x2.1.Nodes v3.2.2.2).Term)).getD (0:Int)))) (.a (.bo ((mget v3.1 ((lget x2.1.Nodes v3.2.2.2).Term)).isSome)) (.g (mkeys_ok (kenc_i64:KEnc _ e_i64) e_i64 v3.1) (.g (mlook_ok (kenc_i64:KEnc _ e_i64) e_i64 v3.1 ((lget x2.1.Nodes v3.2.2.2).Term) (0:Int)) (.g (msome_ok (kenc_i64:KEnc _ e_i64) e_i64 v3.1 ((lget x2.1.Nodes v3.2.2.2).Term)) .z))))) ?_
            refine LR0 ?_
            refine Nif hF ?_ ?_ <;> intro hb hF
            ·refine LR0 ?_
             have hF:=ret_done hF dn2
             have hF:=ret_done hF dn1
             cases hF
             exact Wz [] hfin
            ·refine LR0 ?_
             refine Nif hF ?_ ?_ <;> intro hb hF
             ·refine RJ (.a (.ms ((mput v3.1 ((lget x2.1.Nodes v3.2.2.2).Term) (v3.2.2.2:Int)).map (fun p=>(e_i64 p.1,e_i64 p.2)))) (.g (mkeys_ok (kenc_i64:KEnc _ e_i64) e_i64 v3.1) (.g (mput_ok (kenc_i64:KEnc _ e_i64) e_i64 v3.1 ((lget x2.1.Nodes v3.2.2.2).Term) (v3.2.2.2:Int)) .z))) ?_
              refine NRL ((mput v3.2.1 ((lget x2.1.Nodes v3.2.2.2).Term) ((lget x2.1.Nodes v3.2.2.2).Log:List Entry))) (fun v15:(List (Int×List Entry))=>([],[],[],[(51,(v15.map (fun p=>(e_i64 p.1,e_L_Entry p.2))))])) [.ms ((mput v3.2.1 ((lget x2.1.Nodes v3.2.2.2).Term) ((lget x2.1.Nodes v3.2.2.2).Log:List Entry)).map (fun p=>(e_i64 p.1,e_L_Entry p.2)))] [0,1,2,9,10,11,12,13,15,16] [13,16] [] [50,51,52] (hc (mkeys_ok (kenc_i64:KEnc _ e_i64) e_L_Entry v3.2.1) (hc (mput_ok (kenc_i64:KEnc _ e_i64) e_L_Entry v3.2.1 ((lget x2.1.Nodes v3.2.2.2).Term) ((lget x2.1.Nodes v3.2.2.2).Log:List Entry)) .nil)) (fun v15 hv=>?_)
              have hF:=lt_elim hF hv
              exact metQ ((mput v3.1 ((lget x2.1.Nodes v3.2.2.2).Term) (v3.2.2.2:Int)),v15) [] hF
             ·exact metQ (v3.1,v3.2.1) [] hF
           ·exact metQ (v3.1,v3.2.1) [] hF
          ·intro v4 hF
           unfold law_ClanAgrees_J5 at hF
           refine LR0 ?_
           refine NmS (fun v5=>law_ClanAgrees_J6 x2 v3 v4 v5=some y2) (fun Z v5=>Z.up [0,1,2,9,10,11,12,13,15,16] [13,16] [] [50,51,52] [] [] [] [(52,(v5.map (fun p=>(e_i64 p.1,e_goodAt p.2))))]) ?_ ?_
           ·refine Nblk ?_
            unfold law_ClanAgrees_L5 at hF
            refine Nits hF [] (fun Z v11=>Z.up [0,1,2,9,10,11,12,13,15,16,19] [13,16] [] [50,51,52] [(19,.i v11.2)] [] [] [(52,(v11.1.map (fun p=>(e_i64 p.1,e_goodAt p.2))))]) ?_
            intro n3 v11 y3 hF ih3 dn3
            unfold law_ClanAgrees_B5 at hF
            refine LR0 ?_
            refine Nif hF ?_ ?_ <;> intro hb hF
            ·refine Nblk ?_
             refine NRL ((((mget v11.1 v11.2).getD ((⟨0,0,(⟨0,([]:List UInt8)⟩:Entry)⟩:goodAt):goodAt)).place,((mget v11.1 v11.2).getD ((⟨0,0,(⟨0,([]:List UInt8)⟩:Entry)⟩:goodAt):goodAt)).term,(((mget v11.1 v11.2).getD ((⟨0,0,(⟨0,([]:List UInt8)⟩:Entry)⟩:goodAt):goodAt)).e).Term,(((mget v11.1 v11.2).getD ((⟨0,0,(⟨0,([]:List UInt8)⟩:Entry)⟩:goodAt):goodAt)).e).Text)) (fun v12:Int×Int×Int×List UInt8=>([(20,.ptr 20 0),(21,.bool ((mget v11.1 v11.2).isSome))],[(20,[.i v12.1,.i v12.2.1,.i v12.2.2.1,.str v12.2.2.2])],[],[])) [.av (e_goodAt ((mget v11.1 v11.2).getD ((⟨0,0,(⟨0,([]:List UInt8)⟩:Entry)⟩:goodAt):goodAt))),.bo ((mget v11.1 v11.2).isSome)] [0,1,2,9,10,11,12,13,15,16,19,20,21] [13,16,20] [] [50,51,52] (hc (mkeys_ok (kenc_i64:KEnc _ e_i64) e_goodAt v11.1) (hc (mlook_ok (kenc_i64:KEnc _ e_i64) e_goodAt v11.1 v11.2 ((⟨0,0,(⟨0,([]:List UInt8)⟩:Entry)⟩:goodAt):goodAt)) (hc (msome_ok (kenc_i64:KEnc _ e_i64) e_goodAt v11.1 v11.2) .nil))) (fun v12 hv=>?_)
             have hF:=lt_elim hF hv
             obtain ⟨h14,hF⟩:=aE hF
             refine DJ (.a (.av (e_Entry (lget ((lget x2.1.Nodes v3.2.2.2).Log) v11.2))) (.g (fun (ga0:((mget v11.1 v11.2).isSome)=true)=>(idx_ok e_Entry (h14 ga0))) .z)) ?_
             refine Nif hF ?_ ?_ <;> intro hb hF
             ·refine LR0 ?_
              have hF:=ret_done hF dn3
              have hF:=ret_done hF dn2
              have hF:=ret_done hF dn1
              cases hF
              exact Wz [] hfin
             ·refine LR0 ?_
              obtain ⟨v13,hv,hF⟩:=oE hF
              refine NmT (fun Z=>Z.up [0,1,2,9,10,11,12,13,15,16,19] [13,16] [] [50,51,52] [] [] [] [(52,(v13.map (fun p=>(e_i64 p.1,e_goodAt p.2))))]) ?_ ?_
              ·have hF:=hv
               refine Nif hF ?_ ?_ <;> intro hb hF
               ·obtain ⟨h15,hF⟩:=aE hF
                refine NDL ((mput v11.1 v11.2 ((⟨v11.2,(lget x2.1.Nodes v3.2.2.2).Term,(⟨(lget ((lget x2.1.Nodes v3.2.2.2).Log) v11.2).Term,(lget ((lget x2.1.Nodes v3.2.2.2).Log) v11.2).Text⟩:Entry)⟩:goodAt):goodAt))) (fun v14:(List (Int×goodAt))=>([],[],[],[(52,(v14.map (fun p=>(e_i64 p.1,e_goodAt p.2))))])) [.av (e_Entry (lget ((lget x2.1.Nodes v3.2.2.2).Log) v11.2)),.ms ((mput v11.1 v11.2 ((⟨v11.2,(lget x2.1.Nodes v3.2.2.2).Term,(⟨(lget ((lget x2.1.Nodes v3.2.2.2).Log) v11.2).Term,(lget ((lget x2.1.Nodes v3.2.2.2).Log) v11.2).Text⟩:Entry)⟩:goodAt):goodAt)).map (fun p=>(e_i64 p.1,e_goodAt p.2)))] [0,1,2,9,10,11,12,13,15,16,19] [13,16] [] [50,51,52] (hc (idx_ok e_Entry h15) (hc (mkeys_ok (kenc_i64:KEnc _ e_i64) e_goodAt v11.1) (hc (mput_ok (kenc_i64:KEnc _ e_i64) e_goodAt v11.1 v11.2 ((⟨v11.2,(lget x2.1.Nodes v3.2.2.2).Term,(⟨(lget ((lget x2.1.Nodes v3.2.2.2).Log) v11.2).Term,(lget ((lget x2.1.Nodes v3.2.2.2).Log) v11.2).Text⟩:Entry)⟩:goodAt):goodAt)) .nil))) (fun v14 hv=>?_)
                have hF:=lt_elim hF hv
                cases hF
                exact met' []
               ·cases hF
                exact met' []
              ·refine LR0 ?_
               exact Nrnq [] hF ih3
            ·refine Nexit rfl ?_
             have hF:=inrO_done hF dn3
             exact metQ v11.1 [] hF
           ·intro v5 hF
            unfold law_ClanAgrees_J6 at hF
            refine LR0 ?_
            refine NmS (fun v6=>law_ClanAgrees_J7 v3 v4 v5 v6=some y2) (fun Z v6=>Z.up [0,1,2,9,10,11,12,13,15] [13] [] [50,51,52] [] [] [] []) ?_ ?_
            ·refine Nblk ?_
             unfold law_ClanAgrees_L3 at hF
             refine Nits hF [] (fun Z v7=>Z.up [0,1,2,9,10,11,12,13,15,16,22] [13,16] [] [50,51,52] [(22,.i v7)] [] [] []) ?_
             intro n3 v7 y3 hF ih3 dn3
             unfold law_ClanAgrees_B3 at hF
             refine LR0 ?_
             refine Nif hF ?_ ?_ <;> intro hb hF
             ·refine Nblk ?_
              obtain ⟨h8,hF⟩:=aE hF
              refine RJ (.i e_Node h8 .z) ?_
              refine LR0 ?_
              refine NRL ((min (((lget x2.1.Nodes v3.2.2.2).Log).length:Int) (((lget x2.1.Nodes v7).Log).length:Int))) (fun v8:Int=>([(25,.i v8)],[],[],[])) [.nat (((lget x2.1.Nodes v3.2.2.2).Log).length:Int),.nat (((lget x2.1.Nodes v7).Log).length:Int)] [0,1,2,9,10,11,12,13,15,16,22,23,24,25] [13,16,23] [] [50,51,52] (hc (len_ok e_Entry ((lget x2.1.Nodes v3.2.2.2).Log)) (hc (len_ok e_Entry ((lget x2.1.Nodes v7).Log)) .nil)) (fun v8 hv=>?_)
              have hF:=lt_elim hF hv
              refine NmS (fun v9=>law_ClanAgrees_J8 v7 v9=some y3) (fun Z v9=>Z.up [0,1,2,9,10,11,12,13,15,16,22,24] [13,16] [] [50,51,52] [(24,.bool v9)] [] [] []) ?_ ?_
              ·refine Nblk ?_
               unfold law_ClanAgrees_L4 at hF
               refine Nits hF [] (fun Z v10=>Z.up [0,1,2,9,10,11,12,13,15,16,22,23,24,25] [13,16,23] [] [50,51,52] [(25,.i v10)] [] [] []) ?_
               intro n4 v10 y4 hF ih4 dn4
               unfold law_ClanAgrees_B4 at hF
               refine LR0 ?_
               refine Nif hF ?_ ?_ <;> intro hb hF
               ·refine Nblk ?_
                obtain ⟨h9,h10,hF⟩:=asrt2 hF
                refine DJ (.i e_Entry h9 (.i e_Entry h10 .z)) ?_
                refine Nif hF ?_ ?_ <;> intro hb hF
                ·obtain ⟨h11,hF⟩:=aE hF
                 obtain ⟨h12,hF⟩:=aE hF
                 obtain ⟨x3,h13,hF⟩:=oE hF
                 refine DJ (.s01 e_Entry h11 (.s01 e_Entry h12 (.b (R_SameLog_ok h13) .z))) ?_
                 refine Nexit rfl ?_
                 have hF:=inrO_done hF dn4
                 exact metQ x3 [] hF
                ·refine LR0 ?_
                 exact Nrnq [] hF ih4
               ·refine Nexit rfl ?_
                have hF:=inrO_done hF dn4
                exact metQ true [] hF
              ·intro v9 hF
               unfold law_ClanAgrees_J8 at hF
               refine LR0 ?_
               refine Nif hF ?_ ?_ <;> intro hb hF
               ·refine LR0 ?_
                have hF:=ret_done hF dn3
                have hF:=ret_done hF dn2
                have hF:=ret_done hF dn1
                cases hF
                exact Wz [] hfin
               ·refine LR0 ?_
                exact Nrnq [] hF ih3
             ·refine Nexit rfl ?_
              have hF:=inrO_done hF dn3
              exact metQ () [] hF
            ·intro v6 hF
             unfold law_ClanAgrees_J7 at hF
             refine LR0 ?_
             exact Nrnq [] hF ih2
        ·refine Nexit rfl ?_
         have hF:=inrO_done hF dn2
         exact metQ (v3.1,v3.2.1,v3.2.2.1) [] hF
       ·intro v2 hF
        unfold law_ClanAgrees_J4 at hF
        refine LR0 ?_
        exact Nrnq [] hF ih1
     ·refine Nexit rfl ?_
      have hF:=inrO_done hF dn1
      exact metQ (v1.2.1,v1.2.2.1) [] hF
    ·intro v hF
     unfold law_ClanAgrees_J1 at hF
     obtain ⟨h2,hF⟩:=aE hF
     refine MRA 10 216 217 218 219 220 51 57 3 45 (v.1.map (fun p=>(e_i64 p.1,e_L_Entry p.2))) [11] [] [] [52] [] rfl ?_ ?_
     ·refine LR0 ?_
      cases hF
      exact Wz [] hfin
     ·intro r2 s2 Q g hend qq hq
      obtain ⟨p,hp,rfl⟩:=List.mem_map.1 hq
      have hF:=h2 p hp
      unfold law_ClanAgrees_M3 at hF
      refine ER0 ?_
      obtain ⟨h3,hF⟩:=aE hF
      refine MRA 11 223 224 225 226 227 52 58 3 61 (v.2.map (fun p=>(e_i64 p.1,e_goodAt p.2))) [10,26,27,217] [] [] [] [] rfl ?_ ?_
      ·exact Nmend hend
      ·intro r3 s3 Q g hend qq hq
       obtain ⟨p1,hp,rfl⟩:=List.mem_map.1 hq
       have hF:=h3 p1 hp
       unfold law_ClanAgrees_M2 at hF
       refine ER0 ?_
       obtain ⟨h4,hF⟩:=aE hF
       refine DJ (.a (.nat (p.2.length:Int)) (.g (fun (_:(decide (p1.2.term<p.1))=true)=>(len_ok e_Entry p.2)) (.a (.av (e_Entry (lget p.2 p1.1))) (.g (fun (ga0:(!(decide ((p.2.length:Int)≤p1.1)))=true) (ga1:(decide (p1.2.term<p.1))=true)=>(idx_ok e_Entry (h4 ga0 ga1))) .z)))) ?_
       refine Nif hF ?_ ?_ <;> intro hb hF
       ·refine LR0 ?_
        cases hF
       ·exact Nmend hend

end
end G
end Go.Proofs.Ythiighaapaomcaa
