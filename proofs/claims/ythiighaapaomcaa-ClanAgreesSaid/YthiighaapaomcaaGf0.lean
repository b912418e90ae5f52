/- The program's functions as plain functions, and that they are these. Written by a program (dec2.py). -/
import Derived.Test.YthiighaapaomcaaTys
namespace Go.Proofs.Ythiighaapaomcaa
open Go Go.Dm
set_option linter.unusedVariables false
set_option linter.unusedSimpArgs false
set_option maxRecDepth 100000
namespace G
noncomputable section
/- clan.fault -/
def clan_fault (code at0:Int):Fault:=
 (⟨code,at0⟩:Fault)
theorem clan_fault_ok {code at0 r} (hF:clan_fault code at0=r):Pe Try.prog 19 S.none [.i code,.i at0] (.agg (c_Fault r)) S.none:=by
 refine PT 8 [.cell 4 31] [31] Try.func19 ?_
 intro Q g hfin
 unfold clan_fault at hF
 refine LR0 ?_
 refine LR0 ?_
 cases hF
 exact Wz [] hfin

/- raft.within -/
def raft_within (num from0 to0:Int):Bool:=
 (decide (from0≤num))&&(decide (num≤to0))
theorem raft_within_ok {num from0 to0 r} (hF:raft_within num from0 to0=r):Pe Try.prog 53 S.none [.i num,.i from0,.i to0] (.bool r) S.none:=by
 refine PT 15 [.tmp 6] [4] Try.func53 ?_
 intro Q g hfin
 unfold raft_within at hF
 refine LR0 ?_
 refine LR0 ?_
 cases hF
 exact Wz [] hfin

/- raft.fault -/
def raft_fault (code at0:Int):Fault:=
 (⟨code,at0⟩:Fault)
theorem raft_fault_ok {code at0 r} (hF:raft_fault code at0=r):Pe Try.prog 54 S.none [.i code,.i at0] (.agg (c_Fault r)) S.none:=by
 refine PT 8 [.cell 4 31] [31] Try.func54 ?_
 intro Q g hfin
 unfold raft_fault at hF
 refine LR0 ?_
 refine LR0 ?_
 cases hF
 exact Wz [] hfin

/- entry.fault -/
def entry_fault (code at0:Int):Fault:=
 (⟨code,at0⟩:Fault)
theorem entry_fault_ok {code at0 r} (hF:entry_fault code at0=r):Pe Try.prog 78 S.none [.i code,.i at0] (.agg (c_Fault r)) S.none:=by
 refine PT 8 [.cell 4 31] [31] Try.func78 ?_
 intro Q g hfin
 unfold entry_fault at hF
 refine LR0 ?_
 refine LR0 ?_
 cases hF
 exact Wz [] hfin

/- entry.Check -/
def entry_Check_J1 (v:Unit):Option Fault:=
 some (⟨0,0⟩:Fault)
def entry_Check_B1 (l:List Entry) (v1:Int×Int):Option ((Int×Int)⊕Fault):=
 if (decide (v1.2<(l.length:Int)))=true then
  asrt (0≤v1.2∧v1.2<(l.length:Int)) <|
  if ((decide (((lget l v1.2).Term)<1))||(decide (1000000000<((lget l v1.2).Term))))=true then
   lt (entry_fault 3 v1.2) fun x1=>
   some (Sum.inr x1)
  else
   if (decide (((lget l v1.2).Term)<v1.1))=true then
    lt (entry_fault 11 v1.2) fun x2=>
    some (Sum.inr x2)
   else
    if (decide (200<(((lget l v1.2).Text).length:Int)))=true then
     lt (entry_fault 8 v1.2) fun x3=>
     some (Sum.inr x3)
    else
     some (Sum.inl ((lget l v1.2).Term,w64 (v1.2+1)))
 else
  inrO (entry_Check_J1 ())
def entry_Check_L1 (l:List Entry) (v0:Int×Int):Option Fault:=
 loopO (fun y=>entry_Check_B1 l y) v0
def entry_Check (l:List Entry):Option Fault:=
 if (decide (100<(l.length:Int)))=true then
  lt (entry_fault 2 (-1)) fun x=>
  some x
 else
  entry_Check_L1 l (0,0)
theorem entry_Check_ok {l r} (hF:entry_Check l=some r):Pe Try.prog 55 S.none [.sl 2 (l.map e_Entry)] (.agg (c_Fault r)) S.none:=by
 refine PT 46 [.cell 2 31] [31] Try.func55 ?_
 intro Q g hfin
 unfold entry_Check at hF
 refine LR0 ?_
 refine RJ (.l e_Entry l .z) ?_
 refine Nif hF ?_ ?_ <;> intro hb hF
 ·obtain ⟨x,h0,hF⟩:=lS hF
  refine RJ (.b (entry_fault_ok h0) .z) ?_
  cases hF
  exact Wz [] hfin
 ·refine LR0 ?_
  refine RJ (.l e_Entry l .z) ?_
  refine NmS (fun v=>entry_Check_J1 v=some r) (fun Z v=>Z.up [2] [2] [] [] [] [] [] []) ?_ ?_
  ·refine Nblk ?_
   unfold entry_Check_L1 at hF
   refine Nits hF [] (fun Z v1=>Z.up [2,3,10,11,12] [2] [] [] [(3,.i v1.1),(12,.i v1.2)] [] [] []) ?_
   intro n1 v1 y1 hF ih1 dn1
   unfold entry_Check_B1 at hF
   refine LR0 ?_
   refine Nif hF ?_ ?_ <;> intro hb hF
   ·refine Nblk ?_
    obtain ⟨h1,hF⟩:=aE hF
    refine RJ (.i e_Entry h1 .z) ?_
    refine Nblk ?_
    refine LR0 ?_
    refine Nif hF ?_ ?_ <;> intro hb hF
    ·obtain ⟨x1,h2,hF⟩:=lS hF
     refine RJ (.b (entry_fault_ok h2) .z) ?_
     have hF:=ret_done hF dn1
     cases hF
     exact Wz [] hfin
    ·refine LR0 ?_
     refine Nif hF ?_ ?_ <;> intro hb hF
     ·obtain ⟨x2,h3,hF⟩:=lS hF
      refine RJ (.b (entry_fault_ok h3) .z) ?_
      have hF:=ret_done hF dn1
      cases hF
      exact Wz [] hfin
     ·refine LR0 ?_
      refine Nif hF ?_ ?_ <;> intro hb hF
      ·obtain ⟨x3,h4,hF⟩:=lS hF
       refine RJ (.b (entry_fault_ok h4) .z) ?_
       have hF:=ret_done hF dn1
       cases hF
       exact Wz [] hfin
      ·refine LR0 ?_
       refine LR0 ?_
       exact Nrnq [] hF ih1
   ·refine Nexit rfl ?_
    have hF:=inrO_done hF dn1
    exact metQ () [] hF
  ·intro v hF
   unfold entry_Check_J1 at hF
   refine LR0 ?_
   cases hF
   exact Wz [] hfin

/- entry.TermAt -/
def entry_TermAt (l:List Entry) (at0:Int):Option Int:=
 if ((decide (at0<1))||(decide ((l.length:Int)<at0)))=true then
  some 0
 else
  asrt (0≤w64 (at0 - 1)∧w64 (at0 - 1)<(l.length:Int)) <|
  some ((lget l (w64 (at0 - 1))).Term)
theorem entry_TermAt_ok {l at0 r} (hF:entry_TermAt l at0=some r):Pe Try.prog 56 S.none [.sl 2 (l.map e_Entry),.i at0] (.i r) S.none:=by
 refine PT 19 [.tmp 4] [3] Try.func56 ?_
 intro Q g hfin
 unfold entry_TermAt at hF
 refine LR0 ?_
 refine RJ (.a (.nat (l.length:Int)) (.g (fun (_:(!(decide (at0<1)))=true)=>(len_ok e_Entry l)) .z)) ?_
 refine Nif hF ?_ ?_ <;> intro hb hF
 ·refine LR0 ?_
  cases hF
  exact Wz [] hfin
 ·obtain ⟨h0,hF⟩:=aE hF
  refine RJ (.i e_Entry h0 .z) ?_
  cases hF
  exact Wz [] hfin

/- raft.most -/
def raft_most (k0 num:Int):Bool:=
 decide (num<(w64 (2*k0)))
theorem raft_most_ok {k0 num r} (hF:raft_most k0 num=r):Pe Try.prog 57 S.none [.i k0,.i num] (.bool r) S.none:=by
 refine PT 9 [.tmp 4] [4] Try.func57 ?_
 intro Q g hfin
 unfold raft_most at hF
 refine LR0 ?_
 refine LR0 ?_
 cases hF
 exact Wz [] hfin

/- raft.Check -/
def raft_Check_J2 (v1:Bool):Option Fault:=
 if (!v1)=true then
  lt (raft_fault 5 (-3)) fun x12=>
  some x12
 else
  some (⟨0,0⟩:Fault)
def raft_Check_J4 (v4:Bool):Option Fault:=
 raft_Check_J2 v4
def raft_Check_B1 (x:Node) (v5:Bool×Int):Option ((Bool×Int)⊕Fault):=
 if (decide (v5.2<(x.Have.length:Int)))=true then
  asrt (0≤v5.2∧v5.2<(x.Have.length:Int)) <|
  lt (raft_within (lget x.Have v5.2) 0 (x.Log.length:Int)) fun x13=>
  some (Sum.inl (v5.1&&x13,w64 (v5.2+1)))
 else
  inrO (raft_Check_J4 v5.1)
def raft_Check_L1 (x:Node) (v0:Bool×Int):Option Fault:=
 loopO (fun y=>raft_Check_B1 x y) v0
def raft_Check_J3 (x:Node) (v3:Bool):Option Fault:=
 raft_Check_L1 x (v3,0)
def raft_Check_B2 (x:Node) (v6:Bool×Int):Option ((Bool×Int)⊕Fault):=
 if (decide (v6.2<(x.Next.length:Int)))=true then
  asrt (0≤v6.2∧v6.2<(x.Next.length:Int)) <|
  lt (raft_within (lget x.Next v6.2) 1 (w64 ((x.Log.length:Int)+1))) fun x14=>
  some (Sum.inl (v6.1&&x14,w64 (v6.2+1)))
 else
  inrO (raft_Check_J3 x v6.1)
def raft_Check_L2 (x:Node) (v0:Bool×Int):Option Fault:=
 loopO (fun y=>raft_Check_B2 x y) v0
def raft_Check_J1 (x:Node) (v:Bool):Option Fault:=
 if (decide (x.Role=2))=true then
  lt ((v&&(decide ((x.Next.length:Int)=x.N)))&&(decide ((x.Have.length:Int)=x.N))) fun v2=>
  raft_Check_L2 x (v2,0)
 else
  lt ((v&&(decide ((x.Next.length:Int)=0)))&&(decide ((x.Have.length:Int)=0))) fun v7=>
  raft_Check_J2 v7
def raft_Check_J5 (x:Node) (v8:Bool×(List (Int×Int))):Option Fault:=
 lt (raft_most (x.Votes.length:Int) x.N) fun x15=>
 raft_Check_J1 x ((v8.1&&(decide (((mget v8.2 x.ID).getD (0:Int))=1)))&&(!x15))
def raft_Check_B3 (x:Node) (v9:Bool×(List (Int×Int))×Int):Option ((Bool×(List (Int×Int))×Int)⊕Fault):=
 if (decide (v9.2.2<(x.Votes.length:Int)))=true then
  asrt (0≤v9.2.2∧v9.2.2<(x.Votes.length:Int)) <|
  lt (raft_within (lget x.Votes v9.2.2) 0 (w64 (x.N - 1))) fun x16=>
  lt ((v9.1&&x16)&&(decide (((mget v9.2.1 (lget x.Votes v9.2.2)).getD (0:Int))=0))) fun v10=>
  some (Sum.inl (v10,(mput v9.2.1 (lget x.Votes v9.2.2) (1:Int)),w64 (v9.2.2+1)))
 else
  inrO (raft_Check_J5 x (v9.1,v9.2.1))
def raft_Check_L3 (x:Node) (v0:Bool×(List (Int×Int))×Int):Option Fault:=
 loopO (fun y=>raft_Check_B3 x y) v0
def raft_Check (x:Node):Option Fault:=
 lt (raft_within x.N 1 7) fun x1=>
 lt (raft_within x.ID 0 (w64 (x.N - 1))) fun x2=>
 if ((!x1)||(!x2))=true then
  lt (raft_fault 3 (-1)) fun x3=>
  some x3
 else
  lt (raft_within x.Term 0 1000000000) fun x4=>
  lt (raft_within x.Vote 0 x.N) fun x5=>
  lt (raft_within x.Role 0 2) fun x6=>
  lt (raft_within x.Commit 0 (x.Log.length:Int)) fun x7=>
  if ((((!x4)||(!x5))||(!x6))||(!x7))=true then
   lt (raft_fault 3 (-2)) fun x8=>
   some x8
  else
   ob (entry_Check x.Log) fun x9=>
   if (!decide (x9.Code=0))=true then
    some x9
   else
    ob (entry_TermAt x.Log (x.Log.length:Int)) fun x10=>
    if (decide (x.Term<x10))=true then
     lt (raft_fault 11 (-3)) fun x11=>
     some x11
    else
     if (decide (x.Role=1))=true then
      raft_Check_L3 x (true,([]:List (Int×Int)),0)
     else
      raft_Check_J1 x (decide ((x.Votes.length:Int)=0))
theorem raft_Check_ok {x r} (hF:raft_Check x=some r):Pe Try.prog 26 S.none [.agg (c_Node x)] (.agg (c_Fault r)) S.none:=by
 refine PT 188 [.cell 2 31] [31] Try.func26 ?_
 intro Q g hfin
 unfold raft_Check at hF
 refine LR0 ?_
 refine RJ (.l e_Entry x.Log .z) ?_
 refine Nblk ?_
 obtain ⟨x1,h0,hF⟩:=lS hF
 obtain ⟨x2,h1,hF⟩:=lS hF
 refine RJ (.b (raft_within_ok h0) (.a (.callB (.bool x2)) (.g (fun (ga0:(!(!x1))=true)=>(raft_within_ok h1)) .z))) ?_
 refine Nif hF ?_ ?_ <;> intro hb hF
 ·obtain ⟨x3,h2,hF⟩:=lS hF
  refine RJ (.b (raft_fault_ok h2) .z) ?_
  cases hF
  exact Wz [] hfin
 ·obtain ⟨x4,h3,hF⟩:=lS hF
  obtain ⟨x5,h4,hF⟩:=lS hF
  obtain ⟨x6,h5,hF⟩:=lS hF
  obtain ⟨x7,h6,hF⟩:=lS hF
  refine RJ (.b (raft_within_ok h3) (.a (.callB (.bool x5)) (.g (fun (ga0:(!(!x4))=true)=>(raft_within_ok h4)) (.a (.callB (.bool x6)) (.g (fun (ga0:(!((!x4)||(!x5)))=true)=>(raft_within_ok h5)) (.a (.callB (.bool x7)) (.g (fun (ga0:(!(((!x4)||(!x5))||(!x6)))=true)=>(raft_within_ok h6)) .z))))))) ?_
  refine Nif hF ?_ ?_ <;> intro hb hF
  ·obtain ⟨x8,h7,hF⟩:=lS hF
   refine RJ (.b (raft_fault_ok h7) .z) ?_
   cases hF
   exact Wz [] hfin
  ·obtain ⟨x9,h8,hF⟩:=oE hF
   refine RJ (.b (entry_Check_ok h8) .z) ?_
   refine LR0 ?_
   refine Nif hF ?_ ?_ <;> intro hb hF
   ·refine LR0 ?_
    cases hF
    exact Wz [] hfin
   ·obtain ⟨x10,h9,hF⟩:=oE hF
    refine DJ (.b (entry_TermAt_ok h9) .z) ?_
    refine Nif hF ?_ ?_ <;> intro hb hF
    ·obtain ⟨x11,h10,hF⟩:=lS hF
     refine RJ (.b (raft_fault_ok h10) .z) ?_
     cases hF
     exact Wz [] hfin
    ·refine LR0 ?_
     refine LR0 ?_
     refine NmS (fun v=>raft_Check_J1 x v=some r) (fun Z v=>Z.up [1,2,3,5] [1,2] [] [] [(5,.bool v)] [] [] []) ?_ ?_
     ·refine Nif hF ?_ ?_ <;> intro hb hF
      ·refine LR0 ?_
       refine RJ (.l e_i64 x.Votes .z) ?_
       refine NmS (fun v8=>raft_Check_J5 x v8=some r) (fun Z v8=>Z.up [1,2,3,5,6] [1,2] [] [76] [(5,.bool v8.1)] [] [] [(76,(v8.2.map (fun p=>(e_i64 p.1,e_i64 p.2))))]) ?_ ?_
       ·refine Nblk ?_
        unfold raft_Check_L3 at hF
        refine Nits hF [] (fun Z v9=>Z.up [1,2,3,5,6,78,79,80] [1,2] [] [76] [(5,.bool v9.1),(80,.i v9.2.2)] [] [] [(76,(v9.2.1.map (fun p=>(e_i64 p.1,e_i64 p.2))))]) ?_
        intro n1 v9 y1 hF ih1 dn1
        unfold raft_Check_B3 at hF
        refine LR0 ?_
        refine Nif hF ?_ ?_ <;> intro hb hF
        ·refine Nblk ?_
         obtain ⟨h17,hF⟩:=aE hF
         refine RJ (.i e_i64 h17 .z) ?_
         obtain ⟨x16,h18,hF⟩:=lS hF
         refine NRL ((v9.1&&x16)&&(decide (((mget v9.2.1 (lget x.Votes v9.2.2)).getD (0:Int))=0))) (fun v10:Bool=>([(5,.bool v10)],[],[],[])) [.callB (.bool x16),.av (e_i64 ((mget v9.2.1 (lget x.Votes v9.2.2)).getD (0:Int))),.bo ((mget v9.2.1 (lget x.Votes v9.2.2)).isSome)] [1,2,3,5,6,8,78,79,80] [1,2] [] [76] (hc (fun (ga0:v9.1=true)=>(raft_within_ok h18)) (hc (fun (_:(v9.1&&x16)=true)=>(mkeys_ok (kenc_i64:KEnc _ e_i64) e_i64 v9.2.1)) (hc (fun (_:(v9.1&&x16)=true)=>(mlook_ok (kenc_i64:KEnc _ e_i64) e_i64 v9.2.1 (lget x.Votes v9.2.2) (0:Int))) (hc (fun (_:(v9.1&&x16)=true)=>(msome_ok (kenc_i64:KEnc _ e_i64) e_i64 v9.2.1 (lget x.Votes v9.2.2))) .nil)))) (fun v10 hv=>?_)
         have hF:=lt_elim hF hv
         refine RJ (.a (.ms ((mput v9.2.1 (lget x.Votes v9.2.2) (1:Int)).map (fun p=>(e_i64 p.1,e_i64 p.2)))) (.g (mkeys_ok (kenc_i64:KEnc _ e_i64) e_i64 v9.2.1) (.g (mput_ok (kenc_i64:KEnc _ e_i64) e_i64 v9.2.1 (lget x.Votes v9.2.2) (1:Int)) .z))) ?_
         refine LR0 ?_
         exact Nrnq [] hF ih1
        ·refine Nexit rfl ?_
         have hF:=inrO_done hF dn1
         exact metQ (v9.1,v9.2.1) [] hF
       ·intro v8 hF
        unfold raft_Check_J5 at hF
        obtain ⟨x15,h16,hF⟩:=lS hF
        refine RJ (.a (.av (e_i64 ((mget v8.2 x.ID).getD (0:Int)))) (.a (.bo ((mget v8.2 x.ID).isSome)) (.g (fun (_:v8.1=true)=>(mkeys_ok (kenc_i64:KEnc _ e_i64) e_i64 v8.2)) (.g (fun (_:v8.1=true)=>(mlook_ok (kenc_i64:KEnc _ e_i64) e_i64 v8.2 x.ID (0:Int))) (.g (fun (_:v8.1=true)=>(msome_ok (kenc_i64:KEnc _ e_i64) e_i64 v8.2 x.ID)) (.a (.nat (x.Votes.length:Int)) (.g (fun (_:(v8.1&&(decide (((mget v8.2 x.ID).getD (0:Int))=1)))=true)=>(len_ok e_i64 x.Votes)) (.a (.callB (.bool x15)) (.g (fun (ga0:(v8.1&&(decide (((mget v8.2 x.ID).getD (0:Int))=1)))=true)=>(raft_most_ok h16)) .z))))))))) ?_
        exact metQ ((v8.1&&(decide (((mget v8.2 x.ID).getD (0:Int))=1)))&&(!x15)) [] hF
      ·refine RJ (.l e_i64 x.Votes .z) ?_
       exact metQ (decide ((x.Votes.length:Int)=0)) [] hF
     ·intro v hF
      unfold raft_Check_J1 at hF
      refine LR0 ?_
      refine NmS (fun v1=>raft_Check_J2 v1=some r) (fun Z v1=>Z.up [2,5] [2] [] [] [(5,.bool v1)] [] [] []) ?_ ?_
      ·refine Nif hF ?_ ?_ <;> intro hb hF
       ·refine NRL ((v&&(decide ((x.Next.length:Int)=x.N)))&&(decide ((x.Have.length:Int)=x.N))) (fun v2:Bool=>([(5,.bool v2)],[],[],[])) [.nat (x.Next.length:Int),.nat (x.Have.length:Int)] [1,2,3,5] [1,2] [] [] (hc (fun (_:v=true)=>(len_ok e_i64 x.Next)) (hc (fun (_:(v&&(decide ((x.Next.length:Int)=x.N)))=true)=>(len_ok e_i64 x.Have)) .nil)) (fun v2 hv=>?_)
        have hF:=lt_elim hF hv
        refine RJ (.l e_i64 x.Next .z) ?_
        refine NmS (fun v3=>raft_Check_J3 x v3=some r) (fun Z v3=>Z.up [1,2,3,5] [1,2] [] [] [(5,.bool v3)] [] [] []) ?_ ?_
        ·refine Nblk ?_
         unfold raft_Check_L2 at hF
         refine Nits hF [] (fun Z v6=>Z.up [1,2,3,5,143,144,145] [1,2] [] [] [(5,.bool v6.1),(145,.i v6.2)] [] [] []) ?_
         intro n1 v6 y1 hF ih1 dn1
         unfold raft_Check_B2 at hF
         refine LR0 ?_
         refine Nif hF ?_ ?_ <;> intro hb hF
         ·refine Nblk ?_
          obtain ⟨h14,hF⟩:=aE hF
          refine RJ (.i e_i64 h14 .z) ?_
          obtain ⟨x14,h15,hF⟩:=lS hF
          refine RJ (.a (.callB (.bool x14)) (.g (fun (ga0:v6.1=true)=>(raft_within_ok h15)) .z)) ?_
          refine LR0 ?_
          exact Nrnq [] hF ih1
         ·refine Nexit rfl ?_
          have hF:=inrO_done hF dn1
          exact metQ v6.1 [] hF
        ·intro v3 hF
         unfold raft_Check_J3 at hF
         refine RJ (.l e_i64 x.Have .z) ?_
         refine NmS (fun v4=>raft_Check_J4 v4=some r) (fun Z v4=>Z.up [2,5] [2] [] [] [(5,.bool v4)] [] [] []) ?_ ?_
         ·refine Nblk ?_
          unfold raft_Check_L1 at hF
          refine Nits hF [] (fun Z v5=>Z.up [2,3,5,158,159,160] [2] [] [] [(5,.bool v5.1),(160,.i v5.2)] [] [] []) ?_
          intro n1 v5 y1 hF ih1 dn1
          unfold raft_Check_B1 at hF
          refine LR0 ?_
          refine Nif hF ?_ ?_ <;> intro hb hF
          ·refine Nblk ?_
           obtain ⟨h12,hF⟩:=aE hF
           refine RJ (.i e_i64 h12 .z) ?_
           obtain ⟨x13,h13,hF⟩:=lS hF
           refine RJ (.a (.callB (.bool x13)) (.g (fun (ga0:v5.1=true)=>(raft_within_ok h13)) .z)) ?_
           refine LR0 ?_
           exact Nrnq [] hF ih1
          ·refine Nexit rfl ?_
           have hF:=inrO_done hF dn1
           exact metQ v5.1 [] hF
         ·intro v4 hF
          unfold raft_Check_J4 at hF
          exact metQ v4 [] hF
       ·refine NRL ((v&&(decide ((x.Next.length:Int)=0)))&&(decide ((x.Have.length:Int)=0))) (fun v7:Bool=>([(5,.bool v7)],[],[],[])) [.nat (x.Next.length:Int),.nat (x.Have.length:Int)] [2,5] [2] [] [] (hc (fun (_:v=true)=>(len_ok e_i64 x.Next)) (hc (fun (_:(v&&(decide ((x.Next.length:Int)=0)))=true)=>(len_ok e_i64 x.Have)) .nil)) (fun v7 hv=>?_)
        have hF:=lt_elim hF hv
        exact metQ v7 [] hF
      ·intro v1 hF
       unfold raft_Check_J2 at hF
       refine LR0 ?_
       refine Nif hF ?_ ?_ <;> intro hb hF
       ·obtain ⟨x12,h11,hF⟩:=lS hF
        refine RJ (.b (raft_fault_ok h11) .z) ?_
        cases hF
        exact Wz [] hfin
       ·refine LR0 ?_
        cases hF
        exact Wz [] hfin

/- slices.Clone[[]api.Entry,api.Entry] -/
def slices_Clone_api_Entry_api_Entry (s0:List Entry):Option (List Entry):=
 ubO (decide (s0.length=0)) (
  some ([]:List Entry)) (
  asrt (((([]:List Entry)++s0).length:Int)*24≤140737488351232) <|
  some (([]:List Entry)++s0))
theorem slices_Clone_api_Entry_api_Entry_ok {s0 r} (hF:slices_Clone_api_Entry_api_Entry s0=some r):Pe Try.prog 45 (.w []) [.sl 2 (s0.map e_Entry)] (.row 5 0) ⟨[],[],[(5,.o 50 2 0 (r.map e_Entry))],[],[]⟩:=by
 refine PT 8 [.tmp 2] [45] Try.func45 ?_
 intro Q g hfin
 unfold slices_Clone_api_Entry_api_Entry at hF
 refine LR0 ?_
 refine NR [.bo (decide (s0.length=0))] [0,4] [] [] [(0,.sl 2 (s0.map e_Entry)),(4,.ub (decide (s0.length=0)) true)] (hc (ubn_ok e_Entry s0) .nil) ?_
 refine Wk_ub 4 rfl fun b hb1 hb2=>?_
 refine Nsplit rfl (fun hb=>?_) (fun hb=>?_)
 ·have hb:=hb1 hb
  have hF:=(ubO_elim hF).1 hb
  refine NR [] [2] [] [] [(2,.nils)] .nil ?_
  cases hF
  refine Wk_nilrow 2 60000 50 2 rfl rfl rfl ?_
  refine Wk_ren' ⟨[],[(60000,5)],[],[]⟩ rfl ?_
  exact Wz [(5,⟨0,true,false,false⟩)] hfin
 ·have hF:=(ubO_elim hF).2
  obtain ⟨h0,hF⟩:=aE hF
  refine RJ (.p e_Entry h0 .z) ?_
  cases hF
  exact Wz [(5,⟨0,true,true,false⟩)] hfin

/- slices.Clone[[]int,int] -/
def slices_Clone_int_int (s0:List Int):Option (List Int):=
 ubO (decide (s0.length=0)) (
  some ([]:List Int)) (
  asrt (((([]:List Int)++s0).length:Int)*8≤140737488351232) <|
  some (([]:List Int)++s0))
theorem slices_Clone_int_int_ok {s0 r} (hF:slices_Clone_int_int s0=some r):Pe Try.prog 79 (.w []) [.sl 1 (s0.map e_i64)] (.row 5 0) ⟨[],[],[(5,.o 3 1 0 (r.map e_i64))],[],[]⟩:=by
 refine PT 8 [.tmp 2] [46] Try.func79 ?_
 intro Q g hfin
 unfold slices_Clone_int_int at hF
 refine LR0 ?_
 refine NR [.bo (decide (s0.length=0))] [0,4] [] [] [(0,.sl 1 (s0.map e_i64)),(4,.ub (decide (s0.length=0)) true)] (hc (ubn_ok e_i64 s0) .nil) ?_
 refine Wk_ub 4 rfl fun b hb1 hb2=>?_
 refine Nsplit rfl (fun hb=>?_) (fun hb=>?_)
 ·have hb:=hb1 hb
  have hF:=(ubO_elim hF).1 hb
  refine NR [] [2] [] [] [(2,.nils)] .nil ?_
  cases hF
  refine Wk_nilrow 2 60000 3 1 rfl rfl rfl ?_
  refine Wk_ren' ⟨[],[(60000,5)],[],[]⟩ rfl ?_
  exact Wz [(5,⟨0,true,false,false⟩)] hfin
 ·have hF:=(ubO_elim hF).2
  obtain ⟨h0,hF⟩:=aE hF
  refine RJ (.p e_i64 h0 .z) ?_
  cases hF
  exact Wz [(5,⟨0,true,true,false⟩)] hfin

/- raft.own -/
def raft_own (x:Node):Option (Int×Int×Int×Int×List Entry×Int×Int×List Int×List Int×List Int):=
 ob (slices_Clone_api_Entry_api_Entry x.Log) fun x1=>
 ob (slices_Clone_int_int x.Votes) fun x2=>
 ob (slices_Clone_int_int x.Next) fun x3=>
 ob (slices_Clone_int_int x.Have) fun x4=>
 some (x.N,x.ID,x.Term,x.Vote,x1,x.Role,x.Commit,x2,x3,x4)
theorem raft_own_ok {x r} (hF:raft_own x=some r):Pe Try.prog 58 (.w []) [.agg (c_Node x)] (.ptr 1 0) ⟨[],[(1,[.i r.1,.i r.2.1,.i r.2.2.1,.i r.2.2.2.1,.row 5 0,.i r.2.2.2.2.2.1,.i r.2.2.2.2.2.2.1,.row 8 0,.row 11 0,.row 14 0])],[(5,.o 50 2 0 (r.2.2.2.2.1.map e_Entry)),(8,.o 3 1 0 (r.2.2.2.2.2.2.2.1.map e_i64)),(11,.o 3 1 0 (r.2.2.2.2.2.2.2.2.1.map e_i64)),(14,.o 3 1 0 (r.2.2.2.2.2.2.2.2.2.map e_i64))],[],[]⟩:=by
 refine PT 19 [.tmp 2] [101] Try.func58 ?_
 intro Q g hfin
 unfold raft_own at hF
 refine LR0 ?_
 obtain ⟨x1,h0,hF⟩:=oE hF
 have p1:=(Pe.ren (slices_Clone_api_Entry_api_Entry_ok h0) ⟨[],[],[],[]⟩)
 obtain ⟨x2,h2,hF⟩:=oE hF
 have p3:=(Pe.ren (slices_Clone_int_int_ok h2) ⟨[],[(5,8)],[],[]⟩)
 obtain ⟨x3,h4,hF⟩:=oE hF
 have p5:=(Pe.ren (slices_Clone_int_int_ok h4) ⟨[],[(5,11)],[],[]⟩)
 obtain ⟨x4,h6,hF⟩:=oE hF
 have p7:=(Pe.ren (slices_Clone_int_int_ok h6) ⟨[],[(5,14)],[],[]⟩)
 refine DJ (.e [] [] p1 (.e [] [] p3 (.e [] [] p5 (.e [] [] p7 .z)))) ?_
 refine LR0 ?_
 cases hF
 exact Wz [] hfin

/- raft.follow -/
def raft_follow (box box1:Int) (box2 box3:Int) (box4 box5:Int) (row:List Entry) (row1 row2 row3:List Int):Int×Int×Int×Int×Int×Int:=
 (box,box1,box2,box3,0,box5)
theorem raft_follow_ok (rk rc:Nat) (rn:Bool) (rk1 rc1:Nat) (rn1:Bool) (rk2 rc2:Nat) (rn2:Bool) (rk3 rc3:Nat) (rn3:Bool) {box box1 box2 box3 box4 box5 row row1 row2 row3 r} (hF:raft_follow box box1 box2 box3 box4 box5 row row1 row2 row3=r):Pe Try.prog 59 ⟨[],[(100000,[.i box,.i box1,.i box2,.i box3,.row 100000 0,.i box4,.i box5,.row 100001 0,.row 100002 0,.row 100003 0])],[(100000,.q 50 2 0 rk rc rn (row.map e_Entry)),(100001,.q 3 1 0 rk1 rc1 rn1 (row1.map e_i64)),(100002,.q 3 1 0 rk2 rc2 rn2 (row2.map e_i64)),(100003,.q 3 1 0 rk3 rc3 rn3 (row3.map e_i64))],[],[]⟩ [.ptr 100000 0] (.tup []) ⟨[],[(100000,[.i r.1,.i r.2.1,.i r.2.2.1,.i r.2.2.2.1,.row 100000 0,.i r.2.2.2.2.1,.i r.2.2.2.2.2,.nils,.nils,.nils])],[(100000,.q 50 2 0 rk rc rn (row.map e_Entry)),(100001,.q 3 1 0 rk1 rc1 rn1 (row1.map e_i64)),(100002,.q 3 1 0 rk2 rc2 rn2 (row2.map e_i64)),(100003,.q 3 1 0 rk3 rc3 rn3 (row3.map e_i64))],[],[]⟩:=by
 refine PT 14 [] [] Try.func59 ?_
 intro Q g hfin
 unfold raft_follow at hF
 refine LR0 ?_
 cases hF
 exact Wk_end (hfin _ ⟨[100000,100001,100002,100003],[100000],[100000,100001,100002,100003],[],[],[],by kernel_rfl⟩)

/- raft.Stand$1 -/
def raft_Stand_1 (p box:Int) (box1 box2:Int) (box3 box4 box5:Int) (box6:List Int) (row:List Entry):Option (Int×Int×Int×Int×Int×Int×Int×Bool):=
 ob (entry_TermAt row (row.length:Int)) fun x=>
 some (1,0,0,0,(row.length:Int),x,0,false)
theorem raft_Stand_1_ok (rk rc:Nat) (rn:Bool) {p box box1 box2 box3 box4 box5 box6 row r} (hF:raft_Stand_1 p box box1 box2 box3 box4 box5 box6 row=some r):Pe Try.prog 61 ⟨[],[(100000,[.ptr 100001 0]),(100001,[.i box,.i box1,.i box2,.i box3,.row 100000 0,.i box4,.i box5,.sl 1 (box6.map e_i64),.nils,.nils])],[(100000,.q 50 2 0 rk rc rn (row.map e_Entry))],[],[]⟩ [.i p,.ptr 100000 0] (.agg [.i r.1,.i r.2.1,.i r.2.2.1,.i r.2.2.2.1,.i r.2.2.2.2.1,.i r.2.2.2.2.2.1,.i r.2.2.2.2.2.2.1,.row 71000 0,.bool r.2.2.2.2.2.2.2]) ⟨[],[(100000,[.ptr 100001 0]),(100001,[.i box,.i box1,.i box2,.i box3,.row 100000 0,.i box4,.i box5,.sl 1 (box6.map e_i64),.nils,.nils])],[(100000,.q 50 2 0 rk rc rn (row.map e_Entry)),(71000,.z 50 2 0 (([]:List Entry).map e_Entry))],[],[]⟩:=by
 refine PT 20 [.cell 3 91] [91] Try.func61 ?_
 intro Q g hfin
 unfold raft_Stand_1 at hF
 refine LR0 ?_
 obtain ⟨x,h0,hF⟩:=oE hF
 refine VD [.nat (row.length:Int),.nat (row.length:Int),.callB (.i x)] [3] [3,100000,100001] [100000] [] [(3,.ptr 3 0)] [(3,[.i 1,.i 0,.i 0,.i 0,.i (row.length:Int),.i x,.i 0,.nils,.bool false]),(100000,[.ptr 100001 0]),(100001,[.i box,.i box1,.i box2,.i box3,.row 100000 0,.i box4,.i box5,.sl 1 (box6.map e_i64),.nils,.nils])] [(100000,.q 50 2 0 rk rc rn (row.map e_Entry))] [] (hc (len_ok e_Entry row) (hc (len_ok e_Entry row) (hc (entry_TermAt_ok h0) .nil))) ?_
 cases hF
 refine Wk_nilrowB 3 7 60000 50 2 rfl rfl rfl rfl rfl ?_
 refine Wk_ren' ⟨[],[(60000,71000)],[],[]⟩ rfl ?_
 exact Wz [] hfin

/- raft.others -/
def raft_others_J1 (v:List Mail):Option (List Mail):=
 some v
def raft_others_B1 (box box1:Int) (box2 box3:Int) (box4 box5:Int) (box6:List Int) (row:List Entry) (v1:List Mail×Int):Option ((List Mail×Int)⊕(List Mail)):=
 if (decide (v1.2<box))=true then
  ob (
   if (!decide (v1.2=box1))=true then
    ob (raft_Stand_1 v1.2 box box1 box2 box3 box4 box5 box6 row) fun x=>
    asrt (((v1.1++[(⟨x.1,box1,v1.2,box2,x.2.2.2.2.1,x.2.2.2.2.2.1,x.2.2.2.2.2.2.1,([]:List Entry),x.2.2.2.2.2.2.2⟩:Mail)]).length:Int)*88≤140737488351232) <|
    lt ((v1.1++[(⟨x.1,box1,v1.2,box2,x.2.2.2.2.1,x.2.2.2.2.2.1,x.2.2.2.2.2.2.1,([]:List Entry),x.2.2.2.2.2.2.2⟩:Mail)])) fun v3=>
    some v3
   else
    some v1.1) fun v2=>
  some (Sum.inl (v2,w64 (v1.2+1)))
 else
  inrO (raft_others_J1 v1.1)
def raft_others_L1 (box box1:Int) (box2 box3:Int) (box4 box5:Int) (box6:List Int) (row:List Entry) (v0:List Mail×Int):Option (List Mail):=
 loopO (fun y=>raft_others_B1 box box1 box2 box3 box4 box5 box6 row y) v0
def raft_others (box box1:Int) (box2 box3:Int) (box4 box5:Int) (box6:List Int) (row:List Entry):Option (List Mail):=
 raft_others_L1 box box1 box2 box3 box4 box5 box6 row (([]:List Mail),0)
theorem raft_others_ok (rk rc:Nat) (rn:Bool) {box box1 box2 box3 box4 box5 box6 row r} (hF:raft_others box box1 box2 box3 box4 box5 box6 row=some r):Pe Try.prog 60 ⟨[],[(100000,[.i box,.i box1,.i box2,.i box3,.row 100000 0,.i box4,.i box5,.sl 1 (box6.map e_i64),.nils,.nils]),(100001,[.ptr 100000 0])],[(100000,.q 50 2 0 rk rc rn (row.map e_Entry))],[],[]⟩ [.ptr 100000 0,.fn 61 [.ptr 100001 0]] (.row 39 0) ⟨[],[(100000,[.i box,.i box1,.i box2,.i box3,.row 100000 0,.i box4,.i box5,.sl 1 (box6.map e_i64),.nils,.nils]),(100001,[.ptr 100000 0])],[(100000,.q 50 2 0 rk rc rn (row.map e_Entry)),(39,.z 91 9 0 (r.map e_Mail))],[],[]⟩:=by
 refine PT 42 [.tmp 4] [27] Try.func60 ?_
 intro Q g hfin
 unfold raft_others at hF
 refine LR0 ?_
 refine LR0 ?_
 refine VR [] [0,1,5,11,12] [100000,100001] [100000] [] [(0,.ptr 100000 0),(1,.fn 61 [.ptr 100001 0]),(5,.nils),(11,.i box),(12,.i 0)] [(100000,[.i box,.i box1,.i box2,.i box3,.row 100000 0,.i box4,.i box5,.sl 1 (box6.map e_i64),.nils,.nils]),(100001,[.ptr 100000 0])] [(100000,.q 50 2 0 rk rc rn (row.map e_Entry))] [] .nil ?_
 refine NmS (fun v=>raft_others_J1 v=some r) (fun Z v=>Z.up [5] [100000,100001] [39,100000] [] [(5,.row 39 0)] [] [(39,.z 91 9 0 (v.map e_Mail))] []) ?_ ?_
 ·refine Nblk ?_
  unfold raft_others_L1 at hF
  refine Wk_nilrow 5 60000 91 9 rfl rfl rfl ?_
  refine Wk_trim (fs:=[0,1,5,11,12]) (bs:=[100000,100001]) (rs:=[60000,100000]) (ms:=[]) (aa:=[]) (nv:=[]) rfl ?_
  refine Wk_ren' ⟨[],[(60000,39)],[],[]⟩ rfl ?_
  refine Nitr hF [] (fun v1=>⟨[(0,.ptr 100000 0),(1,.fn 61 [.ptr 100001 0]),(5,.row 39 0),(11,.i box),(12,.i v1.2)],[(100000,[.i box,.i box1,.i box2,.i box3,.row 100000 0,.i box4,.i box5,.sl 1 (box6.map e_i64),.nils,.nils]),(100001,[.ptr 100000 0])],[(39,.z 91 9 0 (v1.1.map e_Mail)),(100000,.q 50 2 0 rk rc rn (row.map e_Entry))],[],[]⟩) ?_
  intro n1 v1 y1 hF ih1 dn1
  unfold raft_others_B1 at hF
  refine LR0 ?_
  refine Nif hF ?_ ?_ <;> intro hb hF
  ·refine Nblk ?_
   refine LR0 ?_
   refine LR0 ?_
   obtain ⟨v2,hv,hF⟩:=oE hF
   refine NmT (fun Z=>Z.up [0,1,5,11,12] [100000,100001] [39,100000] [] [] [] [(39,.z 91 9 0 (v2.map e_Mail))] []) ?_ ?_
   ·have hF:=hv
    refine Nif hF ?_ ?_ <;> intro hb hF
    ·obtain ⟨x,h0,hF⟩:=oE hF
     have p1:=(Pe.ren (raft_Stand_1_ok rk rc rn h0) ⟨[(100000,100001)],[(71000,23)],[],[]⟩)
     refine RJ (.e [100001,100000] [100000] p1 .z) ?_
     refine LD0 ?_
     obtain ⟨h2,hF⟩:=aE hF
     obtain ⟨v3,hv,hF⟩:=lS hF
     refine RJ (.a (.sealed) (.pN e_Mail hv h2 .z)) ?_
     cases hF
     exact met' [(39,⟨0,true,true,false⟩)]
    ·cases hF
     exact met' []
   ·refine LR0 ?_
    exact Nrnq [] hF ih1
  ·refine Nexit rfl ?_
   have hF:=inrO_done hF dn1
   exact metQ v1.1 [] hF
 ·intro v hF
  unfold raft_others_J1 at hF
  refine LR0 ?_
  cases hF
  exact Wz [] hfin

/- raft.follow -/
def raft_follow_v1 (box box1:Int) (box2 box3:Int) (box4 box5:Int) (box6:List Int) (row:List Entry):Int×Int×Int×Int×Int×Int:=
 (box,box1,box2,box3,0,box5)
theorem raft_follow_v1_ok (rk rc:Nat) (rn:Bool) {box box1 box2 box3 box4 box5 box6 row r} (hF:raft_follow_v1 box box1 box2 box3 box4 box5 box6 row=r):Pe Try.prog 59 ⟨[],[(100000,[.i box,.i box1,.i box2,.i box3,.row 100000 0,.i box4,.i box5,.sl 1 (box6.map e_i64),.nils,.nils])],[(100000,.q 50 2 0 rk rc rn (row.map e_Entry))],[],[]⟩ [.ptr 100000 0] (.tup []) ⟨[],[(100000,[.i r.1,.i r.2.1,.i r.2.2.1,.i r.2.2.2.1,.row 100000 0,.i r.2.2.2.2.1,.i r.2.2.2.2.2,.nils,.nils,.nils])],[(100000,.q 50 2 0 rk rc rn (row.map e_Entry))],[],[]⟩:=by
 refine PT 14 [] [] Try.func59 ?_
 intro Q g hfin
 unfold raft_follow_v1 at hF
 refine LR0 ?_
 cases hF
 exact Wk_end (hfin _ ⟨[100000],[100000],[100000],[],[],[],by kernel_rfl⟩)

/- raft.count -/
def raft_count_J1 (box box1:Int) (box2 box3:Int) (box4 v:Int):Option (Int×Int×Int×Int×Int×Int):=
 some (box,box1,box2,box3,box4,v)
def raft_count_J2 (box box2:Int) (row:List Entry) (v1:Int×Int) (v2:Int):Option ((Int×Int)⊕(Int×Int×Int×Int×Int×Int)):=
 lt (raft_most v2 box) fun x=>
 ob (if x=true then (entry_TermAt row v1.2) else some default) fun x1=>
 ob (
  if (x&&(decide (x1=box2)))=true then
   some v1.2
  else
   some v1.1) fun v3=>
 some (Sum.inl (v3,w64 (v1.2 - 1)))
def raft_count_B2 (box box2:Int) (row:List Entry) (row2:List Int) (v1 v4:Int×Int):Option ((Int×Int)⊕((Int×Int)⊕(Int×Int×Int×Int×Int×Int))):=
 if (decide (v4.2<(row2.length:Int)))=true then
  asrt (0≤v4.2∧v4.2<(row2.length:Int)) <|
  asrt (0≤v4.2∧v4.2<(row2.length:Int)) <|
  ob (
   if (decide (v1.2≤(lget row2 v4.2)))=true then
    some (w64 (v4.1+1))
   else
    some v4.1) fun v5=>
  some (Sum.inl (v5,w64 (v4.2+1)))
 else
  inrO (raft_count_J2 box box2 row v1 v4.1)
def raft_count_L2 (box box2:Int) (row:List Entry) (row2:List Int) (v1 v0:Int×Int):Option ((Int×Int)⊕(Int×Int×Int×Int×Int×Int)):=
 loopO (fun y=>raft_count_B2 box box2 row row2 v1 y) v0
def raft_count_B1 (box box1:Int) (box2 box3 box4:Int) (row:List Entry) (row2:List Int) (v1:Int×Int):Option ((Int×Int)⊕(Int×Int×Int×Int×Int×Int)):=
 if (decide (v1.1<v1.2))=true then
  raft_count_L2 box box2 row row2 v1 (0,0)
 else
  inrO (raft_count_J1 box box1 box2 box3 box4 v1.1)
def raft_count_L1 (box box1:Int) (box2 box3 box4:Int) (row:List Entry) (row2:List Int) (v0:Int×Int):Option (Int×Int×Int×Int×Int×Int):=
 loopO (fun y=>raft_count_B1 box box1 box2 box3 box4 row row2 y) v0
def raft_count (box box1:Int) (box2 box3:Int) (box4 box5:Int) (row:List Entry) (row1 row2:List Int):Option (Int×Int×Int×Int×Int×Int):=
 raft_count_L1 box box1 box2 box3 box4 row row2 (box5,(row.length:Int))
theorem raft_count_ok (rk rc:Nat) (rn:Bool) (rk1 rc1:Nat) (rn1:Bool) (rk2 rc2:Nat) (rn2:Bool) {box box1 box2 box3 box4 box5 row row1 row2 r} (hF:raft_count box box1 box2 box3 box4 box5 row row1 row2=some r):Pe Try.prog 63 ⟨[],[(100000,[.i box,.i box1,.i box2,.i box3,.row 100000 0,.i box4,.i box5,.nils,.row 100001 0,.row 100002 0])],[(100000,.q 50 2 0 rk rc rn (row.map e_Entry)),(100001,.q 3 1 0 rk1 rc1 rn1 (row1.map e_i64)),(100002,.q 3 1 0 rk2 rc2 rn2 (row2.map e_i64))],[],[]⟩ [.ptr 100000 0] (.tup []) ⟨[],[(100000,[.i r.1,.i r.2.1,.i r.2.2.1,.i r.2.2.2.1,.row 100000 0,.i r.2.2.2.2.1,.i r.2.2.2.2.2,.nils,.row 100001 0,.row 100002 0])],[(100000,.q 50 2 0 rk rc rn (row.map e_Entry)),(100001,.q 3 1 0 rk1 rc1 rn1 (row1.map e_i64)),(100002,.q 3 1 0 rk2 rc2 rn2 (row2.map e_i64))],[],[]⟩:=by
 refine PT 57 [] [] Try.func63 ?_
 intro Q g hfin
 unfold raft_count at hF
 refine RJ (.l e_Entry row .z) ?_
 refine NmS (fun v=>raft_count_J1 box box1 box2 box3 box4 v=some r) (fun Z v=>Z.up [] [100000] [100000,100001,100002] [] [] [(100000,[.i box,.i box1,.i box2,.i box3,.row 100000 0,.i box4,.i v,.nils,.row 100001 0,.row 100002 0])] [] []) ?_ ?_
 ·refine Nblk ?_
  unfold raft_count_L1 at hF
  refine Nits hF [] (fun Z v1=>Z.up [0,2] [100000] [100000,100001,100002] [] [(2,.i v1.2)] [(100000,[.i box,.i box1,.i box2,.i box3,.row 100000 0,.i box4,.i v1.1,.nils,.row 100001 0,.row 100002 0])] [] []) ?_
  intro n1 v1 y1 hF ih1 dn1
  unfold raft_count_B1 at hF
  refine LR0 ?_
  refine Nif hF ?_ ?_ <;> intro hb hF
  ·refine Nblk ?_
   refine LR0 ?_
   refine RJ (.l e_i64 row2 .z) ?_
   refine NmS (fun v2=>raft_count_J2 box box2 row v1 v2=some y1) (fun Z v2=>Z.up [0,2,3] [100000] [100000,100001,100002] [] [(3,.i v2)] [] [] []) ?_ ?_
   ·refine Nblk ?_
    unfold raft_count_L2 at hF
    refine Nits hF [] (fun Z v4=>Z.up [0,2,3,22,23,24] [100000] [100000,100001,100002] [] [(3,.i v4.1),(24,.i v4.2)] [] [] []) ?_
    intro n2 v4 y2 hF ih2 dn2
    unfold raft_count_B2 at hF
    refine LR0 ?_
    refine Nif hF ?_ ?_ <;> intro hb hF
    ·refine Nblk ?_
     obtain ⟨h2,h3,hF⟩:=asrt2 hF
     refine RJ (.x e_i64 h2 (.r e_i64 h3 .z)) ?_
     refine LR0 ?_
     obtain ⟨v5,hv,hF⟩:=oE hF
     refine NmT (fun Z=>Z.up [0,2,3,22,23,24] [100000] [100000,100001,100002] [] [(3,.i v5)] [] [] []) ?_ ?_
     ·have hF:=hv
      refine Nif hF ?_ ?_ <;> intro hb hF
      ·refine LR0 ?_
       cases hF
       exact met' []
      ·cases hF
       exact met' []
     ·refine LR0 ?_
      exact Nrnq [] hF ih2
    ·refine Nexit rfl ?_
     have hF:=inrO_done hF dn2
     exact metQ v4.1 [] hF
   ·intro v2 hF
    unfold raft_count_J2 at hF
    obtain ⟨x,h0,hF⟩:=lS hF
    obtain ⟨x1,h1,hF⟩:=oE hF
    refine DJ (.b (raft_most_ok h0) (.a (.callB (.i x1)) (.g (fun (ga0:x=true)=>(entry_TermAt_ok (ite_t h1 ga0))) .z))) ?_
    obtain ⟨v3,hv,hF⟩:=oE hF
    refine NmT (fun Z=>Z.up [0,2] [100000] [100000,100001,100002] [] [] [(100000,[.i box,.i box1,.i box2,.i box3,.row 100000 0,.i box4,.i v3,.nils,.row 100001 0,.row 100002 0])] [] []) ?_ ?_
    ·have hF:=hv
     refine Nif hF ?_ ?_ <;> intro hb hF
     ·refine LR0 ?_
      cases hF
      exact met' []
     ·cases hF
      exact met' []
    ·refine LR0 ?_
     exact Nrnq [] hF ih1
  ·refine Nexit rfl ?_
   have hF:=inrO_done hF dn1
   exact metQ v1.1 [] hF
 ·intro v hF
  unfold raft_count_J1 at hF
  cases hF
  exact Wk_end (hfin _ ⟨[100000,100001,100002],[100000],[100000,100001,100002],[],[],[],by kernel_rfl⟩)

/- raft.lead -/
def raft_lead_J1 (row:List Entry) (x:Int×Int×Int×Int×Int×Int) (v:List Int):Option (Int×Int×Int×Int×Int×Int×List Int×List Int):=
 asrt (0≤x.2.1∧x.2.1<((List.replicate x.1.toNat (0:Int)).length:Int)) <|
 asrt (0≤x.2.1∧x.2.1<((List.replicate x.1.toNat (0:Int)).length:Int)) <|
 ob (raft_count x.1 x.2.1 x.2.2.1 x.2.2.2.1 2 x.2.2.2.2.2 row v (lset (List.replicate x.1.toNat (0:Int)) x.2.1 (row.length:Int))) fun x1=>
 some (x1.1,x1.2.1,x1.2.2.1,x1.2.2.2.1,x1.2.2.2.2.1,x1.2.2.2.2.2,v,(lset (List.replicate x.1.toNat (0:Int)) x.2.1 (row.length:Int)))
def raft_lead_B1 (row:List Entry) (x:Int×Int×Int×Int×Int×Int) (v1:List Int×Int):Option ((List Int×Int)⊕(Int×Int×Int×Int×Int×Int×List Int×List Int)):=
 if (decide (v1.2<((List.replicate x.1.toNat (0:Int)).length:Int)))=true then
  asrt (0≤v1.2∧v1.2<(v1.1.length:Int)) <|
  asrt (0≤v1.2∧v1.2<(v1.1.length:Int)) <|
  some (Sum.inl ((lset v1.1 v1.2 (w64 ((row.length:Int)+1))),w64 (v1.2+1)))
 else
  inrO (raft_lead_J1 row x v1.1)
def raft_lead_L1 (row:List Entry) (x:Int×Int×Int×Int×Int×Int) (v0:List Int×Int):Option (Int×Int×Int×Int×Int×Int×List Int×List Int):=
 loopO (fun y=>raft_lead_B1 row x y) v0
def raft_lead (box box1:Int) (box2 box3:Int) (box4 box5:Int) (box6:List Int) (row:List Entry):Option (Int×Int×Int×Int×Int×Int×List Int×List Int):=
 lt (raft_follow_v1 box box1 box2 box3 box4 box5 box6 row) fun x=>
 asrt (0≤(x.1:Int)∧x.1≤x.1∧x.1*8≤140737488351232) <|
 asrt (0≤(x.1:Int)∧x.1≤x.1∧x.1*8≤140737488351232) <|
 raft_lead_L1 row x ((List.replicate x.1.toNat (0:Int)),0)
theorem raft_lead_ok (rk rc:Nat) (rn:Bool) {box box1 box2 box3 box4 box5 box6 row r} (hF:raft_lead box box1 box2 box3 box4 box5 box6 row=some r):Pe Try.prog 62 ⟨[],[(100000,[.i box,.i box1,.i box2,.i box3,.row 100000 0,.i box4,.i box5,.sl 1 (box6.map e_i64),.nils,.nils])],[(100000,.q 50 2 0 rk rc rn (row.map e_Entry))],[],[]⟩ [.ptr 100000 0] (.tup []) ⟨[],[(100000,[.i r.1,.i r.2.1,.i r.2.2.1,.i r.2.2.2.1,.row 100000 0,.i r.2.2.2.2.1,.i r.2.2.2.2.2.1,.nils,.row 18 0,.row 23 0])],[(100000,.q 50 2 0 rk rc rn (row.map e_Entry)),(18,.o 3 1 0 (r.2.2.2.2.2.2.1.map e_i64)),(23,.o 3 1 0 (r.2.2.2.2.2.2.2.map e_i64))],[],[]⟩:=by
 refine PT 59 [] [] Try.func62 ?_
 intro Q g hfin
 unfold raft_lead at hF
 refine RJ (.l e_Entry row .z) ?_
 obtain ⟨x,h0,hF⟩:=lS hF
 have p1:=(Pe.ren (raft_follow_v1_ok rk rc rn h0) ⟨[],[],[],[]⟩)
 refine RJ (.e [100000] [100000] p1 .z) ?_
 obtain ⟨h2,h3,hF⟩:=asrt2 hF
 refine DJ (.a (.xs ((List.replicate x.1.toNat (0:Int)).map e_i64)) (.g (mk_ok h2) (.g (rep_ok e_i64 (x.1) (0:Int)) (.a (.xs ((List.replicate x.1.toNat (0:Int)).map e_i64)) (.g (mk_ok h3) (.g (rep_ok e_i64 (x.1) (0:Int)) .z)))))) ?_
 refine RJ (.l e_i64 (List.replicate x.1.toNat (0:Int)) .z) ?_
 refine NmS (fun v=>raft_lead_J1 row x v=some r) (fun Z v=>Z.up [0,2] [100000] [18,23,100000] [] [] [] [(18,.o 3 1 0 (v.map e_i64))] []) ?_ ?_
 ·refine Nblk ?_
  unfold raft_lead_L1 at hF
  refine Nits hF [] (fun Z v1=>Z.up [0,2,34,35] [100000] [18,23,100000] [] [(35,.i v1.2)] [] [(18,.o 3 1 0 (v1.1.map e_i64))] []) ?_
  intro n1 v1 y1 hF ih1 dn1
  unfold raft_lead_B1 at hF
  refine LR0 ?_
  refine Nif hF ?_ ?_ <;> intro hb hF
  ·refine Nblk ?_
   refine LR0 ?_
   obtain ⟨h8,h9,hF⟩:=asrt2 hF
   refine RJ (.x e_i64 h8 (.w e_i64 h9 (w64 ((row.length:Int)+1)) .z)) ?_
   refine LR0 ?_
   exact Nrnq [] hF ih1
  ·refine Nexit rfl ?_
   have hF:=inrO_done hF dn1
   exact metQ v1.1 [] hF
 ·intro v hF
  unfold raft_lead_J1 at hF
  obtain ⟨h4,h5,hF⟩:=asrt2 hF
  refine DJ (.x e_i64 h4 (.w e_i64 h5 (row.length:Int) .z)) ?_
  obtain ⟨x1,h6,hF⟩:=oE hF
  have p7:=(Pe.ren (raft_count_ok rk rc rn 0 0 false 0 0 false h6) ⟨[],[(100001,18),(100002,23)],[],[]⟩)
  refine RJ (.e [100000] [100000,18,23] p7 .z) ?_
  cases hF
  exact Wk_end (hfin _ ⟨[100000,18,23],[100000],[100000,18,23],[],[],[],by kernel_rfl⟩)

/- raft.Stand -/
def raft_Stand (x:Node):Option (Int×Int×Int×Int×List Entry×Int×Int×List Int×List Int×List Int×List Mail×Fault):=
 ob (raft_Check x) fun x1=>
 ob (
  if (!decide (x1.Code=0))=true then
   some x1
  else
   if (decide (x.Role=2))=true then
    lt (raft_fault 11 0) fun x2=>
    some x2
   else
    if (decide (x.Term=1000000000))=true then
     lt (raft_fault 9 0) fun x3=>
     some x3
    else
     some x1) fun v=>
 if (!decide (v.Code=0))=true then
  some (0,0,0,0,([]:List Entry),0,0,([]:List Int),([]:List Int),([]:List Int),([]:List Mail),v)
 else
  ob (raft_own x) fun x4=>
  lt (raft_follow x4.1 x4.2.1 x4.2.2.1 x4.2.2.2.1 x4.2.2.2.2.2.1 x4.2.2.2.2.2.2.1 x4.2.2.2.2.1 x4.2.2.2.2.2.2.2.1 x4.2.2.2.2.2.2.2.2.1 x4.2.2.2.2.2.2.2.2.2) fun x5=>
  ob (raft_others x5.1 x5.2.1 (w64 (x.Term+1)) (w64 (x.ID+1)) 1 x5.2.2.2.2.2 ([x.ID]:List Int) x4.2.2.2.2.1) fun x6=>
  lt (raft_most 1 x5.1) fun x7=>
  ob (
   if x7=true then
    ob (raft_lead x5.1 x5.2.1 (w64 (x.Term+1)) (w64 (x.ID+1)) 1 x5.2.2.2.2.2 ([x.ID]:List Int) x4.2.2.2.2.1) fun x8=>
    some (x8.1,x8.2.1,x8.2.2.1,x8.2.2.2.1,x8.2.2.2.2.1,x8.2.2.2.2.2.1,([]:List Int),x8.2.2.2.2.2.2.1,x8.2.2.2.2.2.2.2)
   else
    some (x5.1,x5.2.1,(w64 (x.Term+1)),(w64 (x.ID+1)),1,x5.2.2.2.2.2,([x.ID]:List Int),([]:List Int),([]:List Int))) fun (v1:Int×Int×Int×Int×Int×Int×List Int×List Int×List Int)=>
  some (v1.1,v1.2.1,v1.2.2.1,v1.2.2.2.1,x4.2.2.2.2.1,v1.2.2.2.2.1,v1.2.2.2.2.2.1,v1.2.2.2.2.2.2.1,v1.2.2.2.2.2.2.2.1,v1.2.2.2.2.2.2.2.2,x6,v)
theorem raft_Stand_ok {x r} (hF:raft_Stand x=some r):Pe Try.prog 34 (.w []) [.agg (c_Node x)] (.tup [.agg [.i r.1,.i r.2.1,.i r.2.2.1,.i r.2.2.2.1,.row 30 0,.i r.2.2.2.2.2.1,.i r.2.2.2.2.2.2.1,.sl 1 (r.2.2.2.2.2.2.2.1.map e_i64),.row 63 0,.row 20063 0],.row 56 0,.agg (c_Fault r.2.2.2.2.2.2.2.2.2.2.2)]) ⟨[],[],[(30,.o 50 2 0 (r.2.2.2.2.1.map e_Entry)),(56,.z 91 9 0 (r.2.2.2.2.2.2.2.2.2.2.1.map e_Mail)),(63,.o 3 1 0 (r.2.2.2.2.2.2.2.2.1.map e_i64)),(20063,.o 3 1 0 (r.2.2.2.2.2.2.2.2.2.1.map e_i64))],[],[]⟩:=by
 refine PT 69 [.cell 2 48,.tmp 3,.cell 4 31] [48,27,31] Try.func34 ?_
 intro Q g hfin
 unfold raft_Stand at hF
 refine LR0 ?_
 obtain ⟨x1,h0,hF⟩:=oE hF
 refine RJ (.b (raft_Check_ok h0) .z) ?_
 refine Nblk ?_
 refine LR0 ?_
 obtain ⟨v,hv,hF⟩:=oE hF
 refine NmT (fun Z=>Z.up [1,2,4,5] [1,2,4,5] [] [] [] [(5,(c_Fault v))] [] []) ?_ ?_
 ·have hF:=hv
  refine Nif hF ?_ ?_ <;> intro hb hF
  ·cases hF
   exact met' []
  ·refine LR0 ?_
   refine Nif hF ?_ ?_ <;> intro hb hF
   ·obtain ⟨x2,h1,hF⟩:=lS hF
    refine RJ (.b (raft_fault_ok h1) .z) ?_
    cases hF
    exact met' []
   ·refine LR0 ?_
    refine Nif hF ?_ ?_ <;> intro hb hF
    ·obtain ⟨x3,h2,hF⟩:=lS hF
     refine RJ (.b (raft_fault_ok h2) .z) ?_
     cases hF
     exact met' []
    ·cases hF
     exact met' []
 ·refine LR0 ?_
  refine Nif hF ?_ ?_ <;> intro hb hF
  ·refine VD [] [2,3,4] [2,4] [] [] [(2,.ptr 2 0),(3,.nils),(4,.ptr 4 0)] [(2,[.i 0,.i 0,.i 0,.i 0,.nils,.i 0,.i 0,.nils,.nils,.nils]),(4,(c_Fault v))] [] [] .nil ?_
   cases hF
   refine Wk_nilrowB 2 4 60000 50 2 rfl rfl rfl rfl rfl ?_
   refine Wk_nilrowB 2 8 60001 3 1 rfl rfl rfl rfl rfl ?_
   refine Wk_nilrowB 2 9 60002 3 1 rfl rfl rfl rfl rfl ?_
   refine Wk_nilrow 3 60003 91 9 rfl rfl rfl ?_
   refine Wk_ren' ⟨[],[(60000,30),(60001,63),(60002,20063),(60003,56)],[],[]⟩ rfl ?_
   exact Wz [(30,⟨0,true,false,false⟩),(63,⟨0,true,false,false⟩),(20063,⟨0,true,false,false⟩)] hfin
  ·obtain ⟨x4,h3,hF⟩:=oE hF
   have p4:=(Pe.ren (raft_own_ok h3) ⟨[(1,30)],[(5,30),(8,20030),(11,40030),(14,60030)],[],[]⟩)
   refine RJ (.e [] [] p4 .z) ?_
   obtain ⟨x5,h5,hF⟩:=lS hF
   have p6:=(Pe.ren (raft_follow_ok 0 0 false 0 0 false 0 0 false 0 0 false h5) ⟨[(100000,30)],[(100000,30),(100001,20030),(100002,40030),(100003,60030)],[],[]⟩)
   refine RJ (.e [30] [30,20030,40030,60030] p6 .z) ?_
   refine DJ (.a (.sealed) .z) ?_
   obtain ⟨x6,h7,hF⟩:=oE hF
   have p8:=(Pe.ren (raft_others_ok 0 0 false h7) ⟨[(100000,30),(100001,6)],[(100000,30),(39,56)],[],[]⟩)
   refine RJ (.e [30,6] [30] p8 .z) ?_
   obtain ⟨x7,h9,hF⟩:=lS hF
   refine VR [.callB (.bool x7)] [2,4,5,6,7,61] [2,4,5,6,30] [30,56] [] [(2,.ptr 2 0),(4,.ptr 4 0),(5,.ptr 5 0),(6,.ptr 6 0),(7,.row 56 0),(61,.bool x7)] [(2,[.i 0,.i 0,.i 0,.i 0,.nils,.i 0,.i 0,.nils,.nils,.nils]),(4,[.i 0,.i 0]),(5,(c_Fault v)),(6,[.ptr 30 0]),(30,[.i x5.1,.i x5.2.1,.i (w64 (x.Term+1)),.i (w64 (x.ID+1)),.row 30 0,.i 1,.i x5.2.2.2.2.2,.sl 1 (([x.ID]:List Int).map e_i64),.nils,.nils])] [(30,.o 50 2 0 (x4.2.2.2.2.1.map e_Entry)),(56,.z 91 9 0 (x6.map e_Mail))] [] (hc (raft_most_ok h9) .nil) ?_
   obtain ⟨v1,hv,hF⟩:=oE hF
   refine NmT (fun Z=>Z.up [2,4,5,6,7] [2,4,5,6,30] [30,56,63,20063] [] [] [(30,[.i v1.1,.i v1.2.1,.i v1.2.2.1,.i v1.2.2.2.1,.row 30 0,.i v1.2.2.2.2.1,.i v1.2.2.2.2.2.1,.sl 1 (v1.2.2.2.2.2.2.1.map e_i64),.row 63 0,.row 20063 0])] [(63,.o 3 1 0 (v1.2.2.2.2.2.2.2.1.map e_i64)),(20063,.o 3 1 0 (v1.2.2.2.2.2.2.2.2.map e_i64))] []) ?_ ?_
   ·have hF:=hv
    refine Nif hF ?_ ?_ <;> intro hb hF
    ·obtain ⟨x8,h10,hF⟩:=oE hF
     have p11:=(Pe.ren (raft_lead_ok 0 0 false h10) ⟨[(100000,30)],[(100000,30),(18,63),(23,20063)],[],[]⟩)
     refine VR [cE [30] [30] [] [] p11] [2,4,5,6,7] [2,4,5,6,30] [30,56,63,20063] [] [(2,.ptr 2 0),(4,.ptr 4 0),(5,.ptr 5 0),(6,.ptr 6 0),(7,.row 56 0)] [(2,[.i 0,.i 0,.i 0,.i 0,.nils,.i 0,.i 0,.nils,.nils,.nils]),(4,[.i 0,.i 0]),(5,(c_Fault v)),(6,[.ptr 30 0]),(30,[.i x8.1,.i x8.2.1,.i x8.2.2.1,.i x8.2.2.2.1,.row 30 0,.i x8.2.2.2.2.1,.i x8.2.2.2.2.2.1,.nils,.row 63 0,.row 20063 0])] [(30,.o 50 2 0 (x4.2.2.2.2.1.map e_Entry)),(56,.z 91 9 0 (x6.map e_Mail)),(63,.o 3 1 0 (x8.2.2.2.2.2.2.1.map e_i64)),(20063,.o 3 1 0 (x8.2.2.2.2.2.2.2.map e_i64))] [] (hc p11 .nil) ?_
     refine Wk_coeB 30 [.i x8.1,.i x8.2.1,.i x8.2.2.1,.i x8.2.2.2.1,.row 30 0,.i x8.2.2.2.2.1,.i x8.2.2.2.2.2.1,.sl 1 (([]:List Int).map e_i64),.row 63 0,.row 20063 0] rfl (.cons (CoeS.refl _) (.cons (CoeS.refl _) (.cons (CoeS.refl _) (.cons (CoeS.refl _) (.cons (CoeS.refl _) (.cons (CoeS.refl _) (.cons (CoeS.refl _) (.cons (CoeS.nils 1) (.cons (CoeS.refl _) (.cons (CoeS.refl _) .nil)))))))))) ?_
     cases hF
     exact met' []
    ·refine Wk_nilrowB 30 8 60004 3 1 rfl rfl rfl rfl rfl ?_
     refine Wk_nilrowB 30 9 60005 3 1 rfl rfl rfl rfl rfl ?_
     refine Wk_trim (fs:=[2,4,5,6,7]) (bs:=[2,4,5,6,30]) (rs:=[30,56,60004,60005]) (ms:=[]) (aa:=[]) (nv:=[]) rfl ?_
     refine Wk_ren' ⟨[],[(60004,63),(60005,20063)],[],[]⟩ rfl ?_
     cases hF
     exact met' [(63,⟨0,true,false,false⟩),(20063,⟨0,true,false,false⟩)]
   ·refine LD0 ?_
    cases hF
    exact Wz [] hfin

/- raft.count -/
def raft_count_v1_J1 (box box1:Int) (box2 box3:Int) (box4 v:Int):Option (Int×Int×Int×Int×Int×Int):=
 some (box,box1,box2,box3,box4,v)
def raft_count_v1_J2 (box box2:Int) (row:List Entry) (v1:Int×Int) (v2:Int):Option ((Int×Int)⊕(Int×Int×Int×Int×Int×Int)):=
 lt (raft_most v2 box) fun x=>
 ob (if x=true then (entry_TermAt row v1.2) else some default) fun x1=>
 ob (
  if (x&&(decide (x1=box2)))=true then
   some v1.2
  else
   some v1.1) fun v3=>
 some (Sum.inl (v3,w64 (v1.2 - 1)))
def raft_count_v1_B2 (box box2:Int) (row:List Entry) (row3:List Int) (v1 v4:Int×Int):Option ((Int×Int)⊕((Int×Int)⊕(Int×Int×Int×Int×Int×Int))):=
 if (decide (v4.2<(row3.length:Int)))=true then
  asrt (0≤v4.2∧v4.2<(row3.length:Int)) <|
  asrt (0≤v4.2∧v4.2<(row3.length:Int)) <|
  ob (
   if (decide (v1.2≤(lget row3 v4.2)))=true then
    some (w64 (v4.1+1))
   else
    some v4.1) fun v5=>
  some (Sum.inl (v5,w64 (v4.2+1)))
 else
  inrO (raft_count_v1_J2 box box2 row v1 v4.1)
def raft_count_v1_L2 (box box2:Int) (row:List Entry) (row3:List Int) (v1 v0:Int×Int):Option ((Int×Int)⊕(Int×Int×Int×Int×Int×Int)):=
 loopO (fun y=>raft_count_v1_B2 box box2 row row3 v1 y) v0
def raft_count_v1_B1 (box box1:Int) (box2 box3 box4:Int) (row:List Entry) (row3:List Int) (v1:Int×Int):Option ((Int×Int)⊕(Int×Int×Int×Int×Int×Int)):=
 if (decide (v1.1<v1.2))=true then
  raft_count_v1_L2 box box2 row row3 v1 (0,0)
 else
  inrO (raft_count_v1_J1 box box1 box2 box3 box4 v1.1)
def raft_count_v1_L1 (box box1:Int) (box2 box3 box4:Int) (row:List Entry) (row3:List Int) (v0:Int×Int):Option (Int×Int×Int×Int×Int×Int):=
 loopO (fun y=>raft_count_v1_B1 box box1 box2 box3 box4 row row3 y) v0
def raft_count_v1 (box box1:Int) (box2 box3:Int) (box4 box5:Int) (row:List Entry) (row1 row2 row3:List Int):Option (Int×Int×Int×Int×Int×Int):=
 raft_count_v1_L1 box box1 box2 box3 box4 row row3 (box5,(row.length:Int))
theorem raft_count_v1_ok (rk rc:Nat) (rn:Bool) (rk1 rc1:Nat) (rn1:Bool) (rk2 rc2:Nat) (rn2:Bool) (rk3 rc3:Nat) (rn3:Bool) {box box1 box2 box3 box4 box5 row row1 row2 row3 r} (hF:raft_count_v1 box box1 box2 box3 box4 box5 row row1 row2 row3=some r):Pe Try.prog 63 ⟨[],[(100000,[.i box,.i box1,.i box2,.i box3,.row 100000 0,.i box4,.i box5,.row 100001 0,.row 100002 0,.row 100003 0])],[(100000,.q 50 2 0 rk rc rn (row.map e_Entry)),(100001,.q 3 1 0 rk1 rc1 rn1 (row1.map e_i64)),(100002,.q 3 1 0 rk2 rc2 rn2 (row2.map e_i64)),(100003,.q 3 1 0 rk3 rc3 rn3 (row3.map e_i64))],[],[]⟩ [.ptr 100000 0] (.tup []) ⟨[],[(100000,[.i r.1,.i r.2.1,.i r.2.2.1,.i r.2.2.2.1,.row 100000 0,.i r.2.2.2.2.1,.i r.2.2.2.2.2,.row 100001 0,.row 100002 0,.row 100003 0])],[(100000,.q 50 2 0 rk rc rn (row.map e_Entry)),(100001,.q 3 1 0 rk1 rc1 rn1 (row1.map e_i64)),(100002,.q 3 1 0 rk2 rc2 rn2 (row2.map e_i64)),(100003,.q 3 1 0 rk3 rc3 rn3 (row3.map e_i64))],[],[]⟩:=by
 refine PT 57 [] [] Try.func63 ?_
 intro Q g hfin
 unfold raft_count_v1 at hF
 refine RJ (.l e_Entry row .z) ?_
 refine NmS (fun v=>raft_count_v1_J1 box box1 box2 box3 box4 v=some r) (fun Z v=>Z.up [] [100000] [100000,100001,100002,100003] [] [] [(100000,[.i box,.i box1,.i box2,.i box3,.row 100000 0,.i box4,.i v,.row 100001 0,.row 100002 0,.row 100003 0])] [] []) ?_ ?_
 ·refine Nblk ?_
  unfold raft_count_v1_L1 at hF
  refine Nits hF [] (fun Z v1=>Z.up [0,2] [100000] [100000,100001,100002,100003] [] [(2,.i v1.2)] [(100000,[.i box,.i box1,.i box2,.i box3,.row 100000 0,.i box4,.i v1.1,.row 100001 0,.row 100002 0,.row 100003 0])] [] []) ?_
  intro n1 v1 y1 hF ih1 dn1
  unfold raft_count_v1_B1 at hF
  refine LR0 ?_
  refine Nif hF ?_ ?_ <;> intro hb hF
  ·refine Nblk ?_
   refine LR0 ?_
   refine RJ (.l e_i64 row3 .z) ?_
   refine NmS (fun v2=>raft_count_v1_J2 box box2 row v1 v2=some y1) (fun Z v2=>Z.up [0,2,3] [100000] [100000,100001,100002,100003] [] [(3,.i v2)] [] [] []) ?_ ?_
   ·refine Nblk ?_
    unfold raft_count_v1_L2 at hF
    refine Nits hF [] (fun Z v4=>Z.up [0,2,3,22,23,24] [100000] [100000,100001,100002,100003] [] [(3,.i v4.1),(24,.i v4.2)] [] [] []) ?_
    intro n2 v4 y2 hF ih2 dn2
    unfold raft_count_v1_B2 at hF
    refine LR0 ?_
    refine Nif hF ?_ ?_ <;> intro hb hF
    ·refine Nblk ?_
     obtain ⟨h2,h3,hF⟩:=asrt2 hF
     refine RJ (.x e_i64 h2 (.r e_i64 h3 .z)) ?_
     refine LR0 ?_
     obtain ⟨v5,hv,hF⟩:=oE hF
     refine NmT (fun Z=>Z.up [0,2,3,22,23,24] [100000] [100000,100001,100002,100003] [] [(3,.i v5)] [] [] []) ?_ ?_
     ·have hF:=hv
      refine Nif hF ?_ ?_ <;> intro hb hF
      ·refine LR0 ?_
       cases hF
       exact met' []
      ·cases hF
       exact met' []
     ·refine LR0 ?_
      exact Nrnq [] hF ih2
    ·refine Nexit rfl ?_
     have hF:=inrO_done hF dn2
     exact metQ v4.1 [] hF
   ·intro v2 hF
    unfold raft_count_v1_J2 at hF
    obtain ⟨x,h0,hF⟩:=lS hF
    obtain ⟨x1,h1,hF⟩:=oE hF
    refine DJ (.b (raft_most_ok h0) (.a (.callB (.i x1)) (.g (fun (ga0:x=true)=>(entry_TermAt_ok (ite_t h1 ga0))) .z))) ?_
    obtain ⟨v3,hv,hF⟩:=oE hF
    refine NmT (fun Z=>Z.up [0,2] [100000] [100000,100001,100002,100003] [] [] [(100000,[.i box,.i box1,.i box2,.i box3,.row 100000 0,.i box4,.i v3,.row 100001 0,.row 100002 0,.row 100003 0])] [] []) ?_ ?_
    ·have hF:=hv
     refine Nif hF ?_ ?_ <;> intro hb hF
     ·refine LR0 ?_
      cases hF
      exact met' []
     ·cases hF
      exact met' []
    ·refine LR0 ?_
     exact Nrnq [] hF ih1
  ·refine Nexit rfl ?_
   have hF:=inrO_done hF dn1
   exact metQ v1.1 [] hF
 ·intro v hF
  unfold raft_count_v1_J1 at hF
  cases hF
  exact Wk_end (hfin _ ⟨[100000,100001,100002,100003],[100000],[100000,100001,100002,100003],[],[],[],by kernel_rfl⟩)

/- raft.Propose -/
def raft_Propose (x:Node) (text:List UInt8):Option (Int×Int×Int×Int×List Entry×Int×Int×List Int×List Int×List Int×Fault):=
 ob (raft_Check x) fun x1=>
 ob (
  if (!decide (x1.Code=0))=true then
   some x1
  else
   if (!decide (x.Role=2))=true then
    lt (raft_fault 11 0) fun x2=>
    some x2
   else
    if (decide (200<(text.length:Int)))=true then
     lt (raft_fault 8 0) fun x3=>
     some x3
    else
     if (decide ((x.Log.length:Int)=100))=true then
      lt (raft_fault 2 0) fun x4=>
      some x4
     else
      some x1) fun v=>
 if (!decide (v.Code=0))=true then
  some (0,0,0,0,([]:List Entry),0,0,([]:List Int),([]:List Int),([]:List Int),v)
 else
  ob (raft_own x) fun x5=>
  asrt (((x5.2.2.2.2.1++[(⟨x.Term,text⟩:Entry)]).length:Int)*24≤140737488351232) <|
  asrt (0≤x5.2.1∧x5.2.1<(x5.2.2.2.2.2.2.2.2.2.length:Int)) <|
  asrt (0≤x5.2.1∧x5.2.1<(x5.2.2.2.2.2.2.2.2.2.length:Int)) <|
  lt ((lset x5.2.2.2.2.2.2.2.2.2 x5.2.1 ((x5.2.2.2.2.1++[(⟨x.Term,text⟩:Entry)]).length:Int))) fun v1=>
  asrt (0≤x5.2.1∧x5.2.1<(x5.2.2.2.2.2.2.2.2.1.length:Int)) <|
  asrt (0≤x5.2.1∧x5.2.1<(x5.2.2.2.2.2.2.2.2.1.length:Int)) <|
  lt ((lset x5.2.2.2.2.2.2.2.2.1 x5.2.1 (w64 (((x5.2.2.2.2.1++[(⟨x.Term,text⟩:Entry)]).length:Int)+1)))) fun v2=>
  ob (raft_count_v1 x5.1 x5.2.1 x5.2.2.1 x5.2.2.2.1 x5.2.2.2.2.2.1 x5.2.2.2.2.2.2.1 (x5.2.2.2.2.1++[(⟨x.Term,text⟩:Entry)]) x5.2.2.2.2.2.2.2.1 v2 v1) fun x6=>
  some (x6.1,x6.2.1,x6.2.2.1,x6.2.2.2.1,(x5.2.2.2.2.1++[(⟨x.Term,text⟩:Entry)]),x6.2.2.2.2.1,x6.2.2.2.2.2,x5.2.2.2.2.2.2.2.1,v2,v1,v)
theorem raft_Propose_ok {x text r} (hF:raft_Propose x text=some r):Pe Try.prog 36 (.w []) [.agg (c_Node x),.str text] (.tup [.agg [.i r.1,.i r.2.1,.i r.2.2.1,.i r.2.2.2.1,.row 36 0,.i r.2.2.2.2.2.1,.i r.2.2.2.2.2.2.1,.row 20036 0,.row 40036 0,.row 60036 0],.agg (c_Fault r.2.2.2.2.2.2.2.2.2.2)]) ⟨[],[],[(36,.o 50 2 0 (r.2.2.2.2.1.map e_Entry)),(20036,.o 3 1 0 (r.2.2.2.2.2.2.2.1.map e_i64)),(40036,.o 3 1 0 (r.2.2.2.2.2.2.2.2.1.map e_i64)),(60036,.o 3 1 0 (r.2.2.2.2.2.2.2.2.2.1.map e_i64))],[],[]⟩:=by
 refine PT 85 [.cell 4 48,.cell 5 31] [48,31] Try.func36 ?_
 intro Q g hfin
 unfold raft_Propose at hF
 refine LR0 ?_
 obtain ⟨x1,h0,hF⟩:=oE hF
 refine RJ (.b (raft_Check_ok h0) .z) ?_
 refine Nblk ?_
 refine LR0 ?_
 obtain ⟨v,hv,hF⟩:=oE hF
 refine NmT (fun Z=>Z.up [1,2,4,5,6] [2,4,5,6] [] [] [] [(6,(c_Fault v))] [] []) ?_ ?_
 ·have hF:=hv
  refine Nif hF ?_ ?_ <;> intro hb hF
  ·cases hF
   exact met' []
  ·refine LR0 ?_
   refine Nif hF ?_ ?_ <;> intro hb hF
   ·obtain ⟨x2,h1,hF⟩:=lS hF
    refine RJ (.b (raft_fault_ok h1) .z) ?_
    cases hF
    exact met' []
   ·refine LR0 ?_
    refine Nif hF ?_ ?_ <;> intro hb hF
    ·obtain ⟨x3,h2,hF⟩:=lS hF
     refine RJ (.b (raft_fault_ok h2) .z) ?_
     cases hF
     exact met' []
    ·refine RJ (.l e_Entry x.Log .z) ?_
     refine Nif hF ?_ ?_ <;> intro hb hF
     ·obtain ⟨x4,h3,hF⟩:=lS hF
      refine RJ (.b (raft_fault_ok h3) .z) ?_
      cases hF
      exact met' []
     ·cases hF
      exact met' []
 ·refine LR0 ?_
  refine Nif hF ?_ ?_ <;> intro hb hF
  ·refine VD [] [4,5] [4,5] [] [] [(4,.ptr 4 0),(5,.ptr 5 0)] [(4,[.i 0,.i 0,.i 0,.i 0,.nils,.i 0,.i 0,.nils,.nils,.nils]),(5,(c_Fault v))] [] [] .nil ?_
   cases hF
   refine Wk_nilrowB 4 4 60000 50 2 rfl rfl rfl rfl rfl ?_
   refine Wk_nilrowB 4 7 60001 3 1 rfl rfl rfl rfl rfl ?_
   refine Wk_nilrowB 4 8 60002 3 1 rfl rfl rfl rfl rfl ?_
   refine Wk_nilrowB 4 9 60003 3 1 rfl rfl rfl rfl rfl ?_
   refine Wk_ren' ⟨[],[(60000,36),(60001,20036),(60002,40036),(60003,60036)],[],[]⟩ rfl ?_
   exact Wz [(36,⟨0,true,false,false⟩),(20036,⟨0,true,false,false⟩),(40036,⟨0,true,false,false⟩),(60036,⟨0,true,false,false⟩)] hfin
  ·obtain ⟨x5,h4,hF⟩:=oE hF
   have p5:=(Pe.ren (raft_own_ok h4) ⟨[(1,36)],[(5,36),(8,20036),(11,40036),(14,60036)],[],[]⟩)
   refine RJ (.e [] [] p5 .z) ?_
   obtain ⟨h6,hF⟩:=aE hF
   refine DJ (.a (.sealed) (.p e_Entry h6 .z)) ?_
   obtain ⟨h7,h8,hF⟩:=asrt2 hF
   obtain ⟨v1,hv,hF⟩:=lS hF
   refine DJ (.l e_Entry (x5.2.2.2.2.1++[(⟨x.Term,text⟩:Entry)]) (.x e_i64 h7 (.wN e_i64 h8 hv .z))) ?_
   obtain ⟨h9,h10,hF⟩:=asrt2 hF
   obtain ⟨v2,hv,hF⟩:=lS hF
   refine DJ (.l e_Entry (x5.2.2.2.2.1++[(⟨x.Term,text⟩:Entry)]) (.x e_i64 h9 (.wN e_i64 h10 hv .z))) ?_
   obtain ⟨x6,h11,hF⟩:=oE hF
   have p12:=(Pe.ren (raft_count_v1_ok 0 0 false 0 0 false 0 0 false 0 0 false h11) ⟨[(100000,36)],[(100000,36),(100001,20036),(100002,40036),(100003,60036)],[],[(100000,1)]⟩)
   refine RJ (.e [36] [36,20036,40036,60036] p12 .z) ?_
   refine LD0 ?_
   cases hF
   exact Wz [(36,⟨0,true,true,false⟩)] hfin

/- raft.beats$1 -/
def raft_beats_1 (to0:Int) (box:Node):Option (Int×Int×Int×Int×Int×Int×Int×List Entry×Bool):=
 asrt (0≤to0∧to0<(box.Next.length:Int)) <|
 ob (entry_TermAt box.Log (w64 ((lget box.Next to0) - 1))) fun x=>
 asrt (0≤w64 ((lget box.Next to0) - 1)∧w64 ((lget box.Next to0) - 1)≤(min (w64 ((w64 ((lget box.Next to0) - 1))+5)) (box.Log.length:Int))∧(min (w64 ((w64 ((lget box.Next to0) - 1))+5)) (box.Log.length:Int))≤(box.Log.length:Int)) <|
 ob (slices_Clone_api_Entry_api_Entry (ldrop (ltake box.Log (min (w64 ((w64 ((lget box.Next to0) - 1))+5)) (box.Log.length:Int))) (w64 ((lget box.Next to0) - 1)))) fun x1=>
 some (3,0,0,0,w64 ((lget box.Next to0) - 1),x,box.Commit,x1,false)
theorem raft_beats_1_ok {to0 box r} (hF:raft_beats_1 to0 box=some r):Pe Try.prog 80 ⟨[],[(100000,[.ptr 100001 0]),(100001,(c_Node box))],[],[],[]⟩ [.i to0,.ptr 100000 0] (.agg [.i r.1,.i r.2.1,.i r.2.2.1,.i r.2.2.2.1,.i r.2.2.2.2.1,.i r.2.2.2.2.2.1,.i r.2.2.2.2.2.2.1,.row 38 0,.bool r.2.2.2.2.2.2.2.2]) ⟨[],[(100000,[.ptr 100001 0]),(100001,(c_Node box))],[(38,.o 50 2 0 (r.2.2.2.2.2.2.2.1.map e_Entry))],[],[]⟩:=by
 refine PT 40 [.cell 3 91] [91] Try.func80 ?_
 intro Q g hfin
 unfold raft_beats_1 at hF
 refine LR0 ?_
 obtain ⟨h0,hF⟩:=aE hF
 refine RJ (.i e_i64 h0 .z) ?_
 obtain ⟨x,h1,hF⟩:=oE hF
 obtain ⟨h2,hF⟩:=aE hF
 obtain ⟨x1,h3,hF⟩:=oE hF
 have p4:=(Pe.ren (slices_Clone_api_Entry_api_Entry_ok h3) ⟨[],[(5,38)],[],[]⟩)
 refine DJ (.b (entry_TermAt_ok h1) (.l e_Entry box.Log (.s11 e_Entry h2 (.e [] [] p4 .z)))) ?_
 cases hF
 exact Wz [] hfin

/- raft.others -/
def raft_others_v1_J1 (v:List Mail):Option (List Mail):=
 some v
def raft_others_v1_B1 (box:Node) (v1:List Mail×Int):Option ((List Mail×Int)⊕(List Mail)):=
 if (decide (v1.2<box.N))=true then
  ob (
   if (!decide (v1.2=box.ID))=true then
    ob (raft_beats_1 v1.2 box) fun x=>
    asrt (((v1.1++[(⟨x.1,box.ID,v1.2,box.Term,x.2.2.2.2.1,x.2.2.2.2.2.1,x.2.2.2.2.2.2.1,x.2.2.2.2.2.2.2.1,x.2.2.2.2.2.2.2.2⟩:Mail)]).length:Int)*88≤140737488351232) <|
    lt ((v1.1++[(⟨x.1,box.ID,v1.2,box.Term,x.2.2.2.2.1,x.2.2.2.2.2.1,x.2.2.2.2.2.2.1,x.2.2.2.2.2.2.2.1,x.2.2.2.2.2.2.2.2⟩:Mail)])) fun v3=>
    some v3
   else
    some v1.1) fun v2=>
  some (Sum.inl (v2,w64 (v1.2+1)))
 else
  inrO (raft_others_v1_J1 v1.1)
def raft_others_v1_L1 (box:Node) (v0:List Mail×Int):Option (List Mail):=
 loopO (fun y=>raft_others_v1_B1 box y) v0
def raft_others_v1 (box:Node):Option (List Mail):=
 raft_others_v1_L1 box (([]:List Mail),0)
theorem raft_others_v1_ok {box r} (hF:raft_others_v1 box=some r):Pe Try.prog 60 ⟨[],[(100000,(c_Node box)),(100001,[.ptr 100000 0])],[],[],[]⟩ [.ptr 100000 0,.fn 80 [.ptr 100001 0]] (.row 39 0) ⟨[],[(100000,(c_Node box)),(100001,[.ptr 100000 0])],[(39,.z 91 9 0 (r.map e_Mail))],[],[]⟩:=by
 refine PT 42 [.tmp 4] [27] Try.func60 ?_
 intro Q g hfin
 unfold raft_others_v1 at hF
 refine LR0 ?_
 refine LR0 ?_
 refine VR [] [0,1,5,11,12] [100000,100001] [] [] [(0,.ptr 100000 0),(1,.fn 80 [.ptr 100001 0]),(5,.nils),(11,.i box.N),(12,.i 0)] [(100000,(c_Node box)),(100001,[.ptr 100000 0])] [] [] .nil ?_
 refine NmS (fun v=>raft_others_v1_J1 v=some r) (fun Z v=>Z.up [5] [100000,100001] [39] [] [(5,.row 39 0)] [] [(39,.z 91 9 0 (v.map e_Mail))] []) ?_ ?_
 ·refine Nblk ?_
  unfold raft_others_v1_L1 at hF
  refine Wk_nilrow 5 60000 91 9 rfl rfl rfl ?_
  refine Wk_trim (fs:=[0,1,5,11,12]) (bs:=[100000,100001]) (rs:=[60000]) (ms:=[]) (aa:=[]) (nv:=[]) rfl ?_
  refine Wk_ren' ⟨[],[(60000,39)],[],[]⟩ rfl ?_
  refine Nitr hF [] (fun v1=>⟨[(0,.ptr 100000 0),(1,.fn 80 [.ptr 100001 0]),(5,.row 39 0),(11,.i box.N),(12,.i v1.2)],[(100000,(c_Node box)),(100001,[.ptr 100000 0])],[(39,.z 91 9 0 (v1.1.map e_Mail))],[],[]⟩) ?_
  intro n1 v1 y1 hF ih1 dn1
  unfold raft_others_v1_B1 at hF
  refine LR0 ?_
  refine Nif hF ?_ ?_ <;> intro hb hF
  ·refine Nblk ?_
   refine LR0 ?_
   refine LR0 ?_
   obtain ⟨v2,hv,hF⟩:=oE hF
   refine NmT (fun Z=>Z.up [0,1,5,11,12] [100000,100001] [39] [] [] [] [(39,.z 91 9 0 (v2.map e_Mail))] []) ?_ ?_
   ·have hF:=hv
    refine Nif hF ?_ ?_ <;> intro hb hF
    ·obtain ⟨x,h0,hF⟩:=oE hF
     have p1:=(Pe.ren (raft_beats_1_ok h0) ⟨[(100000,100001)],[(38,23)],[],[]⟩)
     refine RJ (.e [100001,100000] [] p1 .z) ?_
     refine LD0 ?_
     obtain ⟨h2,hF⟩:=aE hF
     obtain ⟨v3,hv,hF⟩:=lS hF
     refine RJ (.a (.sealed) (.pN e_Mail hv h2 .z)) ?_
     cases hF
     exact met' [(39,⟨0,true,true,false⟩)]
    ·cases hF
     exact met' []
   ·refine LR0 ?_
    exact Nrnq [] hF ih1
  ·refine Nexit rfl ?_
   have hF:=inrO_done hF dn1
   exact metQ v1.1 [] hF
 ·intro v hF
  unfold raft_others_v1_J1 at hF
  refine LR0 ?_
  cases hF
  exact Wz [] hfin

/- raft.beats -/
def raft_beats (box:Node):Option (List Mail):=
 ob (raft_others_v1 box) fun x=>
 some x
theorem raft_beats_ok {box r} (hF:raft_beats box=some r):Pe Try.prog 64 ⟨[],[(100000,(c_Node box))],[],[],[]⟩ [.ptr 100000 0] (.row 5 0) ⟨[],[(100000,(c_Node box))],[(5,.z 91 9 0 (r.map e_Mail))],[],[]⟩:=by
 refine PT 6 [.tmp 2] [27] Try.func64 ?_
 intro Q g hfin
 unfold raft_beats at hF
 refine LR0 ?_
 obtain ⟨x,h0,hF⟩:=oE hF
 have p1:=(Pe.ren (raft_others_v1_ok h0) ⟨[(100001,1)],[(39,5)],[],[]⟩)
 refine RJ (.e [100000,1] [] p1 .z) ?_
 cases hF
 exact Wz [] hfin

/- raft.Beat -/
def raft_Beat (x:Node):Option (List Mail×Fault):=
 ob (raft_Check x) fun x1=>
 ob (
  if ((decide (x1.Code=0))&&(!decide (x.Role=2)))=true then
   lt (raft_fault 11 0) fun x2=>
   some x2
  else
   some x1) fun v=>
 if (!decide (v.Code=0))=true then
  some (([]:List Mail),v)
 else
  ob (raft_beats x) fun x3=>
  some (x3,v)
theorem raft_Beat_ok {x r} (hF:raft_Beat x=some r):Pe Try.prog 38 (.w []) [.agg (c_Node x)] (.tup [.row 20 0,.agg (c_Fault r.2)]) ⟨[],[],[(20,.z 91 9 0 (r.1.map e_Mail))],[],[]⟩:=by
 refine PT 22 [.tmp 2,.cell 3 31] [27,31] Try.func38 ?_
 intro Q g hfin
 unfold raft_Beat at hF
 refine LR0 ?_
 obtain ⟨x1,h0,hF⟩:=oE hF
 refine RJ (.b (raft_Check_ok h0) .z) ?_
 refine LR0 ?_
 obtain ⟨v,hv,hF⟩:=oE hF
 refine NmT (fun Z=>Z.up [1,3,4] [1,3,4] [] [] [] [(4,(c_Fault v))] [] []) ?_ ?_
 ·have hF:=hv
  refine Nif hF ?_ ?_ <;> intro hb hF
  ·obtain ⟨x2,h1,hF⟩:=lS hF
   refine RJ (.b (raft_fault_ok h1) .z) ?_
   cases hF
   exact met' []
  ·cases hF
   exact met' []
 ·refine LR0 ?_
  refine Nif hF ?_ ?_ <;> intro hb hF
  ·refine VD [] [2,3] [3] [] [] [(2,.nils),(3,.ptr 3 0)] [(3,(c_Fault v))] [] [] .nil ?_
   cases hF
   refine Wk_nilrow 2 60000 91 9 rfl rfl rfl ?_
   refine Wk_ren' ⟨[],[(60000,20)],[],[]⟩ rfl ?_
   exact Wz [] hfin
  ·obtain ⟨x3,h2,hF⟩:=oE hF
   have p3:=(Pe.ren (raft_beats_ok h2) ⟨[(100000,1)],[(5,20)],[],[]⟩)
   refine DJ (.e [1] [] p3 .z) ?_
   cases hF
   exact Wz [] hfin

/- (*clan.game).does$2 -/
def clan_game_does_2 (x:Node):Option (Node×List Mail×Fault):=
 ob (raft_Beat x) fun x1=>
 some (x,x1.1,x1.2)
theorem clan_game_does_2_ok {x r} (hF:clan_game_does_2 x=some r):Pe Try.prog 37 (.w []) [.agg (c_Node x)] (.tup [.agg (c_Node r.1),.row 9 0,.agg (c_Fault r.2.2)]) ⟨[],[],[(9,.z 91 9 0 (r.2.1.map e_Mail))],[],[]⟩:=by
 refine PT 15 [.cell 2 48,.tmp 3,.cell 4 31] [48,27,31] Try.func37 ?_
 intro Q g hfin
 unfold clan_game_does_2 at hF
 refine LR0 ?_
 obtain ⟨x1,h0,hF⟩:=oE hF
 have p1:=(Pe.ren (raft_Beat_ok h0) ⟨[],[(20,9)],[],[]⟩)
 refine RJ (.e [] [] p1 .z) ?_
 refine LD0 ?_
 cases hF
 exact Wz [] hfin

/- raft.fine -/
def raft_fine (m:Mail) (box:Node):Option Bool:=
 lt (raft_within m.Kind 1 4) fun x=>
 lt (raft_within m.From 0 (w64 (box.N - 1))) fun x1=>
 lt (raft_within m.Term 1 1000000000) fun x2=>
 lt (raft_within m.A 0 1000000000) fun x3=>
 lt (raft_within m.B 0 1000000000) fun x4=>
 lt (raft_within m.C0 0 1000000000) fun x5=>
 ob (if (((((((((x&&(decide (m.To=box.ID)))&&(!decide (m.From=box.ID)))&&x1)&&x2)&&x3)&&x4)&&x5)&&(decide ((m.Entries.length:Int)≤5)))&&((decide ((m.Entries.length:Int)=0))||(decide (m.Kind=3))))=true then (entry_Check m.Entries) else some default) fun x6=>
 ob (if ((((((((((x&&(decide (m.To=box.ID)))&&(!decide (m.From=box.ID)))&&x1)&&x2)&&x3)&&x4)&&x5)&&(decide ((m.Entries.length:Int)≤5)))&&((decide ((m.Entries.length:Int)=0))||(decide (m.Kind=3))))&&(decide (x6.Code=0)))=true then (entry_TermAt m.Entries (m.Entries.length:Int)) else some default) fun x7=>
 lt (((((((((((x&&(decide (m.To=box.ID)))&&(!decide (m.From=box.ID)))&&x1)&&x2)&&x3)&&x4)&&x5)&&(decide ((m.Entries.length:Int)≤5)))&&((decide ((m.Entries.length:Int)=0))||(decide (m.Kind=3))))&&(decide (x6.Code=0)))&&(decide (x7≤m.Term))) fun v=>
 some v
theorem raft_fine_ok {m box r} (hF:raft_fine m box=some r):Pe Try.prog 65 ⟨[],[(100000,(c_Node box))],[],[],[]⟩ [.ptr 100000 0,.agg (c_Mail m)] (.bool r) ⟨[],[(100000,(c_Node box))],[],[],[]⟩:=by
 refine PT 89 [.tmp 4] [4] Try.func65 ?_
 intro Q g hfin
 unfold raft_fine at hF
 refine LR0 ?_
 refine RJ (.l e_Entry m.Entries .z) ?_
 obtain ⟨x,h0,hF⟩:=lS hF
 obtain ⟨x1,h1,hF⟩:=lS hF
 obtain ⟨x2,h2,hF⟩:=lS hF
 obtain ⟨x3,h3,hF⟩:=lS hF
 obtain ⟨x4,h4,hF⟩:=lS hF
 obtain ⟨x5,h5,hF⟩:=lS hF
 obtain ⟨x6,h6,hF⟩:=oE hF
 obtain ⟨x7,h7,hF⟩:=oE hF
 refine NDL (((((((((((x&&(decide (m.To=box.ID)))&&(!decide (m.From=box.ID)))&&x1)&&x2)&&x3)&&x4)&&x5)&&(decide ((m.Entries.length:Int)≤5)))&&((decide ((m.Entries.length:Int)=0))||(decide (m.Kind=3))))&&(decide (x6.Code=0)))&&(decide (x7≤m.Term))) (fun v:Bool=>([(4,.bool v)],[],[],[])) [.callB (.bool x),.callB (.bool x1),.callB (.bool x2),.callB (.bool x3),.callB (.bool x4),.callB (.bool x5),.callB (.agg (c_Fault x6)),.callB (.i x7)] [4] [100000] [] [] (hc (raft_within_ok h0) (hc (fun (ga0:((x&&(decide (m.To=box.ID)))&&(!decide (m.From=box.ID)))=true)=>(raft_within_ok h1)) (hc (fun (ga0:(((x&&(decide (m.To=box.ID)))&&(!decide (m.From=box.ID)))&&x1)=true)=>(raft_within_ok h2)) (hc (fun (ga0:((((x&&(decide (m.To=box.ID)))&&(!decide (m.From=box.ID)))&&x1)&&x2)=true)=>(raft_within_ok h3)) (hc (fun (ga0:(((((x&&(decide (m.To=box.ID)))&&(!decide (m.From=box.ID)))&&x1)&&x2)&&x3)=true)=>(raft_within_ok h4)) (hc (fun (ga0:((((((x&&(decide (m.To=box.ID)))&&(!decide (m.From=box.ID)))&&x1)&&x2)&&x3)&&x4)=true)=>(raft_within_ok h5)) (hc (fun (ga0:(((((((((x&&(decide (m.To=box.ID)))&&(!decide (m.From=box.ID)))&&x1)&&x2)&&x3)&&x4)&&x5)&&(decide ((m.Entries.length:Int)≤5)))&&((decide ((m.Entries.length:Int)=0))||(decide (m.Kind=3))))=true)=>(entry_Check_ok (ite_t h6 ga0))) (hc (fun (ga0:((((((((((x&&(decide (m.To=box.ID)))&&(!decide (m.From=box.ID)))&&x1)&&x2)&&x3)&&x4)&&x5)&&(decide ((m.Entries.length:Int)≤5)))&&((decide ((m.Entries.length:Int)=0))||(decide (m.Kind=3))))&&(decide (x6.Code=0)))=true)=>(entry_TermAt_ok (ite_t h7 ga0))) .nil)))))))) (fun v hv=>?_)
 have hF:=lt_elim hF hv
 cases hF
 exact Wz [] hfin

/- raft.answer -/
def raft_answer (m:Mail) (kind:Int) (ok:Bool) (a0 box:Int) (box1 box2:Int) (box3 box4 box5:Int) (row:List Entry) (row1 row2 row3:List Int):List Mail:=
 [(⟨kind,box1,m.From,box2,a0,0,0,([]:List Entry),ok⟩:Mail)]
theorem raft_answer_ok (rk rc:Nat) (rn:Bool) (rk1 rc1:Nat) (rn1:Bool) (rk2 rc2:Nat) (rn2:Bool) (rk3 rc3:Nat) (rn3:Bool) {m kind ok a0 box box1 box2 box3 box4 box5 row row1 row2 row3 r} (hF:raft_answer m kind ok a0 box box1 box2 box3 box4 box5 row row1 row2 row3=r):Pe Try.prog 81 ⟨[],[(100000,[.i box,.i box1,.i box2,.i box3,.row 100000 0,.i box4,.i box5,.row 100001 0,.row 100002 0,.row 100003 0])],[(100000,.q 50 2 0 rk rc rn (row.map e_Entry)),(100001,.q 3 1 0 rk1 rc1 rn1 (row1.map e_i64)),(100002,.q 3 1 0 rk2 rc2 rn2 (row2.map e_i64)),(100003,.q 3 1 0 rk3 rc3 rn3 (row3.map e_i64))],[],[]⟩ [.ptr 100000 0,.agg (c_Mail m),.i kind,.bool ok,.i a0] (.sl 9 (r.map e_Mail)) ⟨[],[(100000,[.i box,.i box1,.i box2,.i box3,.row 100000 0,.i box4,.i box5,.row 100001 0,.row 100002 0,.row 100003 0])],[(100000,.q 50 2 0 rk rc rn (row.map e_Entry)),(100001,.q 3 1 0 rk1 rc1 rn1 (row1.map e_i64)),(100002,.q 3 1 0 rk2 rc2 rn2 (row2.map e_i64)),(100003,.q 3 1 0 rk3 rc3 rn3 (row3.map e_i64))],[],[]⟩:=by
 refine PT 26 [.tmp 10] [27] Try.func81 ?_
 intro Q g hfin
 unfold raft_answer at hF
 refine LR0 ?_
 refine DJ (.a (.sealed) .z) ?_
 cases hF
 exact Wz [] hfin

/- raft.asked -/
def raft_asked (m:Mail) (box box1:Int) (box2 box3:Int) (box4 box5:Int) (row:List Entry) (row1 row2 row3:List Int):Option (List Mail×Int×Int×Int×Int×Int×Int):=
 ob (entry_TermAt row (row.length:Int)) fun x=>
 lt ((decide (m.B<x))||((decide (m.B=x))&&(decide (m.A<(row.length:Int))))) fun v=>
 lt (((decide (m.Term=box2))&&((decide (box3=0))||(decide (box3=(w64 (m.From+1))))))&&(!v)) fun v1=>
 ob (
  if v1=true then
   some (w64 (m.From+1))
  else
   some box3) fun v2=>
 lt (raft_answer m 2 v1 0 box box1 box2 v2 box4 box5 row row1 row2 row3) fun x1=>
 some (x1,box,box1,box2,v2,box4,box5)
theorem raft_asked_ok (rk rc:Nat) (rn:Bool) (rk1 rc1:Nat) (rn1:Bool) (rk2 rc2:Nat) (rn2:Bool) (rk3 rc3:Nat) (rn3:Bool) {m box box1 box2 box3 box4 box5 row row1 row2 row3 r} (hF:raft_asked m box box1 box2 box3 box4 box5 row row1 row2 row3=some r):Pe Try.prog 66 ⟨[],[(100000,[.i box,.i box1,.i box2,.i box3,.row 100000 0,.i box4,.i box5,.row 100001 0,.row 100002 0,.row 100003 0])],[(100000,.q 50 2 0 rk rc rn (row.map e_Entry)),(100001,.q 3 1 0 rk1 rc1 rn1 (row1.map e_i64)),(100002,.q 3 1 0 rk2 rc2 rn2 (row2.map e_i64)),(100003,.q 3 1 0 rk3 rc3 rn3 (row3.map e_i64))],[],[]⟩ [.ptr 100000 0,.agg (c_Mail m)] (.sl 9 (r.1.map e_Mail)) ⟨[],[(100000,[.i r.2.1,.i r.2.2.1,.i r.2.2.2.1,.i r.2.2.2.2.1,.row 100000 0,.i r.2.2.2.2.2.1,.i r.2.2.2.2.2.2,.row 100001 0,.row 100002 0,.row 100003 0])],[(100000,.q 50 2 0 rk rc rn (row.map e_Entry)),(100001,.q 3 1 0 rk1 rc1 rn1 (row1.map e_i64)),(100002,.q 3 1 0 rk2 rc2 rn2 (row2.map e_i64)),(100003,.q 3 1 0 rk3 rc3 rn3 (row3.map e_i64))],[],[]⟩:=by
 refine PT 77 [.tmp 4] [27] Try.func66 ?_
 intro Q g hfin
 unfold raft_asked at hF
 refine LR0 ?_
 obtain ⟨x,h0,hF⟩:=oE hF
 refine DJ (.l e_Entry row (.b (entry_TermAt_ok h0) .z)) ?_
 refine NDL ((decide (m.B<x))||((decide (m.B=x))&&(decide (m.A<(row.length:Int))))) (fun v:Bool=>([(6,.bool v)],[],[],[])) [.nat (row.length:Int)] [0,3,6] [3,100000] [100000,100001,100002,100003] [] (hc (fun (_:(decide (m.B=x))=true) (_:(!(decide (m.B<x)))=true)=>(len_ok e_Entry row)) .nil) (fun v hv=>?_)
 have hF:=lt_elim hF hv
 refine NDL (((decide (m.Term=box2))&&((decide (box3=0))||(decide (box3=(w64 (m.From+1))))))&&(!v)) (fun v1:Bool=>([(7,.bool v1)],[],[],[])) [] [0,3,7] [3,100000] [100000,100001,100002,100003] [] .nil (fun v1 hv=>?_)
 have hF:=lt_elim hF hv
 refine LR0 ?_
 obtain ⟨v2,hv,hF⟩:=oE hF
 refine NmT (fun Z=>Z.up [0,3,7] [3,100000] [100000,100001,100002,100003] [] [] [(100000,[.i box,.i box1,.i box2,.i v2,.row 100000 0,.i box4,.i box5,.row 100001 0,.row 100002 0,.row 100003 0])] [] []) ?_ ?_
 ·have hF:=hv
  refine Nif hF ?_ ?_ <;> intro hb hF
  ·refine LR0 ?_
   cases hF
   exact met' []
  ·cases hF
   exact met' []
 ·obtain ⟨x1,h1,hF⟩:=lS hF
  refine RJ (.q [100000] [100000,100001,100002,100003] (Pe.ren (raft_answer_ok rk rc rn rk1 rc1 rn1 rk2 rc2 rn2 rk3 rc3 rn3 h1) ⟨[],[],[],[]⟩) .z) ?_
  cases hF
  exact Wz [] hfin

/- slices.Index[[]int,int] -/
def slices_Index_int_int_J1 (v1:Unit):Option Int:=
 some (-1)
def slices_Index_int_int_B1 (s0:List Int) (v v2:Int):Option (Int⊕Int):=
 if (decide (v2<(s0.length:Int)))=true then
  asrt (0≤v2∧v2<(s0.length:Int)) <|
  if (decide (v=(lget s0 v2)))=true then
   some (Sum.inr v2)
  else
   some (Sum.inl (w64 (v2+1)))
 else
  inrO (slices_Index_int_int_J1 ())
def slices_Index_int_int_L1 (s0:List Int) (v v0:Int):Option Int:=
 loopO (fun y=>slices_Index_int_int_B1 s0 v y) v0
def slices_Index_int_int (s0:List Int) (v:Int):Option Int:=
 slices_Index_int_int_L1 s0 v 0
theorem slices_Index_int_int_ok {s0 v r} (hF:slices_Index_int_int s0 v=some r):Pe Try.prog 88 S.none [.sl 1 (s0.map e_i64),.i v] (.i r) S.none:=by
 refine PT 19 [.tmp 4] [3] Try.func88 ?_
 intro Q g hfin
 unfold slices_Index_int_int at hF
 refine LR0 ?_
 refine RJ (.l e_i64 s0 .z) ?_
 refine NmQ (fun v1=>slices_Index_int_int_J1 v1=some r) (fun v1=>(.w [])) ?_ ?_
 ·refine Nblk ?_
  unfold slices_Index_int_int_L1 at hF
  refine Nits hF [] (fun Z v2=>Z.up [0,1,7,8] [] [] [] [(8,.i v2)] [] [] []) ?_
  intro n1 v2 y1 hF ih1 dn1
  unfold slices_Index_int_int_B1 at hF
  refine LR0 ?_
  refine Nif hF ?_ ?_ <;> intro hb hF
  ·refine Nblk ?_
   refine LR0 ?_
   obtain ⟨h0,hF⟩:=aE hF
   refine RJ (.i e_i64 h0 .z) ?_
   refine Nif hF ?_ ?_ <;> intro hb hF
   ·refine LR0 ?_
    have hF:=ret_done hF dn1
    cases hF
    exact Wz [] hfin
   ·refine LR0 ?_
    exact Nrnq [] hF ih1
  ·refine Nexit rfl ?_
   have hF:=inrO_done hF dn1
   exact metQ () [] hF
 ·intro v1 hF
  unfold slices_Index_int_int_J1 at hF
  refine LR0 ?_
  cases hF
  exact Wz [] hfin

/- slices.Contains[[]int,int] -/
def slices_Contains_int_int (s0:List Int) (v:Int):Option Bool:=
 ob (slices_Index_int_int s0 v) fun x=>
 some (decide (0≤x))
theorem slices_Contains_int_int_ok {s0 v r} (hF:slices_Contains_int_int s0 v=some r):Pe Try.prog 82 S.none [.sl 1 (s0.map e_i64),.i v] (.bool r) S.none:=by
 refine PT 9 [.tmp 4] [4] Try.func82 ?_
 intro Q g hfin
 unfold slices_Contains_int_int at hF
 refine LR0 ?_
 obtain ⟨x,h0,hF⟩:=oE hF
 refine RJ (.b (slices_Index_int_int_ok h0) .z) ?_
 cases hF
 exact Wz [] hfin

/- raft.lead -/
def raft_lead_v1_J1 (row:List Entry) (x:Int×Int×Int×Int×Int×Int) (v:List Int):Option (Int×Int×Int×Int×Int×Int×List Int×List Int):=
 asrt (0≤x.2.1∧x.2.1<((List.replicate x.1.toNat (0:Int)).length:Int)) <|
 asrt (0≤x.2.1∧x.2.1<((List.replicate x.1.toNat (0:Int)).length:Int)) <|
 ob (raft_count x.1 x.2.1 x.2.2.1 x.2.2.2.1 2 x.2.2.2.2.2 row v (lset (List.replicate x.1.toNat (0:Int)) x.2.1 (row.length:Int))) fun x1=>
 some (x1.1,x1.2.1,x1.2.2.1,x1.2.2.2.1,x1.2.2.2.2.1,x1.2.2.2.2.2,v,(lset (List.replicate x.1.toNat (0:Int)) x.2.1 (row.length:Int)))
def raft_lead_v1_B1 (row:List Entry) (x:Int×Int×Int×Int×Int×Int) (v1:List Int×Int):Option ((List Int×Int)⊕(Int×Int×Int×Int×Int×Int×List Int×List Int)):=
 if (decide (v1.2<((List.replicate x.1.toNat (0:Int)).length:Int)))=true then
  asrt (0≤v1.2∧v1.2<(v1.1.length:Int)) <|
  asrt (0≤v1.2∧v1.2<(v1.1.length:Int)) <|
  some (Sum.inl ((lset v1.1 v1.2 (w64 ((row.length:Int)+1))),w64 (v1.2+1)))
 else
  inrO (raft_lead_v1_J1 row x v1.1)
def raft_lead_v1_L1 (row:List Entry) (x:Int×Int×Int×Int×Int×Int) (v0:List Int×Int):Option (Int×Int×Int×Int×Int×Int×List Int×List Int):=
 loopO (fun y=>raft_lead_v1_B1 row x y) v0
def raft_lead_v1 (box box1:Int) (box2 box3:Int) (box4 box5:Int) (row:List Entry) (row1 row2 row3:List Int):Option (Int×Int×Int×Int×Int×Int×List Int×List Int):=
 lt (raft_follow box box1 box2 box3 box4 box5 row row1 row2 row3) fun x=>
 asrt (0≤(x.1:Int)∧x.1≤x.1∧x.1*8≤140737488351232) <|
 asrt (0≤(x.1:Int)∧x.1≤x.1∧x.1*8≤140737488351232) <|
 raft_lead_v1_L1 row x ((List.replicate x.1.toNat (0:Int)),0)
theorem raft_lead_v1_ok (rk rc:Nat) (rn:Bool) (rk1 rc1:Nat) (rn1:Bool) (rk2 rc2:Nat) (rn2:Bool) (rk3 rc3:Nat) (rn3:Bool) {box box1 box2 box3 box4 box5 row row1 row2 row3 r} (hF:raft_lead_v1 box box1 box2 box3 box4 box5 row row1 row2 row3=some r):Pe Try.prog 62 ⟨[],[(100000,[.i box,.i box1,.i box2,.i box3,.row 100000 0,.i box4,.i box5,.row 100001 0,.row 100002 0,.row 100003 0])],[(100000,.q 50 2 0 rk rc rn (row.map e_Entry)),(100001,.q 3 1 0 rk1 rc1 rn1 (row1.map e_i64)),(100002,.q 3 1 0 rk2 rc2 rn2 (row2.map e_i64)),(100003,.q 3 1 0 rk3 rc3 rn3 (row3.map e_i64))],[],[]⟩ [.ptr 100000 0] (.tup []) ⟨[],[(100000,[.i r.1,.i r.2.1,.i r.2.2.1,.i r.2.2.2.1,.row 100000 0,.i r.2.2.2.2.1,.i r.2.2.2.2.2.1,.nils,.row 18 0,.row 23 0])],[(100000,.q 50 2 0 rk rc rn (row.map e_Entry)),(100001,.q 3 1 0 rk1 rc1 rn1 (row1.map e_i64)),(100002,.q 3 1 0 rk2 rc2 rn2 (row2.map e_i64)),(100003,.q 3 1 0 rk3 rc3 rn3 (row3.map e_i64)),(18,.o 3 1 0 (r.2.2.2.2.2.2.1.map e_i64)),(23,.o 3 1 0 (r.2.2.2.2.2.2.2.map e_i64))],[],[]⟩:=by
 refine PT 59 [] [] Try.func62 ?_
 intro Q g hfin
 unfold raft_lead_v1 at hF
 refine RJ (.l e_Entry row .z) ?_
 obtain ⟨x,h0,hF⟩:=lS hF
 have p1:=(Pe.ren (raft_follow_ok rk rc rn rk1 rc1 rn1 rk2 rc2 rn2 rk3 rc3 rn3 h0) ⟨[],[],[],[]⟩)
 refine RJ (.e [100000] [100000,100001,100002,100003] p1 .z) ?_
 obtain ⟨h2,h3,hF⟩:=asrt2 hF
 refine DJ (.a (.xs ((List.replicate x.1.toNat (0:Int)).map e_i64)) (.g (mk_ok h2) (.g (rep_ok e_i64 (x.1) (0:Int)) (.a (.xs ((List.replicate x.1.toNat (0:Int)).map e_i64)) (.g (mk_ok h3) (.g (rep_ok e_i64 (x.1) (0:Int)) .z)))))) ?_
 refine RJ (.l e_i64 (List.replicate x.1.toNat (0:Int)) .z) ?_
 refine NmS (fun v=>raft_lead_v1_J1 row x v=some r) (fun Z v=>Z.up [0,2] [100000] [18,23,100000,100001,100002,100003] [] [] [] [(18,.o 3 1 0 (v.map e_i64))] []) ?_ ?_
 ·refine Nblk ?_
  unfold raft_lead_v1_L1 at hF
  refine Nits hF [] (fun Z v1=>Z.up [0,2,34,35] [100000] [18,23,100000,100001,100002,100003] [] [(35,.i v1.2)] [] [(18,.o 3 1 0 (v1.1.map e_i64))] []) ?_
  intro n1 v1 y1 hF ih1 dn1
  unfold raft_lead_v1_B1 at hF
  refine LR0 ?_
  refine Nif hF ?_ ?_ <;> intro hb hF
  ·refine Nblk ?_
   refine LR0 ?_
   obtain ⟨h8,h9,hF⟩:=asrt2 hF
   refine RJ (.x e_i64 h8 (.w e_i64 h9 (w64 ((row.length:Int)+1)) .z)) ?_
   refine LR0 ?_
   exact Nrnq [] hF ih1
  ·refine Nexit rfl ?_
   have hF:=inrO_done hF dn1
   exact metQ v1.1 [] hF
 ·intro v hF
  unfold raft_lead_v1_J1 at hF
  obtain ⟨h4,h5,hF⟩:=asrt2 hF
  refine DJ (.x e_i64 h4 (.w e_i64 h5 (row.length:Int) .z)) ?_
  obtain ⟨x1,h6,hF⟩:=oE hF
  have p7:=(Pe.ren (raft_count_ok rk rc rn 0 0 false 0 0 false h6) ⟨[],[(100001,18),(100002,23)],[],[]⟩)
  refine RJ (.e [100000] [100000,18,23] p7 .z) ?_
  cases hF
  exact Wk_end (hfin _ ⟨[100000,100001,100002,100003,18,23],[100000],[100000,100001,100002,100003,18,23],[],[],[],by kernel_rfl⟩)

/- raft.beats$1 -/
def raft_beats_1_v2 (to0 box:Int) (box1 box2 box3:Int) (box4:List Entry) (box5 box6:Int) (row row1:List Int):Option (Int×Int×Int×Int×Int×Int×Int×List Entry×Bool):=
 asrt (0≤to0∧to0<(row.length:Int)) <|
 asrt (0≤to0∧to0<(row.length:Int)) <|
 ob (entry_TermAt box4 (w64 ((lget row to0) - 1))) fun x=>
 asrt (0≤w64 ((lget row to0) - 1)∧w64 ((lget row to0) - 1)≤(min (w64 ((w64 ((lget row to0) - 1))+5)) (box4.length:Int))∧(min (w64 ((w64 ((lget row to0) - 1))+5)) (box4.length:Int))≤(box4.length:Int)) <|
 ob (slices_Clone_api_Entry_api_Entry (ldrop (ltake box4 (min (w64 ((w64 ((lget row to0) - 1))+5)) (box4.length:Int))) (w64 ((lget row to0) - 1)))) fun x1=>
 some (3,0,0,0,w64 ((lget row to0) - 1),x,box6,x1,false)
theorem raft_beats_1_v2_ok (rk rc:Nat) (rn:Bool) (rk1 rc1:Nat) (rn1:Bool) {to0 box box1 box2 box3 box4 box5 box6 row row1 r} (hF:raft_beats_1_v2 to0 box box1 box2 box3 box4 box5 box6 row row1=some r):Pe Try.prog 80 ⟨[],[(100000,[.ptr 100001 0]),(100001,[.i box,.i box1,.i box2,.i box3,.sl 2 (box4.map e_Entry),.i box5,.i box6,.nils,.row 100000 0,.row 100001 0])],[(100000,.q 3 1 0 rk rc rn (row.map e_i64)),(100001,.q 3 1 0 rk1 rc1 rn1 (row1.map e_i64))],[],[]⟩ [.i to0,.ptr 100000 0] (.agg [.i r.1,.i r.2.1,.i r.2.2.1,.i r.2.2.2.1,.i r.2.2.2.2.1,.i r.2.2.2.2.2.1,.i r.2.2.2.2.2.2.1,.row 38 0,.bool r.2.2.2.2.2.2.2.2]) ⟨[],[(100000,[.ptr 100001 0]),(100001,[.i box,.i box1,.i box2,.i box3,.sl 2 (box4.map e_Entry),.i box5,.i box6,.nils,.row 100000 0,.row 100001 0])],[(100000,.q 3 1 0 rk rc rn (row.map e_i64)),(100001,.q 3 1 0 rk1 rc1 rn1 (row1.map e_i64)),(38,.o 50 2 0 (r.2.2.2.2.2.2.2.1.map e_Entry))],[],[]⟩:=by
 refine PT 40 [.cell 3 91] [91] Try.func80 ?_
 intro Q g hfin
 unfold raft_beats_1_v2 at hF
 refine LR0 ?_
 obtain ⟨h0,h1,hF⟩:=asrt2 hF
 refine RJ (.x e_i64 h0 (.r e_i64 h1 .z)) ?_
 obtain ⟨x,h2,hF⟩:=oE hF
 obtain ⟨h3,hF⟩:=aE hF
 obtain ⟨x1,h4,hF⟩:=oE hF
 have p5:=(Pe.ren (slices_Clone_api_Entry_api_Entry_ok h4) ⟨[],[(5,38)],[],[]⟩)
 refine DJ (.b (entry_TermAt_ok h2) (.l e_Entry box4 (.s11 e_Entry h3 (.e [] [] p5 .z)))) ?_
 cases hF
 exact Wz [] hfin

/- raft.others -/
def raft_others_v2_J1 (v:List Mail×Int×Int×Int×Int×List Entry×Int×Int×List Entry):Option (List Mail×Int×Int×Int×Int×List Entry×Int×Int×List Entry):=
 some (v.1,v.2.1,v.2.2.1,v.2.2.2.1,v.2.2.2.2.1,v.2.2.2.2.2.1,v.2.2.2.2.2.2.1,v.2.2.2.2.2.2.2.1,v.2.2.2.2.2.2.2.2)
def raft_others_v2_B1 (box:Int) (row1 row2:List Int) (v1:Int×Int×Int×Int×List Entry×Int×Int×List Mail×Int×List Entry):Option ((Int×Int×Int×Int×List Entry×Int×Int×List Mail×Int×List Entry)⊕(List Mail×Int×Int×Int×Int×List Entry×Int×Int×List Entry)):=
 if (decide (v1.2.2.2.2.2.2.2.2.1<box))=true then
  ob (
   if (!decide (v1.2.2.2.2.2.2.2.2.1=v1.2.1))=true then
    ob (raft_beats_1_v2 v1.2.2.2.2.2.2.2.2.1 v1.1 v1.2.1 v1.2.2.1 v1.2.2.2.1 v1.2.2.2.2.1 v1.2.2.2.2.2.1 v1.2.2.2.2.2.2.1 row1 row2) fun x=>
    asrt (((v1.2.2.2.2.2.2.2.1++[(⟨x.1,v1.2.1,v1.2.2.2.2.2.2.2.2.1,v1.2.2.1,x.2.2.2.2.1,x.2.2.2.2.2.1,x.2.2.2.2.2.2.1,x.2.2.2.2.2.2.2.1,x.2.2.2.2.2.2.2.2⟩:Mail)]).length:Int)*88≤140737488351232) <|
    lt ((v1.2.2.2.2.2.2.2.1++[(⟨x.1,v1.2.1,v1.2.2.2.2.2.2.2.2.1,v1.2.2.1,x.2.2.2.2.1,x.2.2.2.2.2.1,x.2.2.2.2.2.2.1,x.2.2.2.2.2.2.2.1,x.2.2.2.2.2.2.2.2⟩:Mail)])) fun v3=>
    some v3
   else
    some v1.2.2.2.2.2.2.2.1) fun v2=>
  some (Sum.inl (v1.1,v1.2.1,v1.2.2.1,v1.2.2.2.1,v1.2.2.2.2.1,v1.2.2.2.2.2.1,v1.2.2.2.2.2.2.1,v2,w64 (v1.2.2.2.2.2.2.2.2.1+1),v1.2.2.2.2.2.2.2.2.2))
 else
  inrO (raft_others_v2_J1 (v1.2.2.2.2.2.2.2.1,v1.1,v1.2.1,v1.2.2.1,v1.2.2.2.1,v1.2.2.2.2.1,v1.2.2.2.2.2.1,v1.2.2.2.2.2.2.1,v1.2.2.2.2.2.2.2.2.2))
def raft_others_v2_L1 (box:Int) (row1 row2:List Int) (v0:Int×Int×Int×Int×List Entry×Int×Int×List Mail×Int×List Entry):Option (List Mail×Int×Int×Int×Int×List Entry×Int×Int×List Entry):=
 loopO (fun y=>raft_others_v2_B1 box row1 row2 y) v0
def raft_others_v2 (box box1:Int) (box2 box3:Int) (box4 box5:Int) (row:List Entry) (row1 row2:List Int):Option (List Mail×Int×Int×Int×Int×List Entry×Int×Int×List Entry):=
 raft_others_v2_L1 box row1 row2 (box,box1,box2,box3,row,box4,box5,([]:List Mail),0,row)
theorem raft_others_v2_ok (rk rc:Nat) (rn:Bool) (rk1 rc1:Nat) (rn1:Bool) (rk2 rc2:Nat) (rn2:Bool) {box box1 box2 box3 box4 box5 row row1 row2 r} (hF:raft_others_v2 box box1 box2 box3 box4 box5 row row1 row2=some r):Pe Try.prog 60 ⟨[],[(100000,[.i box,.i box1,.i box2,.i box3,.row 100000 0,.i box4,.i box5,.nils,.row 100001 0,.row 100002 0]),(100001,[.ptr 100000 0])],[(100000,.q 50 2 0 rk rc rn (row.map e_Entry)),(100001,.q 3 1 0 rk1 rc1 rn1 (row1.map e_i64)),(100002,.q 3 1 0 rk2 rc2 rn2 (row2.map e_i64))],[],[]⟩ [.ptr 100000 0,.fn 80 [.ptr 100001 0]] (.row 39 0) ⟨[],[(100000,[.i r.2.1,.i r.2.2.1,.i r.2.2.2.1,.i r.2.2.2.2.1,.sl 2 (r.2.2.2.2.2.1.map e_Entry),.i r.2.2.2.2.2.2.1,.i r.2.2.2.2.2.2.2.1,.nils,.row 100001 0,.row 100002 0]),(100001,[.ptr 100000 0])],[(100000,⟨50,2,0,(r.2.2.2.2.2.2.2.2.map e_Entry).length,rc,rn,0,[],(r.2.2.2.2.2.2.2.2.map e_Entry)⟩),(100001,.q 3 1 0 rk1 rc1 rn1 (row1.map e_i64)),(100002,.q 3 1 0 rk2 rc2 rn2 (row2.map e_i64)),(39,.z 91 9 0 (r.1.map e_Mail))],[],[]⟩:=by
 refine PT 42 [.tmp 4] [27] Try.func60 ?_
 intro Q g hfin
 unfold raft_others_v2 at hF
 refine LR0 ?_
 refine LR0 ?_
 refine VR [] [0,1,5,11,12] [100000,100001] [100000,100001,100002] [] [(0,.ptr 100000 0),(1,.fn 80 [.ptr 100001 0]),(5,.nils),(11,.i box),(12,.i 0)] [(100000,[.i box,.i box1,.i box2,.i box3,.row 100000 0,.i box4,.i box5,.nils,.row 100001 0,.row 100002 0]),(100001,[.ptr 100000 0])] [(100000,.q 50 2 0 rk rc rn (row.map e_Entry)),(100001,.q 3 1 0 rk1 rc1 rn1 (row1.map e_i64)),(100002,.q 3 1 0 rk2 rc2 rn2 (row2.map e_i64))] [] .nil ?_
 refine NmS (fun v=>raft_others_v2_J1 v=some r) (fun Z v=>Z.up [5] [100000,100001] [39,100000,100001,100002] [] [(5,.row 39 0)] [(100000,[.i v.2.1,.i v.2.2.1,.i v.2.2.2.1,.i v.2.2.2.2.1,.sl 2 (v.2.2.2.2.2.1.map e_Entry),.i v.2.2.2.2.2.2.1,.i v.2.2.2.2.2.2.2.1,.nils,.row 100001 0,.row 100002 0])] [(39,.z 91 9 0 (v.1.map e_Mail)),(100000,⟨50,2,0,(v.2.2.2.2.2.2.2.2.map e_Entry).length,rc,rn,0,[],(v.2.2.2.2.2.2.2.2.map e_Entry)⟩)] []) ?_ ?_
 ·refine Nblk ?_
  unfold raft_others_v2_L1 at hF
  refine Wk_nilrow 5 60000 91 9 rfl rfl rfl ?_
  refine Wk_sealBX [100001,100002] 100000 rfl rfl ?_
  refine Wk_trim (fs:=[0,1,5,11,12]) (bs:=[100000,100001]) (rs:=[60000,100000,100001,100002]) (ms:=[]) (aa:=[]) (nv:=[]) rfl ?_
  refine Wk_ren' ⟨[],[(60000,39)],[],[]⟩ rfl ?_
  refine Nitr hF [] (fun v1=>⟨[(0,.ptr 100000 0),(1,.fn 80 [.ptr 100001 0]),(5,.row 39 0),(11,.i box),(12,.i v1.2.2.2.2.2.2.2.2.1)],[(100000,[.i v1.1,.i v1.2.1,.i v1.2.2.1,.i v1.2.2.2.1,.sl 2 (v1.2.2.2.2.1.map e_Entry),.i v1.2.2.2.2.2.1,.i v1.2.2.2.2.2.2.1,.nils,.row 100001 0,.row 100002 0]),(100001,[.ptr 100000 0])],[(39,.z 91 9 0 (v1.2.2.2.2.2.2.2.1.map e_Mail)),(100000,⟨50,2,0,(v1.2.2.2.2.2.2.2.2.2.map e_Entry).length,rc,rn,0,[],(v1.2.2.2.2.2.2.2.2.2.map e_Entry)⟩),(100001,.q 3 1 0 rk1 rc1 rn1 (row1.map e_i64)),(100002,.q 3 1 0 rk2 rc2 rn2 (row2.map e_i64))],[],[]⟩) ?_
  intro n1 v1 y1 hF ih1 dn1
  unfold raft_others_v2_B1 at hF
  refine LR0 ?_
  refine Nif hF ?_ ?_ <;> intro hb hF
  ·refine Nblk ?_
   refine LR0 ?_
   refine LR0 ?_
   obtain ⟨v2,hv,hF⟩:=oE hF
   refine NmT (fun Z=>Z.up [0,1,5,11,12] [100000,100001] [39,100000,100001,100002] [] [] [] [(39,.z 91 9 0 (v2.map e_Mail))] []) ?_ ?_
   ·have hF:=hv
    refine Nif hF ?_ ?_ <;> intro hb hF
    ·obtain ⟨x,h0,hF⟩:=oE hF
     have p1:=(Pe.ren (raft_beats_1_v2_ok rk1 rc1 rn1 rk2 rc2 rn2 h0) ⟨[(100000,100001)],[(100000,100001),(100000,100002),(38,23)],[],[]⟩)
     refine RJ (.e [100001,100000] [100001,100002] p1 .z) ?_
     refine LD0 ?_
     obtain ⟨h2,hF⟩:=aE hF
     obtain ⟨v3,hv,hF⟩:=lS hF
     refine RJ (.a (.sealed) (.pN e_Mail hv h2 .z)) ?_
     cases hF
     exact met' [(39,⟨0,true,true,false⟩)]
    ·cases hF
     exact met' []
   ·refine LR0 ?_
    exact Nrnq [] hF ih1
  ·refine Nexit rfl ?_
   have hF:=inrO_done hF dn1
   exact metQ (v1.2.2.2.2.2.2.2.1,v1.1,v1.2.1,v1.2.2.1,v1.2.2.2.1,v1.2.2.2.2.1,v1.2.2.2.2.2.1,v1.2.2.2.2.2.2.1,v1.2.2.2.2.2.2.2.2.2) [] hF
 ·intro v hF
  unfold raft_others_v2_J1 at hF
  refine LR0 ?_
  cases hF
  exact Wz [] hfin

/- raft.beats -/
def raft_beats_v1 (box box1:Int) (box2 box3:Int) (box4 box5:Int) (row:List Entry) (row1 row2:List Int):Option (List Mail×Int×Int×Int×Int×List Entry×Int×Int×List Entry):=
 ob (raft_others_v2 box box1 box2 box3 box4 box5 row row1 row2) fun x=>
 some (x.1,x.2.1,x.2.2.1,x.2.2.2.1,x.2.2.2.2.1,x.2.2.2.2.2.1,x.2.2.2.2.2.2.1,x.2.2.2.2.2.2.2.1,x.2.2.2.2.2.2.2.2)
theorem raft_beats_v1_ok (rk rc:Nat) (rn:Bool) (rk1 rc1:Nat) (rn1:Bool) (rk2 rc2:Nat) (rn2:Bool) {box box1 box2 box3 box4 box5 row row1 row2 r} (hF:raft_beats_v1 box box1 box2 box3 box4 box5 row row1 row2=some r):Pe Try.prog 64 ⟨[],[(100000,[.i box,.i box1,.i box2,.i box3,.row 100000 0,.i box4,.i box5,.nils,.row 100001 0,.row 100002 0])],[(100000,.q 50 2 0 rk rc rn (row.map e_Entry)),(100001,.q 3 1 0 rk1 rc1 rn1 (row1.map e_i64)),(100002,.q 3 1 0 rk2 rc2 rn2 (row2.map e_i64))],[],[]⟩ [.ptr 100000 0] (.row 5 0) ⟨[],[(100000,[.i r.2.1,.i r.2.2.1,.i r.2.2.2.1,.i r.2.2.2.2.1,.sl 2 (r.2.2.2.2.2.1.map e_Entry),.i r.2.2.2.2.2.2.1,.i r.2.2.2.2.2.2.2.1,.nils,.row 100001 0,.row 100002 0])],[(100000,⟨50,2,0,(r.2.2.2.2.2.2.2.2.map e_Entry).length,rc,rn,0,[],(r.2.2.2.2.2.2.2.2.map e_Entry)⟩),(100001,.q 3 1 0 rk1 rc1 rn1 (row1.map e_i64)),(100002,.q 3 1 0 rk2 rc2 rn2 (row2.map e_i64)),(5,.z 91 9 0 (r.1.map e_Mail))],[],[]⟩:=by
 refine PT 6 [.tmp 2] [27] Try.func64 ?_
 intro Q g hfin
 unfold raft_beats_v1 at hF
 refine LR0 ?_
 obtain ⟨x,h0,hF⟩:=oE hF
 have p1:=(Pe.ren (raft_others_v2_ok rk rc rn rk1 rc1 rn1 rk2 rc2 rn2 h0) ⟨[(100001,1)],[(39,5)],[],[]⟩)
 refine RJ (.e [100000,1] [100000,100001,100002] p1 .z) ?_
 cases hF
 exact Wz [] hfin

/- raft.given -/
def raft_given (m:Mail) (box box1:Int) (box2 box3:Int) (box4 box5:Int) (row:List Entry) (row1 row2 row3:List Int):Option (List Mail×Int×Int×Int×Int×List Entry×Int×Int×List Int×List Int×List Int×List Entry×List Int):=
 if (((!decide (box4=1))||(!decide (m.Term=box2)))||(!m.Ok))=true then
  some (([]:List Mail),box,box1,box2,box3,row,box4,box5,row1,row2,row3,row,row1)
 else
  ob (slices_Contains_int_int row1 m.From) fun x=>
  ob (
   if (!x)=true then
    asrt (((row1++([m.From]:List Int)).length:Int)*8≤140737488351232) <|
    some (row1++([m.From]:List Int))
   else
    some row1) fun v=>
  lt (raft_most (v.length:Int) box) fun x1=>
  if (!x1)=true then
   some (([]:List Mail),box,box1,box2,box3,row,box4,box5,v,row2,row3,row,v)
  else
   ob (raft_lead_v1 box box1 box2 box3 box4 box5 row v row2 row3) fun x2=>
   ob (raft_beats_v1 x2.1 x2.2.1 x2.2.2.1 x2.2.2.2.1 x2.2.2.2.2.1 x2.2.2.2.2.2.1 row x2.2.2.2.2.2.2.1 x2.2.2.2.2.2.2.2) fun x3=>
   some (x3.1,x3.2.1,x3.2.2.1,x3.2.2.2.1,x3.2.2.2.2.1,x3.2.2.2.2.2.1,x3.2.2.2.2.2.2.1,x3.2.2.2.2.2.2.2.1,([]:List Int),x2.2.2.2.2.2.2.1,x2.2.2.2.2.2.2.2,x3.2.2.2.2.2.2.2.2,v)
theorem raft_given_ok (rk rc:Nat) (rn:Bool) (rk1 rc1:Nat) (rn1:Bool) (rk2 rc2:Nat) (rn2:Bool) (rk3 rc3:Nat) (rn3:Bool) {m box box1 box2 box3 box4 box5 row row1 row2 row3 r} (hF:raft_given m box box1 box2 box3 box4 box5 row row1 row2 row3=some r):Pe Try.prog 67 ⟨[],[(100000,[.i box,.i box1,.i box2,.i box3,.row 100000 0,.i box4,.i box5,.row 100001 0,.row 100002 0,.row 100003 0])],[(100000,.q 50 2 0 rk rc rn (row.map e_Entry)),(100001,.q 3 1 0 rk1 rc1 rn1 (row1.map e_i64)),(100002,.q 3 1 0 rk2 rc2 rn2 (row2.map e_i64)),(100003,.q 3 1 0 rk3 rc3 rn3 (row3.map e_i64))],[],[]⟩ [.ptr 100000 0,.agg (c_Mail m)] (.row 57 0) ⟨[],[(100000,[.i r.2.1,.i r.2.2.1,.i r.2.2.2.1,.i r.2.2.2.2.1,.sl 2 (r.2.2.2.2.2.1.map e_Entry),.i r.2.2.2.2.2.2.1,.i r.2.2.2.2.2.2.2.1,.sl 1 (r.2.2.2.2.2.2.2.2.1.map e_i64),.sl 1 (r.2.2.2.2.2.2.2.2.2.1.map e_i64),.sl 1 (r.2.2.2.2.2.2.2.2.2.2.1.map e_i64)])],[(100000,⟨50,2,0,(r.2.2.2.2.2.2.2.2.2.2.2.1.map e_Entry).length,rc,rn,0,[],(r.2.2.2.2.2.2.2.2.2.2.2.1.map e_Entry)⟩),(100001,⟨3,1,1,(r.2.2.2.2.2.2.2.2.2.2.2.2.map e_i64).length,rc1,rn1,0,[],(r.2.2.2.2.2.2.2.2.2.2.2.2.map e_i64)⟩),(100002,⟨3,1,0,((row2).map e_i64).length,rc2,rn2,0,[],(row2.map e_i64)⟩),(100003,⟨3,1,0,((row3).map e_i64).length,rc3,rn3,0,[],(row3.map e_i64)⟩),(57,.z 91 9 0 (r.1.map e_Mail))],[],[]⟩:=by
 refine PT 58 [.tmp 4] [27] Try.func67 ?_
 intro Q g hfin
 unfold raft_given at hF
 refine LR0 ?_
 refine LD0 ?_
 refine Nif hF ?_ ?_ <;> intro hb hF
 ·refine VR [] [4] [100000] [100000,100001,100002,100003] [] [(4,.nils)] [(100000,[.i box,.i box1,.i box2,.i box3,.row 100000 0,.i box4,.i box5,.row 100001 0,.row 100002 0,.row 100003 0])] [(100000,.q 50 2 0 rk rc rn (row.map e_Entry)),(100001,.q 3 1 0 rk1 rc1 rn1 (row1.map e_i64)),(100002,.q 3 1 0 rk2 rc2 rn2 (row2.map e_i64)),(100003,.q 3 1 0 rk3 rc3 rn3 (row3.map e_i64))] [] .nil ?_
  cases hF
  refine Wk_nilrow 4 60000 91 9 rfl rfl rfl ?_
  refine Wk_sealBX [] 100000 rfl rfl ?_
  refine Wk_ren' ⟨[],[(60000,57)],[],[]⟩ rfl ?_
  exact Wz [(100001,⟨1,true,true,true⟩),(100002,⟨0,true,true,true⟩),(100003,⟨0,true,true,true⟩)] hfin
 ·obtain ⟨x,h0,hF⟩:=oE hF
  refine DJ (.b (slices_Contains_int_int_ok h0) .z) ?_
  obtain ⟨v,hv,hF⟩:=oE hF
  refine NmT (fun Z=>Z.up [0] [100000] [100000,100001,100002,100003] [] [] [(100000,[.i box,.i box1,.i box2,.i box3,.row 100000 0,.i box4,.i box5,.row 100001 1,.row 100002 0,.row 100003 0])] [(100001,.q 3 1 1 rk1 rc1 rn1 (v.map e_i64))] []) ?_ ?_
  ·have hF:=hv
   refine Nif hF ?_ ?_ <;> intro hb hF
   ·obtain ⟨h1,hF⟩:=aE hF
    refine DJ (.a (.sealed) (.p e_i64 h1 .z)) ?_
    cases hF
    exact met' []
   ·cases hF
    exact met' [(100001,⟨1,true,true,false⟩)]
  ·obtain ⟨x1,h2,hF⟩:=lS hF
   refine DJ (.l e_i64 v (.b (raft_most_ok h2) .z)) ?_
   refine Nif hF ?_ ?_ <;> intro hb hF
   ·refine VR [] [4] [100000] [100000,100001,100002,100003] [] [(4,.nils)] [(100000,[.i box,.i box1,.i box2,.i box3,.row 100000 0,.i box4,.i box5,.row 100001 1,.row 100002 0,.row 100003 0])] [(100000,.q 50 2 0 rk rc rn (row.map e_Entry)),(100001,.q 3 1 1 rk1 rc1 rn1 (v.map e_i64)),(100002,.q 3 1 0 rk2 rc2 rn2 (row2.map e_i64)),(100003,.q 3 1 0 rk3 rc3 rn3 (row3.map e_i64))] [] .nil ?_
    cases hF
    refine Wk_nilrow 4 60001 91 9 rfl rfl rfl ?_
    refine Wk_sealBX [] 100000 rfl rfl ?_
    refine Wk_ren' ⟨[],[(60001,57)],[],[]⟩ rfl ?_
    exact Wz [(100002,⟨0,true,true,true⟩),(100003,⟨0,true,true,true⟩)] hfin
   ·obtain ⟨x2,h3,hF⟩:=oE hF
    have p4:=(Pe.ren (raft_lead_v1_ok rk rc rn rk1 rc1 rn1 rk2 rc2 rn2 rk3 rc3 rn3 h3) ⟨[],[(18,55),(23,20055)],[],[(100001,1)]⟩)
    refine RJ (.e [100000] [100000,100001,100002,100003] p4 .z) ?_
    obtain ⟨x3,h5,hF⟩:=oE hF
    have p6:=(Pe.ren (raft_beats_v1_ok rk rc rn 0 0 false 0 0 false h5) ⟨[],[(100001,55),(100002,20055),(5,57)],[],[]⟩)
    refine VR [cE [100000] [100000,55,20055] [] [] p6] [4] [100000] [55,57,20055,100000,100001,100002,100003] [] [(4,.row 57 0)] [(100000,[.i x3.2.1,.i x3.2.2.1,.i x3.2.2.2.1,.i x3.2.2.2.2.1,.sl 2 (x3.2.2.2.2.2.1.map e_Entry),.i x3.2.2.2.2.2.2.1,.i x3.2.2.2.2.2.2.2.1,.nils,.row 55 0,.row 20055 0])] [(55,.o 3 1 0 (x2.2.2.2.2.2.2.1.map e_i64)),(57,.z 91 9 0 (x3.1.map e_Mail)),(20055,.o 3 1 0 (x2.2.2.2.2.2.2.2.map e_i64)),(100000,⟨50,2,0,(x3.2.2.2.2.2.2.2.2.map e_Entry).length,rc,rn,0,[],(x3.2.2.2.2.2.2.2.2.map e_Entry)⟩),(100001,.q 3 1 1 rk1 rc1 rn1 (v.map e_i64)),(100002,.q 3 1 0 rk2 rc2 rn2 (row2.map e_i64)),(100003,.q 3 1 0 rk3 rc3 rn3 (row3.map e_i64))] [] (hc p6 .nil) ?_
    cases hF
    refine Wk_sealBX [] 100000 rfl rfl ?_
    refine Wk_coeB 100000 [.i x3.2.1,.i x3.2.2.1,.i x3.2.2.2.1,.i x3.2.2.2.2.1,.sl 2 (x3.2.2.2.2.2.1.map e_Entry),.i x3.2.2.2.2.2.2.1,.i x3.2.2.2.2.2.2.2.1,.sl 1 (([]:List Int).map e_i64),.sl 1 (x2.2.2.2.2.2.2.1.map e_i64),.sl 1 (x2.2.2.2.2.2.2.2.map e_i64)] rfl (.cons (CoeS.refl _) (.cons (CoeS.refl _) (.cons (CoeS.refl _) (.cons (CoeS.refl _) (.cons (CoeS.refl _) (.cons (CoeS.refl _) (.cons (CoeS.refl _) (.cons (CoeS.nils 1) (.cons (CoeS.refl _) (.cons (CoeS.refl _) .nil)))))))))) ?_
    exact Wz [(100001,⟨1,true,true,true⟩),(100002,⟨0,true,true,true⟩),(100003,⟨0,true,true,true⟩)] hfin

/- entry.two -/
def entry_two (a0 b:List Entry):Option Fault:=
 ob (entry_Check a0) fun x=>
 ob (
  if (decide (x.Code=0))=true then
   ob (entry_Check b) fun x1=>
   if (!decide (x1.Code=0))=true then
    some (⟨x1.Code,w64 (x1.At - 1000)⟩:Fault)
   else
    some x1
  else
   some x) fun v=>
 some v
theorem entry_two_ok {a0 b r} (hF:entry_two a0 b=some r):Pe Try.prog 89 S.none [.sl 2 (a0.map e_Entry),.sl 2 (b.map e_Entry)] (.agg (c_Fault r)) S.none:=by
 refine PT 21 [.cell 4 31] [31] Try.func89 ?_
 intro Q g hfin
 unfold entry_two at hF
 refine LR0 ?_
 obtain ⟨x,h0,hF⟩:=oE hF
 refine RJ (.b (entry_Check_ok h0) .z) ?_
 refine LR0 ?_
 obtain ⟨v,hv,hF⟩:=oE hF
 refine NmT (fun Z=>Z.up [4,5] [4,5] [] [] [] [(5,(c_Fault v))] [] []) ?_ ?_
 ·have hF:=hv
  refine Nif hF ?_ ?_ <;> intro hb hF
  ·obtain ⟨x1,h1,hF⟩:=oE hF
   refine RJ (.b (entry_Check_ok h1) .z) ?_
   refine LR0 ?_
   refine Nif hF ?_ ?_ <;> intro hb hF
   ·refine LR0 ?_
    cases hF
    exact met' []
   ·cases hF
    exact met' []
  ·cases hF
   exact met' []
 ·refine LR0 ?_
  cases hF
  exact Wz [] hfin

/- entry.number -/
def entry_number (num:Int):Bool:=
 (decide (0≤num))&&(decide (num≤1000000000))
theorem entry_number_ok {num r} (hF:entry_number num=r):Pe Try.prog 92 S.none [.i num] (.bool r) S.none:=by
 refine PT 9 [.tmp 2] [4] Try.func92 ?_
 intro Q g hfin
 unfold entry_number at hF
 refine LR0 ?_
 refine LR0 ?_
 cases hF
 exact Wz [] hfin

/- entry.ranged -/
def entry_ranged (num term:Int):Fault:=
 lt (entry_number num) fun x=>
 if (!x)=true then
  lt (entry_fault 3 (-1)) fun x1=>
  x1
 else
  lt (entry_number term) fun x2=>
  if (!x2)=true then
   lt (entry_fault 3 (-2)) fun x3=>
   x3
  else
   (⟨0,0⟩:Fault)
theorem entry_ranged_ok {num term r} (hF:entry_ranged num term=r):Pe Try.prog 90 S.none [.i num,.i term] (.agg (c_Fault r)) S.none:=by
 refine PT 14 [.cell 4 31] [31] Try.func90 ?_
 intro Q g hfin
 unfold entry_ranged at hF
 refine LR0 ?_
 obtain ⟨x,h0,hF⟩:=lS hF
 refine RJ (.b (entry_number_ok h0) .z) ?_
 refine Nif hF ?_ ?_ <;> intro hb hF
 ·obtain ⟨x1,h1,hF⟩:=lS hF
  refine RJ (.b (entry_fault_ok h1) .z) ?_
  cases hF
  exact Wz [] hfin
 ·obtain ⟨x2,h2,hF⟩:=lS hF
  refine RJ (.b (entry_number_ok h2) .z) ?_
  refine Nif hF ?_ ?_ <;> intro hb hF
  ·obtain ⟨x3,h3,hF⟩:=lS hF
   refine RJ (.b (entry_fault_ok h3) .z) ?_
   cases hF
   exact Wz [] hfin
  ·refine LR0 ?_
   cases hF
   exact Wz [] hfin

/- entry.Fits -/
def entry_Fits (l:List Entry) (at0 term:Int):Option Bool:=
 ob (if (decide (at0≤(l.length:Int)))=true then (entry_TermAt l at0) else some default) fun x=>
 some ((decide (at0≤(l.length:Int)))&&(decide (x=term)))
theorem entry_Fits_ok {l at0 term r} (hF:entry_Fits l at0 term=some r):Pe Try.prog 91 S.none [.sl 2 (l.map e_Entry),.i at0,.i term] (.bool r) S.none:=by
 refine PT 18 [.tmp 6] [4] Try.func91 ?_
 intro Q g hfin
 unfold entry_Fits at hF
 refine LR0 ?_
 obtain ⟨x,h0,hF⟩:=oE hF
 refine RJ (.l e_Entry l (.a (.callB (.i x)) (.g (fun (ga0:(decide (at0≤(l.length:Int)))=true)=>(entry_TermAt_ok (ite_t h0 ga0))) .z))) ?_
 cases hF
 exact Wz [] hfin

/- entry.Put -/
def entry_Put_J1 (v1:List Entry):Option (List Entry×Bool×Fault):=
 ob (entry_Check v1) fun x4=>
 if (!decide (x4.Code=0))=true then
  lt (entry_fault x4.Code (-1)) fun x5=>
  some (([]:List Entry),false,x5)
 else
  some (v1,true,x4)
def entry_Put_B1 (at0:Int) (more:List Entry) (v2:List Entry×Int):Option ((List Entry×Int)⊕(List Entry×Bool×Fault)):=
 if (decide (v2.2<(more.length:Int)))=true then
  ob (
   asrt (0≤v2.2∧v2.2<(more.length:Int)) <|
   asrt ((decide ((w64 (at0+v2.2))<(v2.1.length:Int)))=true→0≤w64 (at0+v2.2)∧w64 (at0+v2.2)<(v2.1.length:Int)) <|
   asrt ((decide ((w64 (at0+v2.2))<(v2.1.length:Int)))=true→0≤w64 (at0+v2.2)∧w64 (at0+v2.2)<(v2.1.length:Int)) <|
   if ((decide ((w64 (at0+v2.2))<(v2.1.length:Int)))&&(decide (((lget v2.1 (w64 (at0+v2.2))).Term)=((lget more v2.2).Term))))=true then
    some v2.1
   else
    asrt (0≤(min (w64 (at0+v2.2)) (v2.1.length:Int))∧(min (w64 (at0+v2.2)) (v2.1.length:Int))≤(v2.1.length:Int)) <|
    asrt (((v2.1.take ((min (w64 (at0+v2.2)) (v2.1.length:Int)).toNat)++[(⟨(lget more v2.2).Term,(lget more v2.2).Text⟩:Entry)]).length:Int)*24≤140737488351232) <|
    asrt (((min (w64 (at0+v2.2)) (v2.1.length:Int)).toNat)≤v2.1.length) <|
    lt ((v2.1.take ((min (w64 (at0+v2.2)) (v2.1.length:Int)).toNat)++[(⟨(lget more v2.2).Term,(lget more v2.2).Text⟩:Entry)])) fun v4=>
    some v4) fun v3=>
  some (Sum.inl (v3,w64 (v2.2+1)))
 else
  inrO (entry_Put_J1 v2.1)
def entry_Put_L1 (at0:Int) (more:List Entry) (v0:List Entry×Int):Option (List Entry×Bool×Fault):=
 loopO (fun y=>entry_Put_B1 at0 more y) v0
def entry_Put (l:List Entry) (at0 term:Int) (more:List Entry):Option (List Entry×Bool×Fault):=
 ob (entry_two l more) fun x=>
 ob (
  if (decide (x.Code=0))=true then
   lt (entry_ranged at0 term) fun x1=>
   some x1
  else
   some x) fun v=>
 if (!decide (v.Code=0))=true then
  some (([]:List Entry),false,v)
 else
  ob (slices_Clone_api_Entry_api_Entry l) fun x2=>
  ob (entry_Fits l at0 term) fun x3=>
  if (!x3)=true then
   some (x2,false,v)
  else
   entry_Put_L1 at0 more (x2,0)
theorem entry_Put_ok {l at0 term more r} (hF:entry_Put l at0 term more=some r):Pe Try.prog 83 (.w []) [.sl 2 (l.map e_Entry),.i at0,.i term,.sl 2 (more.map e_Entry)] (.tup [.row 30 0,.bool r.2.1,.agg (c_Fault r.2.2)]) ⟨[],[],[(30,.o 50 2 0 (r.1.map e_Entry))],[],[]⟩:=by
 refine PT 82 [.tmp 8,.tmp 9,.cell 10 31] [45,4,31] Try.func83 ?_
 intro Q g hfin
 unfold entry_Put at hF
 refine LR0 ?_
 obtain ⟨x,h0,hF⟩:=oE hF
 refine RJ (.b (entry_two_ok h0) .z) ?_
 refine LR0 ?_
 obtain ⟨v,hv,hF⟩:=oE hF
 refine NmT (fun Z=>Z.up [0,1,2,3,10,11] [10,11] [] [] [] [(11,(c_Fault v))] [] []) ?_ ?_
 ·have hF:=hv
  refine Nif hF ?_ ?_ <;> intro hb hF
  ·obtain ⟨x1,h1,hF⟩:=lS hF
   refine RJ (.b (entry_ranged_ok h1) .z) ?_
   cases hF
   exact met' []
  ·cases hF
   exact met' []
 ·refine LR0 ?_
  refine Nif hF ?_ ?_ <;> intro hb hF
  ·refine VD [] [8,9,10] [10] [] [] [(8,.nils),(9,.bool false),(10,.ptr 10 0)] [(10,(c_Fault v))] [] [] .nil ?_
   cases hF
   refine Wk_nilrow 8 60000 50 2 rfl rfl rfl ?_
   refine Wk_ren' ⟨[],[(60000,30)],[],[]⟩ rfl ?_
   exact Wz [(30,⟨0,true,false,false⟩)] hfin
  ·obtain ⟨x2,h2,hF⟩:=oE hF
   have p3:=(Pe.ren (slices_Clone_api_Entry_api_Entry_ok h2) ⟨[],[(5,30)],[],[]⟩)
   refine RJ (.e [] [] p3 .z) ?_
   obtain ⟨x3,h4,hF⟩:=oE hF
   refine RJ (.b (entry_Fits_ok h4) .z) ?_
   refine Nif hF ?_ ?_ <;> intro hb hF
   ·refine LD0 ?_
    cases hF
    exact Wz [] hfin
   ·refine RJ (.l e_Entry more .z) ?_
    refine NmS (fun v1=>entry_Put_J1 v1=some r) (fun Z v1=>Z.up [10,11,12] [10,11] [30] [] [] [] [(30,.o 50 2 0 (v1.map e_Entry))] []) ?_ ?_
    ·refine Nblk ?_
     unfold entry_Put_L1 at hF
     refine Nits hF [] (fun Z v2=>Z.up [1,10,11,12,38,39,40] [10,11] [30] [] [(40,.i v2.2)] [] [(30,.o 50 2 0 (v2.1.map e_Entry))] []) ?_
     intro n1 v2 y1 hF ih1 dn1
     unfold entry_Put_B1 at hF
     refine LR0 ?_
     refine Nif hF ?_ ?_ <;> intro hb hF
     ·obtain ⟨v3,hv,hF⟩:=oE hF
      refine NmT (fun Z=>Z.up [1,10,11,12,38,39,40] [10,11] [30] [] [] [] [(30,.o 50 2 0 (v3.map e_Entry))] []) ?_ ?_
      ·have hF:=hv
       refine Nblk ?_
       obtain ⟨h7,hF⟩:=aE hF
       refine RJ (.i e_Entry h7 .z) ?_
       refine LR0 ?_
       obtain ⟨h8,h9,hF⟩:=asrt2 hF
       refine DJ (.l e_Entry v2.1 (.g (fun (ga0:(decide ((w64 (at0+v2.2))<(v2.1.length:Int)))=true)=>(ixr_ok e_Entry (h8 ga0))) (.a (.av (e_Entry (lget v2.1 (w64 (at0+v2.2))))) (.g (fun (ga0:(decide ((w64 (at0+v2.2))<(v2.1.length:Int)))=true)=>(ldr_ok e_Entry (h9 ga0))) .z)))) ?_
       refine Nif hF ?_ ?_ <;> intro hb hF
       ·refine Nexit rfl ?_
        cases hF
        exact met' []
       ·obtain ⟨h10,hF⟩:=aE hF
        obtain ⟨h11,h12,hF⟩:=asrt2 hF
        refine NDL ((v2.1.take ((min (w64 (at0+v2.2)) (v2.1.length:Int)).toNat)++[(⟨(lget more v2.2).Term,(lget more v2.2).Text⟩:Entry)])) (fun v4:List Entry=>([(12,.row 30 1)],[],[(30,⟨50,2,1,0,(v2.1.map e_Entry).length,false,0,[],(v4.map e_Entry)⟩)],[])) [.nat (v2.1.length:Int),.vw ((min (w64 (at0+v2.2)) (v2.1.length:Int)).toNat),.sealed,.xs ((v2.1.take ((min (w64 (at0+v2.2)) (v2.1.length:Int)).toNat)++[(⟨(lget more v2.2).Term,(lget more v2.2).Text⟩:Entry)]).map e_Entry)] [1,10,11,12,38,39,40] [10,11] [30] [] (hc (len_ok e_Entry v2.1) (hc (vw01_ok (cm:=0) e_Entry h10) (hc (tap_ok e_Entry v2.1 ((min (w64 (at0+v2.2)) (v2.1.length:Int)).toNat) [(⟨(lget more v2.2).Term,(lget more v2.2).Text⟩:Entry)]) (hc (appl_ok e_Entry h11) (hc (tk_ok e_Entry h12) .nil))))) (fun v4 hv=>?_)
        have hF:=lt_elim hF hv
        cases hF
        exact met' [(30,⟨0,false,true,false⟩)]
      ·refine LR0 ?_
       exact Nrnq [] hF ih1
     ·refine Nexit rfl ?_
      have hF:=inrO_done hF dn1
      exact metQ v2.1 [] hF
    ·intro v1 hF
     unfold entry_Put_J1 at hF
     obtain ⟨x4,h5,hF⟩:=oE hF
     refine RJ (.b (entry_Check_ok h5) .z) ?_
     refine LR0 ?_
     refine Nif hF ?_ ?_ <;> intro hb hF
     ·obtain ⟨x5,h6,hF⟩:=lS hF
      refine VR [.callB (.agg (c_Fault x5))] [8,9,10] [10] [] [] [(8,.nils),(9,.bool false),(10,.ptr 10 0)] [(10,(c_Fault x5))] [] [] (hc (entry_fault_ok h6) .nil) ?_
      cases hF
      refine Wk_nilrow 8 60001 50 2 rfl rfl rfl ?_
      refine Wk_ren' ⟨[],[(60001,30)],[],[]⟩ rfl ?_
      exact Wz [(30,⟨0,true,false,false⟩)] hfin
     ·refine LD0 ?_
      cases hF
      exact Wz [] hfin

/- raft.answer -/
def raft_answer_v1 (m:Mail) (kind:Int) (ok:Bool) (a0 box:Int) (box1 box2:Int) (box3 box4 box5:Int) (row:List Entry):List Mail:=
 [(⟨kind,box1,m.From,box2,a0,0,0,([]:List Entry),ok⟩:Mail)]
theorem raft_answer_v1_ok (rk rc:Nat) (rn:Bool) {m kind ok a0 box box1 box2 box3 box4 box5 row r} (hF:raft_answer_v1 m kind ok a0 box box1 box2 box3 box4 box5 row=r):Pe Try.prog 81 ⟨[],[(100000,[.i box,.i box1,.i box2,.i box3,.row 100000 0,.i box4,.i box5,.nils,.nils,.nils])],[(100000,.q 50 2 0 rk rc rn (row.map e_Entry))],[],[]⟩ [.ptr 100000 0,.agg (c_Mail m),.i kind,.bool ok,.i a0] (.sl 9 (r.map e_Mail)) ⟨[],[(100000,[.i box,.i box1,.i box2,.i box3,.row 100000 0,.i box4,.i box5,.nils,.nils,.nils])],[(100000,.q 50 2 0 rk rc rn (row.map e_Entry))],[],[]⟩:=by
 refine PT 26 [.tmp 10] [27] Try.func81 ?_
 intro Q g hfin
 unfold raft_answer_v1 at hF
 refine LR0 ?_
 refine DJ (.a (.sealed) .z) ?_
 cases hF
 exact Wz [] hfin

/- slices.Equal[[]api.Entry,api.Entry] -/
def slices_Equal_api_Entry_api_Entry_J1 (v:Unit):Option Bool:=
 some true
def slices_Equal_api_Entry_api_Entry_B1 (s1 s2:List Entry) (v1:Int):Option (Int⊕Bool):=
 if (decide (v1<(s1.length:Int)))=true then
  asrt (0≤v1∧v1<(s1.length:Int)) <|
  asrt (0≤v1∧v1<(s2.length:Int)) <|
  if (!(decide ((lget s1 v1).Term=(lget s2 v1).Term)&&(decide ((lget s1 v1).Text=(lget s2 v1).Text)&&true)))=true then
   some (Sum.inr false)
  else
   some (Sum.inl (w64 (v1+1)))
 else
  inrO (slices_Equal_api_Entry_api_Entry_J1 ())
def slices_Equal_api_Entry_api_Entry_L1 (s1 s2:List Entry) (v0:Int):Option Bool:=
 loopO (fun y=>slices_Equal_api_Entry_api_Entry_B1 s1 s2 y) v0
def slices_Equal_api_Entry_api_Entry (s1 s2:List Entry):Option Bool:=
 if (!decide ((s1.length:Int)=(s2.length:Int)))=true then
  some false
 else
  slices_Equal_api_Entry_api_Entry_L1 s1 s2 0
theorem slices_Equal_api_Entry_api_Entry_ok {s1 s2 r} (hF:slices_Equal_api_Entry_api_Entry s1 s2=some r):Pe Try.prog 84 S.none [.sl 2 (s1.map e_Entry),.sl 2 (s2.map e_Entry)] (.bool r) S.none:=by
 refine PT 26 [.tmp 4] [4] Try.func84 ?_
 intro Q g hfin
 unfold slices_Equal_api_Entry_api_Entry at hF
 refine LR0 ?_
 refine RJ (.l e_Entry s1 (.l e_Entry s2 .z)) ?_
 refine Nif hF ?_ ?_ <;> intro hb hF
 ·refine LR0 ?_
  cases hF
  exact Wz [] hfin
 ·refine RJ (.l e_Entry s1 .z) ?_
  refine NmQ (fun v=>slices_Equal_api_Entry_api_Entry_J1 v=some r) (fun v=>(.w [])) ?_ ?_
  ·refine Nblk ?_
   unfold slices_Equal_api_Entry_api_Entry_L1 at hF
   refine Nits hF [] (fun Z v1=>Z.up [0,1,12,13] [] [] [] [(13,.i v1)] [] [] []) ?_
   intro n1 v1 y1 hF ih1 dn1
   unfold slices_Equal_api_Entry_api_Entry_B1 at hF
   refine LR0 ?_
   refine Nif hF ?_ ?_ <;> intro hb hF
   ·refine Nblk ?_
    refine LR0 ?_
    obtain ⟨h0,h1,hF⟩:=asrt2 hF
    refine DJ (.i e_Entry h0 (.i e_Entry h1 .z)) ?_
    refine Nif hF ?_ ?_ <;> intro hb hF
    ·refine LR0 ?_
     have hF:=ret_done hF dn1
     cases hF
     exact Wz [] hfin
    ·refine LR0 ?_
     exact Nrnq [] hF ih1
   ·refine Nexit rfl ?_
    have hF:=inrO_done hF dn1
    exact metQ () [] hF
  ·intro v hF
   unfold slices_Equal_api_Entry_api_Entry_J1 at hF
   refine LR0 ?_
   cases hF
   exact Wz [] hfin

end
end G
end Go.Proofs.Ythiighaapaomcaa
