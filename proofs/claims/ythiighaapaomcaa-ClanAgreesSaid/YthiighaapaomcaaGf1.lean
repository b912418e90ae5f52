/- The program's functions as plain functions, and that they are these. Written by a program (dec2.py). -/
import Derived.Test.YthiighaapaomcaaGf0
namespace Go.Proofs.Ythiighaapaomcaa
open Go Go.Dm
set_option linter.unusedVariables false
set_option linter.unusedSimpArgs false
set_option maxRecDepth 100000
namespace G
noncomputable section
/- raft.bringing -/
def raft_bringing (m:Mail) (box box1:Int) (box2 box3:Int) (box4 box5:Int) (row:List Entry) (row1 row2 row3:List Int):Option (List Mail×Int×Int×Int×Int×List Entry×Int×Int×List Int×List Int×List Int×List Entry):=
 if (decide (m.Term<box2))=true then
  lt (raft_answer m 4 false 0 box box1 box2 box3 box4 box5 row row1 row2 row3) fun x=>
  some (x,box,box1,box2,box3,row,box4,box5,row1,row2,row3,row)
 else
  if (decide (box4=2))=true then
   some (([]:List Mail),box,box1,box2,box3,row,box4,box5,row1,row2,row3,row)
  else
   lt (raft_follow box box1 box2 box3 box4 box5 row row1 row2 row3) fun x1=>
   ob (entry_Put row m.A m.B m.Entries) fun x2=>
   if (!decide (x2.2.2.Code=0))=true then
    some (([]:List Mail),x1.1,x1.2.1,x1.2.2.1,x1.2.2.2.1,row,x1.2.2.2.2.1,x1.2.2.2.2.2,([]:List Int),([]:List Int),([]:List Int),row)
   else
    if (!x2.2.1)=true then
     lt (raft_answer_v1 m 4 false (max 0 (min (w64 (m.A - 1)) (row.length:Int))) x1.1 x1.2.1 x1.2.2.1 x1.2.2.2.1 x1.2.2.2.2.1 x1.2.2.2.2.2 row) fun x3=>
     some (x3,x1.1,x1.2.1,x1.2.2.1,x1.2.2.2.1,row,x1.2.2.2.2.1,x1.2.2.2.2.2,([]:List Int),([]:List Int),([]:List Int),row)
    else
     if (decide ((x2.1.length:Int)<x1.2.2.2.2.2))=true then
      some (([]:List Mail),x1.1,x1.2.1,x1.2.2.1,x1.2.2.2.1,row,x1.2.2.2.2.1,x1.2.2.2.2.2,([]:List Int),([]:List Int),([]:List Int),row)
     else
      asrt (0≤x1.2.2.2.2.2∧x1.2.2.2.2.2≤(x2.1.length:Int)) <|
      asrt (0≤x1.2.2.2.2.2∧x1.2.2.2.2.2≤(row.length:Int)) <|
      ob (slices_Equal_api_Entry_api_Entry (ltake x2.1 x1.2.2.2.2.2) (ltake row x1.2.2.2.2.2)) fun x4=>
      if (!x4)=true then
       some (([]:List Mail),x1.1,x1.2.1,x1.2.2.1,x1.2.2.2.1,row,x1.2.2.2.2.1,x1.2.2.2.2.2,([]:List Int),([]:List Int),([]:List Int),row)
      else
       lt (raft_answer_v1 m 4 true (w64 (m.A+(m.Entries.length:Int))) x1.1 x1.2.1 x1.2.2.1 x1.2.2.2.1 x1.2.2.2.2.1 (max x1.2.2.2.2.2 (min m.C0 (w64 (m.A+(m.Entries.length:Int))))) x2.1) fun x5=>
       some (x5,x1.1,x1.2.1,x1.2.2.1,x1.2.2.2.1,x2.1,x1.2.2.2.2.1,(max x1.2.2.2.2.2 (min m.C0 (w64 (m.A+(m.Entries.length:Int))))),([]:List Int),([]:List Int),([]:List Int),row)
theorem raft_bringing_ok (rk rc:Nat) (rn:Bool) (rk1 rc1:Nat) (rn1:Bool) (rk2 rc2:Nat) (rn2:Bool) (rk3 rc3:Nat) (rn3:Bool) {m box box1 box2 box3 box4 box5 row row1 row2 row3 r} (hF:raft_bringing m box box1 box2 box3 box4 box5 row row1 row2 row3=some r):Pe Try.prog 68 ⟨[],[(100000,[.i box,.i box1,.i box2,.i box3,.row 100000 0,.i box4,.i box5,.row 100001 0,.row 100002 0,.row 100003 0])],[(100000,.q 50 2 0 rk rc rn (row.map e_Entry)),(100001,.q 3 1 0 rk1 rc1 rn1 (row1.map e_i64)),(100002,.q 3 1 0 rk2 rc2 rn2 (row2.map e_i64)),(100003,.q 3 1 0 rk3 rc3 rn3 (row3.map e_i64))],[],[]⟩ [.ptr 100000 0,.agg (c_Mail m)] (.sl 9 (r.1.map e_Mail)) ⟨[],[(100000,[.i r.2.1,.i r.2.2.1,.i r.2.2.2.1,.i r.2.2.2.2.1,.sl 2 (r.2.2.2.2.2.1.map e_Entry),.i r.2.2.2.2.2.2.1,.i r.2.2.2.2.2.2.2.1,.sl 1 (r.2.2.2.2.2.2.2.2.1.map e_i64),.sl 1 (r.2.2.2.2.2.2.2.2.2.1.map e_i64),.sl 1 (r.2.2.2.2.2.2.2.2.2.2.1.map e_i64)])],[(100000,⟨50,2,0,(r.2.2.2.2.2.2.2.2.2.2.2.map e_Entry).length,rc,rn,0,[],(r.2.2.2.2.2.2.2.2.2.2.2.map e_Entry)⟩),(100001,⟨3,1,0,((row1).map e_i64).length,rc1,rn1,0,[],(row1.map e_i64)⟩),(100002,⟨3,1,0,((row2).map e_i64).length,rc2,rn2,0,[],(row2.map e_i64)⟩),(100003,⟨3,1,0,((row3).map e_i64).length,rc3,rn3,0,[],(row3.map e_i64)⟩)],[],[]⟩:=by
 refine PT 111 [.tmp 4] [27] Try.func68 ?_
 intro Q g hfin
 unfold raft_bringing at hF
 refine LR0 ?_
 refine LD0 ?_
 refine Nif hF ?_ ?_ <;> intro hb hF
 ·obtain ⟨x,h0,hF⟩:=lS hF
  refine VR [.callR [100000] [100000,100001,100002,100003] [] [] (.sl 9 (x.map e_Mail))] [4] [100000] [100000,100001,100002,100003] [] [(4,.sl 9 (x.map e_Mail))] [(100000,[.i box,.i box1,.i box2,.i box3,.row 100000 0,.i box4,.i box5,.row 100001 0,.row 100002 0,.row 100003 0])] [(100000,.q 50 2 0 rk rc rn (row.map e_Entry)),(100001,.q 3 1 0 rk1 rc1 rn1 (row1.map e_i64)),(100002,.q 3 1 0 rk2 rc2 rn2 (row2.map e_i64)),(100003,.q 3 1 0 rk3 rc3 rn3 (row3.map e_i64))] [] (hc (Pe.ren (raft_answer_ok rk rc rn rk1 rc1 rn1 rk2 rc2 rn2 rk3 rc3 rn3 h0) ⟨[],[],[],[]⟩) .nil) ?_
  cases hF
  refine Wk_sealBX [] 100000 rfl rfl ?_
  exact Wz [(100001,⟨0,true,true,true⟩),(100002,⟨0,true,true,true⟩),(100003,⟨0,true,true,true⟩)] hfin
 ·refine LR0 ?_
  refine Nif hF ?_ ?_ <;> intro hb hF
  ·refine VR [] [4] [100000] [100000,100001,100002,100003] [] [(4,.nils)] [(100000,[.i box,.i box1,.i box2,.i box3,.row 100000 0,.i box4,.i box5,.row 100001 0,.row 100002 0,.row 100003 0])] [(100000,.q 50 2 0 rk rc rn (row.map e_Entry)),(100001,.q 3 1 0 rk1 rc1 rn1 (row1.map e_i64)),(100002,.q 3 1 0 rk2 rc2 rn2 (row2.map e_i64)),(100003,.q 3 1 0 rk3 rc3 rn3 (row3.map e_i64))] [] .nil ?_
   cases hF
   refine Wk_sealBX [] 100000 rfl rfl ?_
   exact Wz [(100001,⟨0,true,true,true⟩),(100002,⟨0,true,true,true⟩),(100003,⟨0,true,true,true⟩)] hfin
  ·obtain ⟨x1,h1,hF⟩:=lS hF
   have p2:=(Pe.ren (raft_follow_ok rk rc rn rk1 rc1 rn1 rk2 rc2 rn2 rk3 rc3 rn3 h1) ⟨[],[],[],[]⟩)
   refine RJ (.e [100000] [100000,100001,100002,100003] p2 .z) ?_
   obtain ⟨x2,h3,hF⟩:=oE hF
   have p4:=(Pe.ren (entry_Put_ok h3) ⟨[],[(30,37)],[],[]⟩)
   refine DJ (.e [] [] p4 .z) ?_
   refine LR0 ?_
   refine Nif hF ?_ ?_ <;> intro hb hF
   ·refine VR [] [4] [100000] [100000,100001,100002,100003] [] [(4,.nils)] [(100000,[.i x1.1,.i x1.2.1,.i x1.2.2.1,.i x1.2.2.2.1,.row 100000 0,.i x1.2.2.2.2.1,.i x1.2.2.2.2.2,.nils,.nils,.nils])] [(100000,⟨50,2,0,(row.map e_Entry).length,rc,rn,0,[],(row.map e_Entry)⟩),(100001,.q 3 1 0 rk1 rc1 rn1 (row1.map e_i64)),(100002,.q 3 1 0 rk2 rc2 rn2 (row2.map e_i64)),(100003,.q 3 1 0 rk3 rc3 rn3 (row3.map e_i64))] [] .nil ?_
    cases hF
    refine Wk_sealBX [] 100000 rfl rfl ?_
    refine Wk_coeB 100000 [.i x1.1,.i x1.2.1,.i x1.2.2.1,.i x1.2.2.2.1,.sl 2 (row.map e_Entry),.i x1.2.2.2.2.1,.i x1.2.2.2.2.2,.sl 1 (([]:List Int).map e_i64),.sl 1 (([]:List Int).map e_i64),.sl 1 (([]:List Int).map e_i64)] rfl (.cons (CoeS.refl _) (.cons (CoeS.refl _) (.cons (CoeS.refl _) (.cons (CoeS.refl _) (.cons (CoeS.refl _) (.cons (CoeS.refl _) (.cons (CoeS.refl _) (.cons (CoeS.nils 1) (.cons (CoeS.nils 1) (.cons (CoeS.nils 1) .nil)))))))))) ?_
    exact Wz [(100001,⟨0,true,true,true⟩),(100002,⟨0,true,true,true⟩),(100003,⟨0,true,true,true⟩)] hfin
   ·refine LR0 ?_
    refine Nif hF ?_ ?_ <;> intro hb hF
    ·obtain ⟨x3,h5,hF⟩:=lS hF
     refine VD [.nat (row.length:Int),.callR [100000] [100000] [] [] (.sl 9 (x3.map e_Mail))] [4] [100000] [100000,100001,100002,100003] [] [(4,.sl 9 (x3.map e_Mail))] [(100000,[.i x1.1,.i x1.2.1,.i x1.2.2.1,.i x1.2.2.2.1,.row 100000 0,.i x1.2.2.2.2.1,.i x1.2.2.2.2.2,.nils,.nils,.nils])] [(100000,⟨50,2,0,(row.map e_Entry).length,rc,rn,0,[],(row.map e_Entry)⟩),(100001,.q 3 1 0 rk1 rc1 rn1 (row1.map e_i64)),(100002,.q 3 1 0 rk2 rc2 rn2 (row2.map e_i64)),(100003,.q 3 1 0 rk3 rc3 rn3 (row3.map e_i64))] [] (hc (len_ok e_Entry row) (hc (Pe.ren (raft_answer_v1_ok ((row.map e_Entry).length) rc rn h5) ⟨[],[],[],[]⟩) .nil)) ?_
     cases hF
     refine Wk_sealBX [] 100000 rfl rfl ?_
     refine Wk_coeB 100000 [.i x1.1,.i x1.2.1,.i x1.2.2.1,.i x1.2.2.2.1,.sl 2 (row.map e_Entry),.i x1.2.2.2.2.1,.i x1.2.2.2.2.2,.sl 1 (([]:List Int).map e_i64),.sl 1 (([]:List Int).map e_i64),.sl 1 (([]:List Int).map e_i64)] rfl (.cons (CoeS.refl _) (.cons (CoeS.refl _) (.cons (CoeS.refl _) (.cons (CoeS.refl _) (.cons (CoeS.refl _) (.cons (CoeS.refl _) (.cons (CoeS.refl _) (.cons (CoeS.nils 1) (.cons (CoeS.nils 1) (.cons (CoeS.nils 1) .nil)))))))))) ?_
     exact Wz [(100001,⟨0,true,true,true⟩),(100002,⟨0,true,true,true⟩),(100003,⟨0,true,true,true⟩)] hfin
    ·cases hk2:(decide ((x2.1.length:Int)<x1.2.2.2.2.2))
     ·have hF:=ite_f hF hk2
      obtain ⟨h6,h7,hF⟩:=asrt2 hF
      obtain ⟨x4,h8,hF⟩:=oE hF
      refine NK [(66,false)] [.nat (x2.1.length:Int),.xs ((ltake x2.1 x1.2.2.2.2.2).map e_Entry),.xs ((ltake row x1.2.2.2.2.2).map e_Entry),.callB (.bool x4)] [0,3,5,84] [3,100000] [37,100000,100001,100002,100003] [] ⟨[(0,.ptr 100000 0),(3,.ptr 3 0),(5,.row 37 0),(84,.bool (!x4))],[(3,(c_Mail m)),(100000,[.i x1.1,.i x1.2.1,.i x1.2.2.1,.i x1.2.2.2.1,.row 100000 0,.i x1.2.2.2.2.1,.i x1.2.2.2.2.2,.nils,.nils,.nils])],[(37,⟨50,2,0,(x2.1.map e_Entry).length,0,false,0,[],(x2.1.map e_Entry)⟩),(100000,⟨50,2,0,(row.map e_Entry).length,rc,rn,0,[],(row.map e_Entry)⟩),(100001,.q 3 1 0 rk1 rc1 rn1 (row1.map e_i64)),(100002,.q 3 1 0 rk2 rc2 rn2 (row2.map e_i64)),(100003,.q 3 1 0 rk3 rc3 rn3 (row3.map e_i64))],[],[]⟩ (hc (len_ok e_Entry x2.1) (hc hk2 (hc hk2 (hc hk2 (hc hk2 (hc hk2 (hc hk2 (hc (sl01_ok e_Entry h6) (hc hk2 (hc hk2 (hc hk2 (hc hk2 (hc hk2 (hc hk2 (hc hk2 (hc hk2 (hc hk2 (hc (sl01_ok e_Entry h7) (hc hk2 (hc (slices_Equal_api_Entry_api_Entry_ok h8) (hc hk2 (hc hk2 .nil)))))))))))))))))))))) ?_
      refine Nif hF ?_ ?_ <;> intro hb hF
      ·refine VR [] [4] [100000] [100000,100001,100002,100003] [] [(4,.nils)] [(100000,[.i x1.1,.i x1.2.1,.i x1.2.2.1,.i x1.2.2.2.1,.row 100000 0,.i x1.2.2.2.2.1,.i x1.2.2.2.2.2,.nils,.nils,.nils])] [(100000,⟨50,2,0,(row.map e_Entry).length,rc,rn,0,[],(row.map e_Entry)⟩),(100001,.q 3 1 0 rk1 rc1 rn1 (row1.map e_i64)),(100002,.q 3 1 0 rk2 rc2 rn2 (row2.map e_i64)),(100003,.q 3 1 0 rk3 rc3 rn3 (row3.map e_i64))] [] .nil ?_
       cases hF
       refine Wk_sealBX [] 100000 rfl rfl ?_
       refine Wk_coeB 100000 [.i x1.1,.i x1.2.1,.i x1.2.2.1,.i x1.2.2.2.1,.sl 2 (row.map e_Entry),.i x1.2.2.2.2.1,.i x1.2.2.2.2.2,.sl 1 (([]:List Int).map e_i64),.sl 1 (([]:List Int).map e_i64),.sl 1 (([]:List Int).map e_i64)] rfl (.cons (CoeS.refl _) (.cons (CoeS.refl _) (.cons (CoeS.refl _) (.cons (CoeS.refl _) (.cons (CoeS.refl _) (.cons (CoeS.refl _) (.cons (CoeS.refl _) (.cons (CoeS.nils 1) (.cons (CoeS.nils 1) (.cons (CoeS.nils 1) .nil)))))))))) ?_
       exact Wz [(100001,⟨0,true,true,true⟩),(100002,⟨0,true,true,true⟩),(100003,⟨0,true,true,true⟩)] hfin
      ·refine RJ (.l e_Entry m.Entries .z) ?_
       refine LD0 ?_
       obtain ⟨x5,h9,hF⟩:=lS hF
       refine VR [.callR [100000] [37] [] [] (.sl 9 (x5.map e_Mail))] [4] [100000] [37,100000,100001,100002,100003] [] [(4,.sl 9 (x5.map e_Mail))] [(100000,[.i x1.1,.i x1.2.1,.i x1.2.2.1,.i x1.2.2.2.1,.row 37 0,.i x1.2.2.2.2.1,.i (max x1.2.2.2.2.2 (min m.C0 (w64 (m.A+(m.Entries.length:Int))))),.nils,.nils,.nils])] [(37,⟨50,2,0,(x2.1.map e_Entry).length,0,false,0,[],(x2.1.map e_Entry)⟩),(100000,⟨50,2,0,(row.map e_Entry).length,rc,rn,0,[],(row.map e_Entry)⟩),(100001,.q 3 1 0 rk1 rc1 rn1 (row1.map e_i64)),(100002,.q 3 1 0 rk2 rc2 rn2 (row2.map e_i64)),(100003,.q 3 1 0 rk3 rc3 rn3 (row3.map e_i64))] [] (hc (Pe.ren (raft_answer_v1_ok ((x2.1.map e_Entry).length) 0 false h9) ⟨[],[(100000,37)],[],[]⟩) .nil) ?_
       cases hF
       refine Wk_sealBX [] 100000 rfl rfl ?_
       refine Wk_coeB 100000 [.i x1.1,.i x1.2.1,.i x1.2.2.1,.i x1.2.2.2.1,.sl 2 (x2.1.map e_Entry),.i x1.2.2.2.2.1,.i (max x1.2.2.2.2.2 (min m.C0 (w64 (m.A+(m.Entries.length:Int))))),.sl 1 (([]:List Int).map e_i64),.sl 1 (([]:List Int).map e_i64),.sl 1 (([]:List Int).map e_i64)] rfl (.cons (CoeS.refl _) (.cons (CoeS.refl _) (.cons (CoeS.refl _) (.cons (CoeS.refl _) (.cons (CoeS.refl _) (.cons (CoeS.refl _) (.cons (CoeS.refl _) (.cons (CoeS.nils 1) (.cons (CoeS.nils 1) (.cons (CoeS.nils 1) .nil)))))))))) ?_
       exact Wz [(100001,⟨0,true,true,true⟩),(100002,⟨0,true,true,true⟩),(100003,⟨0,true,true,true⟩)] hfin
     ·have hF:=ite_t hF hk2
      refine NK [(66,true)] [.nat (x2.1.length:Int)] [0,3,5,84] [3,100000] [37,100000,100001,100002,100003] [] ⟨[(0,.ptr 100000 0),(3,.ptr 3 0),(5,.row 37 0),(84,.bool true)],[(3,(c_Mail m)),(100000,[.i x1.1,.i x1.2.1,.i x1.2.2.1,.i x1.2.2.2.1,.row 100000 0,.i x1.2.2.2.2.1,.i x1.2.2.2.2.2,.nils,.nils,.nils])],[(37,.o 50 2 0 (x2.1.map e_Entry)),(100000,⟨50,2,0,(row.map e_Entry).length,rc,rn,0,[],(row.map e_Entry)⟩),(100001,.q 3 1 0 rk1 rc1 rn1 (row1.map e_i64)),(100002,.q 3 1 0 rk2 rc2 rn2 (row2.map e_i64)),(100003,.q 3 1 0 rk3 rc3 rn3 (row3.map e_i64))],[],[]⟩ (hc (len_ok e_Entry x2.1) (hc hk2 (hc hk2 (hc hk2 (hc hk2 (hc hk2 (hc hk2 (hc hk2 (hc hk2 (hc hk2 (hc hk2 (hc hk2 (hc hk2 (hc hk2 (hc hk2 (hc hk2 (hc hk2 (hc hk2 (hc hk2 .nil))))))))))))))))))) ?_
      refine Ntrue (by kernel_rfl) ?_
      refine VR [] [4] [100000] [100000,100001,100002,100003] [] [(4,.nils)] [(100000,[.i x1.1,.i x1.2.1,.i x1.2.2.1,.i x1.2.2.2.1,.row 100000 0,.i x1.2.2.2.2.1,.i x1.2.2.2.2.2,.nils,.nils,.nils])] [(100000,⟨50,2,0,(row.map e_Entry).length,rc,rn,0,[],(row.map e_Entry)⟩),(100001,.q 3 1 0 rk1 rc1 rn1 (row1.map e_i64)),(100002,.q 3 1 0 rk2 rc2 rn2 (row2.map e_i64)),(100003,.q 3 1 0 rk3 rc3 rn3 (row3.map e_i64))] [] .nil ?_
      cases hF
      refine Wk_sealBX [] 100000 rfl rfl ?_
      refine Wk_coeB 100000 [.i x1.1,.i x1.2.1,.i x1.2.2.1,.i x1.2.2.2.1,.sl 2 (row.map e_Entry),.i x1.2.2.2.2.1,.i x1.2.2.2.2.2,.sl 1 (([]:List Int).map e_i64),.sl 1 (([]:List Int).map e_i64),.sl 1 (([]:List Int).map e_i64)] rfl (.cons (CoeS.refl _) (.cons (CoeS.refl _) (.cons (CoeS.refl _) (.cons (CoeS.refl _) (.cons (CoeS.refl _) (.cons (CoeS.refl _) (.cons (CoeS.refl _) (.cons (CoeS.nils 1) (.cons (CoeS.nils 1) (.cons (CoeS.nils 1) .nil)))))))))) ?_
      exact Wz [(100001,⟨0,true,true,true⟩),(100002,⟨0,true,true,true⟩),(100003,⟨0,true,true,true⟩)] hfin

/- raft.answered -/
def raft_answered (m:Mail) (box box1:Int) (box2 box3:Int) (box4 box5:Int) (row:List Entry) (row1 row2 row3:List Int):Option (Int×Int×Int×Int×Int×Int×List Int×List Int):=
 if ((!decide (box4=2))||(!decide (m.Term=box2)))=true then
  some (box,box1,box2,box3,box4,box5,row2,row3)
 else
  if m.Ok=true then
   asrt (0≤m.From∧m.From<(row3.length:Int)) <|
   asrt (0≤m.From∧m.From<(row3.length:Int)) <|
   asrt (0≤m.From∧m.From<(row3.length:Int)) <|
   asrt (0≤m.From∧m.From<(row3.length:Int)) <|
   lt ((lset row3 m.From (max (lget row3 m.From) (min m.A (row.length:Int))))) fun v=>
   asrt (0≤m.From∧m.From<(v.length:Int)) <|
   asrt (0≤m.From∧m.From<(v.length:Int)) <|
   asrt (0≤m.From∧m.From<(row2.length:Int)) <|
   asrt (0≤m.From∧m.From<(row2.length:Int)) <|
   ob (raft_count_v1 box box1 box2 box3 box4 box5 row row1 (lset row2 m.From (w64 ((lget v m.From)+1))) v) fun x=>
   some (x.1,x.2.1,x.2.2.1,x.2.2.2.1,x.2.2.2.2.1,x.2.2.2.2.2,(lset row2 m.From (w64 ((lget v m.From)+1))),v)
  else
   asrt (0≤m.From∧m.From<(row3.length:Int)) <|
   asrt (0≤m.From∧m.From<(row3.length:Int)) <|
   asrt (0≤m.From∧m.From<(row2.length:Int)) <|
   asrt (0≤m.From∧m.From<(row2.length:Int)) <|
   asrt (0≤m.From∧m.From<(row2.length:Int)) <|
   asrt (0≤m.From∧m.From<(row2.length:Int)) <|
   lt ((lset row2 m.From (max (w64 ((lget row3 m.From)+1)) (min (w64 ((lget row2 m.From) - 1)) (w64 (m.A+1)))))) fun v1=>
   some (box,box1,box2,box3,box4,box5,v1,row3)
theorem raft_answered_ok (rk rc:Nat) (rn:Bool) (rk1 rc1:Nat) (rn1:Bool) (rk2 rc2:Nat) (rn2:Bool) (rk3 rc3:Nat) (rn3:Bool) {m box box1 box2 box3 box4 box5 row row1 row2 row3 r} (hF:raft_answered m box box1 box2 box3 box4 box5 row row1 row2 row3=some r):Pe Try.prog 69 ⟨[],[(100000,[.i box,.i box1,.i box2,.i box3,.row 100000 0,.i box4,.i box5,.row 100001 0,.row 100002 0,.row 100003 0])],[(100000,.q 50 2 0 rk rc rn (row.map e_Entry)),(100001,.q 3 1 0 rk1 rc1 rn1 (row1.map e_i64)),(100002,.q 3 1 0 0 rc2 rn2 (row2.map e_i64)),(100003,.q 3 1 0 0 rc3 rn3 (row3.map e_i64))],[],[]⟩ [.ptr 100000 0,.agg (c_Mail m)] (.tup []) ⟨[],[(100000,[.i r.1,.i r.2.1,.i r.2.2.1,.i r.2.2.2.1,.row 100000 0,.i r.2.2.2.2.1,.i r.2.2.2.2.2.1,.row 100001 0,.row 100002 0,.row 100003 0])],[(100000,.q 50 2 0 rk rc rn (row.map e_Entry)),(100001,.q 3 1 0 rk1 rc1 rn1 (row1.map e_i64)),(100002,.q 3 1 0 0 rc2 rn2 (r.2.2.2.2.2.2.1.map e_i64)),(100003,.q 3 1 0 0 rc3 rn3 (r.2.2.2.2.2.2.2.map e_i64))],[],[]⟩:=by
 refine PT 92 [] [] Try.func69 ?_
 intro Q g hfin
 unfold raft_answered at hF
 refine LR0 ?_
 refine LD0 ?_
 refine Nif hF ?_ ?_ <;> intro hb hF
 ·cases hF
  exact Wz [] hfin
 ·refine LR0 ?_
  refine Nif hF ?_ ?_ <;> intro hb hF
  ·obtain ⟨h0,hF⟩:=aE hF
   obtain ⟨h1,h2,hF⟩:=asrt2 hF
   obtain ⟨h3,hF⟩:=aE hF
   obtain ⟨v,hv,hF⟩:=lS hF
   refine DJ (.x e_i64 h0 (.r e_i64 h1 (.l e_Entry row (.x e_i64 h2 (.wN e_i64 h3 hv .z))))) ?_
   obtain ⟨h4,h5,h6,h7,hF⟩:=asrt4 hF
   refine DJ (.x e_i64 h4 (.r e_i64 h5 (.x e_i64 h6 (.w e_i64 h7 (w64 ((lget v m.From)+1)) .z)))) ?_
   obtain ⟨x,h8,hF⟩:=oE hF
   have p9:=(Pe.ren (raft_count_v1_ok rk rc rn rk1 rc1 rn1 0 rc2 rn2 0 rc3 rn3 h8) ⟨[],[],[],[]⟩)
   refine RJ (.e [100000] [100000,100001,100002,100003] p9 .z) ?_
   cases hF
   exact Wz [] hfin
  ·obtain ⟨h10,hF⟩:=aE hF
   obtain ⟨h11,h12,h13,h14,hF⟩:=asrt4 hF
   obtain ⟨h15,hF⟩:=aE hF
   obtain ⟨v1,hv,hF⟩:=lS hF
   refine DJ (.x e_i64 h10 (.r e_i64 h11 (.x e_i64 h12 (.r e_i64 h13 (.x e_i64 h14 (.wN e_i64 h15 hv .z)))))) ?_
   cases hF
   exact Wk_end (hfin _ ⟨[100000,100001,100002,100003],[100000],[100000,100001,100002,100003],[],[],[],by kernel_rfl⟩)

/- raft.Take -/
def raft_Take (x:Node) (m:Mail):Option (Node×List Mail×Fault):=
 ob (raft_Check x) fun x1=>
 ob (if (decide (x1.Code=0))=true then (raft_fine m x) else some default) fun x2=>
 ob (
  if ((decide (x1.Code=0))&&(!x2))=true then
   lt (raft_fault 5 0) fun x3=>
   some x3
  else
   some x1) fun v=>
 if (!decide (v.Code=0))=true then
  some ((⟨0,0,0,0,([]:List Entry),0,0,([]:List Int),([]:List Int),([]:List Int)⟩:Node),([]:List Mail),v)
 else
  ob (raft_own x) fun x4=>
  ob (
   if (decide (x4.2.2.1<m.Term))=true then
    lt (raft_follow x4.1 x4.2.1 m.Term 0 x4.2.2.2.2.2.1 x4.2.2.2.2.2.2.1 x4.2.2.2.2.1 x4.2.2.2.2.2.2.2.1 x4.2.2.2.2.2.2.2.2.1 x4.2.2.2.2.2.2.2.2.2) fun x5=>
    some (x5.1,x5.2.1,x5.2.2.1,x5.2.2.2.1,x5.2.2.2.2.1,x5.2.2.2.2.2,([]:List Int),([]:List Int),([]:List Int))
   else
    some (x4.1,x4.2.1,x4.2.2.1,x4.2.2.2.1,x4.2.2.2.2.2.1,x4.2.2.2.2.2.2.1,x4.2.2.2.2.2.2.2.1,x4.2.2.2.2.2.2.2.2.1,x4.2.2.2.2.2.2.2.2.2)) fun v1=>
  ob (
   if (decide (m.Kind=1))=true then
    ob (raft_asked m v1.1 v1.2.1 v1.2.2.1 v1.2.2.2.1 v1.2.2.2.2.1 v1.2.2.2.2.2.1 x4.2.2.2.2.1 v1.2.2.2.2.2.2.1 v1.2.2.2.2.2.2.2.1 v1.2.2.2.2.2.2.2.2) fun x6=>
    some (x6.2.1,x6.2.2.1,x6.2.2.2.1,x6.2.2.2.2.1,x4.2.2.2.2.1,x6.2.2.2.2.2.1,x6.2.2.2.2.2.2,v1.2.2.2.2.2.2.1,v1.2.2.2.2.2.2.2.1,v1.2.2.2.2.2.2.2.2,x6.1)
   else
    if (decide (m.Kind=2))=true then
     ob (raft_given m v1.1 v1.2.1 v1.2.2.1 v1.2.2.2.1 v1.2.2.2.2.1 v1.2.2.2.2.2.1 x4.2.2.2.2.1 v1.2.2.2.2.2.2.1 v1.2.2.2.2.2.2.2.1 v1.2.2.2.2.2.2.2.2) fun x7=>
     some (x7.2.1,x7.2.2.1,x7.2.2.2.1,x7.2.2.2.2.1,x7.2.2.2.2.2.1,x7.2.2.2.2.2.2.1,x7.2.2.2.2.2.2.2.1,x7.2.2.2.2.2.2.2.2.1,x7.2.2.2.2.2.2.2.2.2.1,x7.2.2.2.2.2.2.2.2.2.2.1,x7.1)
    else
     if (decide (m.Kind=3))=true then
      ob (raft_bringing m v1.1 v1.2.1 v1.2.2.1 v1.2.2.2.1 v1.2.2.2.2.1 v1.2.2.2.2.2.1 x4.2.2.2.2.1 v1.2.2.2.2.2.2.1 v1.2.2.2.2.2.2.2.1 v1.2.2.2.2.2.2.2.2) fun x8=>
      some (x8.2.1,x8.2.2.1,x8.2.2.2.1,x8.2.2.2.2.1,x8.2.2.2.2.2.1,x8.2.2.2.2.2.2.1,x8.2.2.2.2.2.2.2.1,x8.2.2.2.2.2.2.2.2.1,x8.2.2.2.2.2.2.2.2.2.1,x8.2.2.2.2.2.2.2.2.2.2.1,x8.1)
     else
      if (decide (m.Kind=4))=true then
       ob (raft_answered m v1.1 v1.2.1 v1.2.2.1 v1.2.2.2.1 v1.2.2.2.2.1 v1.2.2.2.2.2.1 x4.2.2.2.2.1 v1.2.2.2.2.2.2.1 v1.2.2.2.2.2.2.2.1 v1.2.2.2.2.2.2.2.2) fun x9=>
       some (x9.1,x9.2.1,x9.2.2.1,x9.2.2.2.1,x4.2.2.2.2.1,x9.2.2.2.2.1,x9.2.2.2.2.2.1,v1.2.2.2.2.2.2.1,x9.2.2.2.2.2.2.1,x9.2.2.2.2.2.2.2,([]:List Mail))
      else
       some (v1.1,v1.2.1,v1.2.2.1,v1.2.2.2.1,x4.2.2.2.2.1,v1.2.2.2.2.1,v1.2.2.2.2.2.1,v1.2.2.2.2.2.2.1,v1.2.2.2.2.2.2.2.1,v1.2.2.2.2.2.2.2.2,([]:List Mail))) fun v2=>
  some ((⟨v2.1,v2.2.1,v2.2.2.1,v2.2.2.2.1,v2.2.2.2.2.1,v2.2.2.2.2.2.1,v2.2.2.2.2.2.2.1,v2.2.2.2.2.2.2.2.1,v2.2.2.2.2.2.2.2.2.1,v2.2.2.2.2.2.2.2.2.2.1⟩:Node),v2.2.2.2.2.2.2.2.2.2.2,v)
theorem raft_Take_ok {x m r} (hF:raft_Take x m=some r):Pe Try.prog 41 S.none [.agg (c_Node x),.agg (c_Mail m)] (.tup [.agg (c_Node r.1),.sl 9 (r.2.1.map e_Mail),.agg (c_Fault r.2.2)]) S.none:=by
 refine PT 72 [.cell 4 48,.tmp 5,.cell 6 31] [48,27,31] Try.func41 ?_
 intro Q g hfin
 unfold raft_Take at hF
 refine LR0 ?_
 obtain ⟨x1,h0,hF⟩:=oE hF
 refine RJ (.b (raft_Check_ok h0) .z) ?_
 obtain ⟨x2,h1,hF⟩:=oE hF
 refine RJ (.a (.callR [2] [] [] [] (.bool x2)) (.g (fun (ga0:(decide (x1.Code=0))=true)=>(Pe.ren (raft_fine_ok (ite_t h1 ga0)) ⟨[(100000,2)],[],[],[]⟩)) .z)) ?_
 obtain ⟨v,hv,hF⟩:=oE hF
 refine NmT (fun Z=>Z.up [2,3,4,6,7] [2,3,4,6,7] [] [] [] [(7,(c_Fault v))] [] []) ?_ ?_
 ·have hF:=hv
  refine Nif hF ?_ ?_ <;> intro hb hF
  ·obtain ⟨x3,h2,hF⟩:=lS hF
   refine RJ (.b (raft_fault_ok h2) .z) ?_
   cases hF
   exact met' []
  ·cases hF
   exact met' []
 ·refine LR0 ?_
  refine Nif hF ?_ ?_ <;> intro hb hF
  ·refine LD0 ?_
   cases hF
   exact Wz [] hfin
  ·obtain ⟨x4,h3,hF⟩:=oE hF
   have p4:=(Pe.ren (raft_own_ok h3) ⟨[(1,27)],[(5,27),(8,20027),(11,40027),(14,60027)],[],[]⟩)
   refine RJ (.e [] [] p4 .z) ?_
   refine LD0 ?_
   obtain ⟨v1,hv,hF⟩:=oE hF
   refine NmT (fun Z=>Z.up [3,4,6,7,8] [3,4,6,7,27] [27,20027,40027,60027] [] [] [(27,[.i v1.1,.i v1.2.1,.i v1.2.2.1,.i v1.2.2.2.1,.row 27 0,.i v1.2.2.2.2.1,.i v1.2.2.2.2.2.1,.row 20027 0,.row 40027 0,.row 60027 0])] [(20027,.o 3 1 0 (v1.2.2.2.2.2.2.1.map e_i64)),(40027,.o 3 1 0 (v1.2.2.2.2.2.2.2.1.map e_i64)),(60027,.o 3 1 0 (v1.2.2.2.2.2.2.2.2.map e_i64))] []) ?_ ?_
   ·have hF:=hv
    refine Nif hF ?_ ?_ <;> intro hb hF
    ·refine LR0 ?_
     obtain ⟨x5,h5,hF⟩:=lS hF
     have p6:=(Pe.ren (raft_follow_ok 0 0 false 0 0 false 0 0 false 0 0 false h5) ⟨[(100000,27)],[(100000,27),(100001,20027),(100002,40027),(100003,60027)],[],[]⟩)
     refine VR [cE [27] [27,20027,40027,60027] [] [] p6] [3,4,6,7,8] [3,4,6,7,27] [27] [] [(3,.ptr 3 0),(4,.ptr 4 0),(6,.ptr 6 0),(7,.ptr 7 0),(8,.ptr 27 0)] [(3,(c_Mail m)),(4,[.i 0,.i 0,.i 0,.i 0,.nils,.i 0,.i 0,.nils,.nils,.nils]),(6,[.i 0,.i 0]),(7,(c_Fault v)),(27,[.i x5.1,.i x5.2.1,.i x5.2.2.1,.i x5.2.2.2.1,.row 27 0,.i x5.2.2.2.2.1,.i x5.2.2.2.2.2,.nils,.nils,.nils])] [(27,.o 50 2 0 (x4.2.2.2.2.1.map e_Entry))] [] (hc p6 .nil) ?_
     refine Wk_nilrowB 27 7 60000 3 1 rfl rfl rfl rfl rfl ?_
     refine Wk_nilrowB 27 8 60001 3 1 rfl rfl rfl rfl rfl ?_
     refine Wk_nilrowB 27 9 60002 3 1 rfl rfl rfl rfl rfl ?_
     refine Wk_trim (fs:=[3,4,6,7,8]) (bs:=[3,4,6,7,27]) (rs:=[27,60000,60001,60002]) (ms:=[]) (aa:=[]) (nv:=[]) rfl ?_
     refine Wk_ren' ⟨[],[(60000,20027),(60001,40027),(60002,60027)],[],[]⟩ rfl ?_
     cases hF
     exact met' [(20027,⟨0,true,false,false⟩),(40027,⟨0,true,false,false⟩),(60027,⟨0,true,false,false⟩)]
    ·cases hF
     exact met' []
   ·refine LR0 ?_
    refine LR0 ?_
    refine Nblk ?_
    refine LR0 ?_
    obtain ⟨v2,hv,hF⟩:=oE hF
    refine NmT (fun Z=>Z.up [4,6,7,8,9] [4,6,7,27] [] [] [(9,.sl 9 (v2.2.2.2.2.2.2.2.2.2.2.map e_Mail))] [(27,[.i v2.1,.i v2.2.1,.i v2.2.2.1,.i v2.2.2.2.1,.sl 2 (v2.2.2.2.2.1.map e_Entry),.i v2.2.2.2.2.2.1,.i v2.2.2.2.2.2.2.1,.sl 1 (v2.2.2.2.2.2.2.2.1.map e_i64),.sl 1 (v2.2.2.2.2.2.2.2.2.1.map e_i64),.sl 1 (v2.2.2.2.2.2.2.2.2.2.1.map e_i64)])] [] []) ?_ ?_
    ·have hF:=hv
     refine Nif hF ?_ ?_ <;> intro hb hF
     ·obtain ⟨x6,h7,hF⟩:=oE hF
      have p8:=(Pe.ren (raft_asked_ok 0 0 false 0 0 false 0 0 false 0 0 false h7) ⟨[(100000,27)],[(100000,27),(100001,20027),(100002,40027),(100003,60027)],[],[]⟩)
      refine VR [cE [27] [27,20027,40027,60027] [] [] p8] [4,6,7,8,9] [4,6,7,27] [27,20027,40027,60027] [] [(4,.ptr 4 0),(6,.ptr 6 0),(7,.ptr 7 0),(8,.ptr 27 0),(9,.sl 9 (x6.1.map e_Mail))] [(4,[.i 0,.i 0,.i 0,.i 0,.nils,.i 0,.i 0,.nils,.nils,.nils]),(6,[.i 0,.i 0]),(7,(c_Fault v)),(27,[.i x6.2.1,.i x6.2.2.1,.i x6.2.2.2.1,.i x6.2.2.2.2.1,.row 27 0,.i x6.2.2.2.2.2.1,.i x6.2.2.2.2.2.2,.row 20027 0,.row 40027 0,.row 60027 0])] [(27,.o 50 2 0 (x4.2.2.2.2.1.map e_Entry)),(20027,.o 3 1 0 (v1.2.2.2.2.2.2.1.map e_i64)),(40027,.o 3 1 0 (v1.2.2.2.2.2.2.2.1.map e_i64)),(60027,.o 3 1 0 (v1.2.2.2.2.2.2.2.2.map e_i64))] [] (hc p8 .nil) ?_
      refine Wk_sealBX [] 27 rfl rfl ?_
      cases hF
      exact met' []
     ·refine LR0 ?_
      refine Nif hF ?_ ?_ <;> intro hb hF
      ·obtain ⟨x7,h9,hF⟩:=oE hF
       have p10:=(Pe.ren (raft_given_ok 0 0 false 0 0 false 0 0 false 0 0 false h9) ⟨[(100000,27)],[(100000,27),(100001,20027),(100002,40027),(100003,60027),(57,56)],[],[]⟩)
       refine VR [cE [27] [27,20027,40027,60027] [] [] p10] [4,6,7,8,9] [4,6,7,27] [56] [] [(4,.ptr 4 0),(6,.ptr 6 0),(7,.ptr 7 0),(8,.ptr 27 0),(9,.row 56 0)] [(4,[.i 0,.i 0,.i 0,.i 0,.nils,.i 0,.i 0,.nils,.nils,.nils]),(6,[.i 0,.i 0]),(7,(c_Fault v)),(27,[.i x7.2.1,.i x7.2.2.1,.i x7.2.2.2.1,.i x7.2.2.2.2.1,.sl 2 (x7.2.2.2.2.2.1.map e_Entry),.i x7.2.2.2.2.2.2.1,.i x7.2.2.2.2.2.2.2.1,.sl 1 (x7.2.2.2.2.2.2.2.2.1.map e_i64),.sl 1 (x7.2.2.2.2.2.2.2.2.2.1.map e_i64),.sl 1 (x7.2.2.2.2.2.2.2.2.2.2.1.map e_i64)])] [(56,.z 91 9 0 (x7.1.map e_Mail))] [] (hc p10 .nil) ?_
       refine Wk_sealX [] 9 rfl rfl ?_
       cases hF
       exact met' []
      ·refine LR0 ?_
       refine Nif hF ?_ ?_ <;> intro hb hF
       ·obtain ⟨x8,h11,hF⟩:=oE hF
        have p12:=(Pe.ren (raft_bringing_ok 0 0 false 0 0 false 0 0 false 0 0 false h11) ⟨[(100000,27)],[(100000,27),(100001,20027),(100002,40027),(100003,60027)],[],[]⟩)
        refine RJ (.e [27] [27,20027,40027,60027] p12 .z) ?_
        cases hF
        exact met' []
       ·refine VR [] [3,4,6,7,8,9,62] [3,4,6,7,27] [27,20027,40027,60027] [] [(3,.ptr 3 0),(4,.ptr 4 0),(6,.ptr 6 0),(7,.ptr 7 0),(8,.ptr 27 0),(9,.nils),(62,.bool (decide (m.Kind=4)))] [(3,(c_Mail m)),(4,[.i 0,.i 0,.i 0,.i 0,.nils,.i 0,.i 0,.nils,.nils,.nils]),(6,[.i 0,.i 0]),(7,(c_Fault v)),(27,[.i v1.1,.i v1.2.1,.i v1.2.2.1,.i v1.2.2.2.1,.row 27 0,.i v1.2.2.2.2.1,.i v1.2.2.2.2.2.1,.row 20027 0,.row 40027 0,.row 60027 0])] [(27,.o 50 2 0 (x4.2.2.2.2.1.map e_Entry)),(20027,.o 3 1 0 (v1.2.2.2.2.2.2.1.map e_i64)),(40027,.o 3 1 0 (v1.2.2.2.2.2.2.2.1.map e_i64)),(60027,.o 3 1 0 (v1.2.2.2.2.2.2.2.2.map e_i64))] [] .nil ?_
        refine Nif hF ?_ ?_ <;> intro hb hF
        ·obtain ⟨x9,h13,hF⟩:=oE hF
         have p14:=(Pe.ren (raft_answered_ok 0 0 false 0 0 false 0 0 false 0 0 false h13) ⟨[(100000,27)],[(100000,27),(100001,20027),(100002,40027),(100003,60027)],[],[]⟩)
         refine VR [cE [27] [27,20027,40027,60027] [] [] p14] [4,6,7,8,9] [4,6,7,27] [27,20027,40027,60027] [] [(4,.ptr 4 0),(6,.ptr 6 0),(7,.ptr 7 0),(8,.ptr 27 0),(9,.nils)] [(4,[.i 0,.i 0,.i 0,.i 0,.nils,.i 0,.i 0,.nils,.nils,.nils]),(6,[.i 0,.i 0]),(7,(c_Fault v)),(27,[.i x9.1,.i x9.2.1,.i x9.2.2.1,.i x9.2.2.2.1,.row 27 0,.i x9.2.2.2.2.1,.i x9.2.2.2.2.2.1,.row 20027 0,.row 40027 0,.row 60027 0])] [(27,.o 50 2 0 (x4.2.2.2.2.1.map e_Entry)),(20027,.o 3 1 0 (v1.2.2.2.2.2.2.1.map e_i64)),(40027,.o 3 1 0 (x9.2.2.2.2.2.2.1.map e_i64)),(60027,.o 3 1 0 (x9.2.2.2.2.2.2.2.map e_i64))] [] (hc p14 .nil) ?_
         refine Wk_coe 9 (.sl 9 (([]:List Mail).map e_Mail)) rfl (.cell rfl (CoeS.nils 9)) ?_
         refine Wk_sealBX [] 27 rfl rfl ?_
         cases hF
         exact met' []
        ·refine Wk_coe 9 (.sl 9 (([]:List Mail).map e_Mail)) rfl (.cell rfl (CoeS.nils 9)) ?_
         refine Wk_sealBX [] 27 rfl rfl ?_
         cases hF
         exact met' []
    ·refine LD0 ?_
     cases hF
     exact Wz [] hfin

/- (*clan.game).does$3 -/
def clan_game_does_3 (x:Node) (box:Mail):Option (Node×List Mail×Fault):=
 ob (raft_Take x box) fun x1=>
 some (x1.1,x1.2.1,x1.2.2)
theorem clan_game_does_3_ok {x box r} (hF:clan_game_does_3 x box=some r):Pe Try.prog 40 ⟨[],[(100000,(c_Mail box))],[],[],[]⟩ [.agg (c_Node x),.ptr 100000 0] (.tup [.agg (c_Node r.1),.sl 9 (r.2.1.map e_Mail),.agg (c_Fault r.2.2)]) ⟨[],[(100000,(c_Mail box))],[],[],[]⟩:=by
 refine PT 12 [.cell 3 48,.tmp 4,.cell 5 31] [48,27,31] Try.func40 ?_
 intro Q g hfin
 unfold clan_game_does_3 at hF
 refine LR0 ?_
 obtain ⟨x1,h0,hF⟩:=oE hF
 refine RJ (.c (raft_Take_ok h0) .z) ?_
 cases hF
 exact Wz [] hfin

/- (*clan.game).node -/
def clan_game_node_v3 (who:Int) (box:List (List UInt8)) (box1:Mail) (row:List Node) (row1:List Mail):Option (Bool×List Node×List Mail×List (List UInt8)):=
 asrt (0≤who∧who<(row.length:Int)) <|
 asrt (0≤who∧who<(row.length:Int)) <|
 ob (clan_game_does_3 (⟨(lget row who).N,(lget row who).ID,(lget row who).Term,(lget row who).Vote,(lget row who).Log,(lget row who).Role,(lget row who).Commit,(lget row who).Votes,(lget row who).Next,(lget row who).Have⟩:Node) box1) fun x=>
 if (!decide (x.2.2.Code=0))=true then
  some (false,row,row1,box)
 else
  asrt (((row1++x.2.1).length:Int)*88≤140737488351232) <|
  asrt (0≤who∧who<(row.length:Int)) <|
  asrt (0≤who∧who<(row.length:Int)) <|
  some (true,(lset row who x.1),(row1++x.2.1),box)
theorem clan_game_node_v3_ok (rk rc:Nat) (rn:Bool) (rk1 rc1:Nat) (rn1:Bool) {who box box1 row row1 r} (hF:clan_game_node_v3 who box box1 row row1=some r):Pe Try.prog 33 ⟨[],[(100000,[.row 100000 0,.row 100001 0,.sl 1 (box.map e_str)]),(100001,(c_Mail box1))],[(100000,.q 48 10 0 0 rc rn (row.map e_Node)),(100001,.q 91 9 0 rk1 rc1 rn1 (row1.map e_Mail))],[],[]⟩ [.ptr 100000 0,.i who,.fn 40 [.ptr 100001 0]] (.bool r.1) ⟨[],[(100000,[.row 100000 0,.row 100001 1,.sl 1 (r.2.2.2.map e_str)]),(100001,(c_Mail box1))],[(100000,.q 48 10 0 0 rc rn (r.2.1.map e_Node)),(100001,.q 91 9 1 rk1 rc1 rn1 (r.2.2.1.map e_Mail))],[],[]⟩:=by
 refine PT 46 [.tmp 6] [4] Try.func33 ?_
 intro Q g hfin
 unfold clan_game_node_v3 at hF
 refine LR0 ?_
 obtain ⟨h0,h1,hF⟩:=asrt2 hF
 obtain ⟨x,h2,hF⟩:=oE hF
 refine RJ (.x e_Node h0 (.r e_Node h1 (.q [100001] [] (Pe.ren (clan_game_does_3_ok h2) ⟨[(100000,100001)],[],[],[]⟩) .z))) ?_
 refine LR0 ?_
 refine Nif hF ?_ ?_ <;> intro hb hF
 ·refine LR0 ?_
  cases hF
  exact Wz [(100001,⟨1,true,true,false⟩)] hfin
 ·obtain ⟨h3,hF⟩:=aE hF
  obtain ⟨h4,h5,hF⟩:=asrt2 hF
  refine DJ (.p e_Mail h3 (.x e_Node h4 (.w e_Node h5 x.1 .z))) ?_
  refine LR0 ?_
  cases hF
  exact Wz [] hfin

/- raft.Restart -/
def raft_Restart (x:Node):Option (Int×Int×Int×Int×List Entry×Int×Int×Fault):=
 ob (raft_Check x) fun x1=>
 if (!decide (x1.Code=0))=true then
  some (0,0,0,0,([]:List Entry),0,0,x1)
 else
  ob (raft_own x) fun x2=>
  lt (raft_follow x2.1 x2.2.1 x2.2.2.1 x2.2.2.2.1 x2.2.2.2.2.2.1 x2.2.2.2.2.2.2.1 x2.2.2.2.2.1 x2.2.2.2.2.2.2.2.1 x2.2.2.2.2.2.2.2.2.1 x2.2.2.2.2.2.2.2.2.2) fun x3=>
  some (x3.1,x3.2.1,x3.2.2.1,x3.2.2.2.1,x2.2.2.2.2.1,x3.2.2.2.2.1,0,x1)
theorem raft_Restart_ok {x r} (hF:raft_Restart x=some r):Pe Try.prog 43 (.w []) [.agg (c_Node x)] (.tup [.agg [.i r.1,.i r.2.1,.i r.2.2.1,.i r.2.2.2.1,.row 14 0,.i r.2.2.2.2.2.1,.i r.2.2.2.2.2.2.1,.row 71001 0,.row 71002 0,.row 71003 0],.agg (c_Fault r.2.2.2.2.2.2.2)]) ⟨[],[],[(14,.o 50 2 0 (r.2.2.2.2.1.map e_Entry)),(71001,.z 3 1 0 (([]:List Int).map e_i64)),(71002,.z 3 1 0 (([]:List Int).map e_i64)),(71003,.z 3 1 0 (([]:List Int).map e_i64))],[],[]⟩:=by
 refine PT 24 [.cell 2 48,.cell 3 31] [48,31] Try.func43 ?_
 intro Q g hfin
 unfold raft_Restart at hF
 refine LR0 ?_
 obtain ⟨x1,h0,hF⟩:=oE hF
 refine RJ (.b (raft_Check_ok h0) .z) ?_
 refine LR0 ?_
 refine Nif hF ?_ ?_ <;> intro hb hF
 ·refine VD [] [2,3] [2,3] [] [] [(2,.ptr 2 0),(3,.ptr 3 0)] [(2,[.i 0,.i 0,.i 0,.i 0,.nils,.i 0,.i 0,.nils,.nils,.nils]),(3,(c_Fault x1))] [] [] .nil ?_
  cases hF
  refine Wk_nilrowB 2 4 60000 50 2 rfl rfl rfl rfl rfl ?_
  refine Wk_nilrowB 2 7 60001 3 1 rfl rfl rfl rfl rfl ?_
  refine Wk_nilrowB 2 8 60002 3 1 rfl rfl rfl rfl rfl ?_
  refine Wk_nilrowB 2 9 60003 3 1 rfl rfl rfl rfl rfl ?_
  refine Wk_ren' ⟨[],[(60000,14),(60001,71001),(60002,71002),(60003,71003)],[],[]⟩ rfl ?_
  exact Wz [(14,⟨0,true,false,false⟩)] hfin
 ·obtain ⟨x2,h1,hF⟩:=oE hF
  have p2:=(Pe.ren (raft_own_ok h1) ⟨[(1,14)],[(5,14),(8,20014),(11,40014),(5,60014)],[],[]⟩)
  refine RJ (.e [] [] p2 .z) ?_
  obtain ⟨x3,h3,hF⟩:=lS hF
  have p4:=(Pe.ren (raft_follow_ok 0 0 false 0 0 false 0 0 false 0 0 false h3) ⟨[(100000,14)],[(100000,14),(100001,20014),(100002,40014),(100003,60014)],[],[]⟩)
  refine RJ (.e [14] [14,20014,40014,60014] p4 .z) ?_
  refine LR0 ?_
  refine VD [] [2,3] [2,3] [14] [] [(2,.ptr 2 0),(3,.ptr 3 0)] [(2,[.i x3.1,.i x3.2.1,.i x3.2.2.1,.i x3.2.2.2.1,.row 14 0,.i x3.2.2.2.2.1,.i 0,.nils,.nils,.nils]),(3,(c_Fault x1))] [(14,.o 50 2 0 (x2.2.2.2.2.1.map e_Entry))] [] .nil ?_
  cases hF
  refine Wk_nilrowB 2 7 60004 3 1 rfl rfl rfl rfl rfl ?_
  refine Wk_nilrowB 2 8 60005 3 1 rfl rfl rfl rfl rfl ?_
  refine Wk_nilrowB 2 9 60006 3 1 rfl rfl rfl rfl rfl ?_
  refine Wk_ren' ⟨[],[(60004,71001),(60005,71002),(60006,71003)],[],[]⟩ rfl ?_
  exact Wz [] hfin

/- (*clan.game).does$4 -/
def clan_game_does_4 (x:Node):Option (Int×Int×Int×Int×List Entry×Int×Int×List Int×List Int×List Int×List Mail×Fault):=
 ob (raft_Restart x) fun x1=>
 some (x1.1,x1.2.1,x1.2.2.1,x1.2.2.2.1,x1.2.2.2.2.1,x1.2.2.2.2.2.1,x1.2.2.2.2.2.2.1,([]:List Int),([]:List Int),([]:List Int),([]:List Mail),x1.2.2.2.2.2.2.2)
theorem clan_game_does_4_ok {x r} (hF:clan_game_does_4 x=some r):Pe Try.prog 42 (.w []) [.agg (c_Node x)] (.tup [.agg [.i r.1,.i r.2.1,.i r.2.2.1,.i r.2.2.2.1,.row 9 0,.i r.2.2.2.2.2.1,.i r.2.2.2.2.2.2.1,.row 20009 0,.row 40009 0,.row 60009 0],.sl 9 (r.2.2.2.2.2.2.2.2.2.2.1.map e_Mail),.agg (c_Fault r.2.2.2.2.2.2.2.2.2.2.2)]) ⟨[],[],[(9,.o 50 2 0 (r.2.2.2.2.1.map e_Entry)),(20009,.z 3 1 0 (r.2.2.2.2.2.2.2.1.map e_i64)),(40009,.z 3 1 0 (r.2.2.2.2.2.2.2.2.1.map e_i64)),(60009,.z 3 1 0 (r.2.2.2.2.2.2.2.2.2.1.map e_i64))],[],[]⟩:=by
 refine PT 14 [.cell 2 48,.tmp 3,.cell 4 31] [48,27,31] Try.func42 ?_
 intro Q g hfin
 unfold clan_game_does_4 at hF
 refine LR0 ?_
 obtain ⟨x1,h0,hF⟩:=oE hF
 have p1:=(Pe.ren (raft_Restart_ok h0) ⟨[],[(14,9),(71001,20009),(71002,40009),(71003,60009)],[],[]⟩)
 refine RJ (.e [] [] p1 .z) ?_
 refine LD0 ?_
 cases hF
 exact Wz [] hfin

/- (*clan.game).node -/
def clan_game_node_v5 (who:Int) (box:List (List UInt8)) (row:List Node) (row1:List Mail):Option (Bool×List Node×List Mail×List (List UInt8)):=
 asrt (0≤who∧who<(row.length:Int)) <|
 asrt (0≤who∧who<(row.length:Int)) <|
 ob (raft_Stand (⟨(lget row who).N,(lget row who).ID,(lget row who).Term,(lget row who).Vote,(lget row who).Log,(lget row who).Role,(lget row who).Commit,(lget row who).Votes,(lget row who).Next,(lget row who).Have⟩:Node)) fun x=>
 if (!decide (x.2.2.2.2.2.2.2.2.2.2.2.Code=0))=true then
  some (false,row,row1,box)
 else
  asrt (((row1++x.2.2.2.2.2.2.2.2.2.2.1).length:Int)*88≤140737488351232) <|
  asrt (0≤who∧who<(row.length:Int)) <|
  asrt (0≤who∧who<(row.length:Int)) <|
  lt ((lset row who (⟨x.1,x.2.1,x.2.2.1,x.2.2.2.1,x.2.2.2.2.1,x.2.2.2.2.2.1,x.2.2.2.2.2.2.1,x.2.2.2.2.2.2.2.1,x.2.2.2.2.2.2.2.2.1,x.2.2.2.2.2.2.2.2.2.1⟩:Node))) fun v=>
  some (true,v,(row1++x.2.2.2.2.2.2.2.2.2.2.1),box)
theorem clan_game_node_v5_ok (rk rc:Nat) (rn:Bool) (rk1 rc1:Nat) (rn1:Bool) {who box row row1 r} (hF:clan_game_node_v5 who box row row1=some r):Pe Try.prog 33 ⟨[],[(100000,[.row 100000 0,.row 100001 0,.sl 1 (box.map e_str)])],[(100000,.q 48 10 0 0 rc rn (row.map e_Node)),(100001,.q 91 9 0 rk1 rc1 rn1 (row1.map e_Mail))],[],[]⟩ [.ptr 100000 0,.i who,.fn 34 []] (.bool r.1) ⟨[],[(100000,[.row 100000 0,.row 100001 1,.sl 1 (r.2.2.2.map e_str)])],[(100000,.q 48 10 0 0 rc rn (r.2.1.map e_Node)),(100001,.q 91 9 1 rk1 rc1 rn1 (r.2.2.1.map e_Mail))],[],[]⟩:=by
 refine PT 46 [.tmp 6] [4] Try.func33 ?_
 intro Q g hfin
 unfold clan_game_node_v5 at hF
 refine LR0 ?_
 obtain ⟨h0,h1,hF⟩:=asrt2 hF
 obtain ⟨x,h2,hF⟩:=oE hF
 have p3:=(Pe.ren (raft_Stand_ok h2) ⟨[],[(30,20),(56,20020),(63,40020),(20063,60020)],[],[]⟩)
 refine RJ (.x e_Node h0 (.r e_Node h1 (.e [] [] p3 .z))) ?_
 refine LR0 ?_
 refine Nif hF ?_ ?_ <;> intro hb hF
 ·refine LR0 ?_
  cases hF
  exact Wz [(100001,⟨1,true,true,false⟩)] hfin
 ·obtain ⟨h4,hF⟩:=aE hF
  obtain ⟨h5,h6,hF⟩:=asrt2 hF
  obtain ⟨v,hv,hF⟩:=lS hF
  refine DJ (.p e_Mail h4 (.x e_Node h5 (.wN e_Node h6 hv .z))) ?_
  refine LR0 ?_
  cases hF
  exact Wz [] hfin

/- (*clan.game).does$1 -/
def clan_game_does_1_v1 (x:Node) (box:List (List UInt8)) (row:List Node) (row1:List Mail):Option (Int×Int×Int×Int×List Entry×Int×Int×List Int×List Int×List Int×List Mail×Fault):=
 asrt (0≤(0:Int)∧0<(box.length:Int)) <|
 ob (raft_Propose x (lget box 0)) fun x1=>
 some (x1.1,x1.2.1,x1.2.2.1,x1.2.2.2.1,x1.2.2.2.2.1,x1.2.2.2.2.2.1,x1.2.2.2.2.2.2.1,x1.2.2.2.2.2.2.2.1,x1.2.2.2.2.2.2.2.2.1,x1.2.2.2.2.2.2.2.2.2.1,([]:List Mail),x1.2.2.2.2.2.2.2.2.2.2)
theorem clan_game_does_1_v1_ok (rk rc:Nat) (rn:Bool) (rk1 rc1:Nat) (rn1:Bool) {x box row row1 r} (hF:clan_game_does_1_v1 x box row row1=some r):Pe Try.prog 35 ⟨[],[(100000,[.ptr 100001 0]),(100001,[.row 100000 0,.row 100001 0,.sl 1 (box.map e_str)])],[(100000,.q 48 10 0 rk rc rn (row.map e_Node)),(100001,.q 91 9 0 rk1 rc1 rn1 (row1.map e_Mail))],[],[]⟩ [.agg (c_Node x),.ptr 100000 0] (.tup [.agg [.i r.1,.i r.2.1,.i r.2.2.1,.i r.2.2.2.1,.row 16 0,.i r.2.2.2.2.2.1,.i r.2.2.2.2.2.2.1,.row 20016 0,.row 40016 0,.row 60016 0],.sl 9 (r.2.2.2.2.2.2.2.2.2.2.1.map e_Mail),.agg (c_Fault r.2.2.2.2.2.2.2.2.2.2.2)]) ⟨[],[(100000,[.ptr 100001 0]),(100001,[.row 100000 0,.row 100001 0,.sl 1 (box.map e_str)])],[(100000,.q 48 10 0 rk rc rn (row.map e_Node)),(100001,.q 91 9 0 rk1 rc1 rn1 (row1.map e_Mail)),(16,.o 50 2 0 (r.2.2.2.2.1.map e_Entry)),(20016,.o 3 1 0 (r.2.2.2.2.2.2.2.1.map e_i64)),(40016,.o 3 1 0 (r.2.2.2.2.2.2.2.2.1.map e_i64)),(60016,.o 3 1 0 (r.2.2.2.2.2.2.2.2.2.1.map e_i64))],[],[]⟩:=by
 refine PT 21 [.cell 3 48,.tmp 4,.cell 5 31] [48,27,31] Try.func35 ?_
 intro Q g hfin
 unfold clan_game_does_1_v1 at hF
 refine LR0 ?_
 obtain ⟨h0,hF⟩:=aE hF
 obtain ⟨x1,h1,hF⟩:=oE hF
 have p2:=(Pe.ren (raft_Propose_ok h1) ⟨[],[(36,16),(20036,20016),(40036,40016),(60036,60016)],[],[]⟩)
 refine DJ (.i e_str h0 (.e [] [] p2 .z)) ?_
 refine LD0 ?_
 cases hF
 exact Wz [] hfin

/- (*clan.game).node -/
def clan_game_node_v6 (who:Int) (box:List (List UInt8)) (row:List Node) (row1:List Mail):Option (Bool×List Node×List Mail×List (List UInt8)):=
 asrt (0≤who∧who<(row.length:Int)) <|
 asrt (0≤who∧who<(row.length:Int)) <|
 ob (clan_game_does_1_v1 (⟨(lget row who).N,(lget row who).ID,(lget row who).Term,(lget row who).Vote,(lget row who).Log,(lget row who).Role,(lget row who).Commit,(lget row who).Votes,(lget row who).Next,(lget row who).Have⟩:Node) box row row1) fun x=>
 if (!decide (x.2.2.2.2.2.2.2.2.2.2.2.Code=0))=true then
  some (false,row,row1,box)
 else
  asrt (((row1++x.2.2.2.2.2.2.2.2.2.2.1).length:Int)*88≤140737488351232) <|
  asrt (0≤who∧who<(row.length:Int)) <|
  asrt (0≤who∧who<(row.length:Int)) <|
  lt ((lset row who (⟨x.1,x.2.1,x.2.2.1,x.2.2.2.1,x.2.2.2.2.1,x.2.2.2.2.2.1,x.2.2.2.2.2.2.1,x.2.2.2.2.2.2.2.1,x.2.2.2.2.2.2.2.2.1,x.2.2.2.2.2.2.2.2.2.1⟩:Node))) fun v=>
  some (true,v,(row1++x.2.2.2.2.2.2.2.2.2.2.1),box)
theorem clan_game_node_v6_ok (rk rc:Nat) (rn:Bool) (rk1 rc1:Nat) (rn1:Bool) {who box row row1 r} (hF:clan_game_node_v6 who box row row1=some r):Pe Try.prog 33 ⟨[],[(100000,[.row 100000 0,.row 100001 0,.sl 1 (box.map e_str)]),(100001,[.ptr 100000 0])],[(100000,.q 48 10 0 0 rc rn (row.map e_Node)),(100001,.q 91 9 0 rk1 rc1 rn1 (row1.map e_Mail))],[],[]⟩ [.ptr 100000 0,.i who,.fn 35 [.ptr 100001 0]] (.bool r.1) ⟨[],[(100000,[.row 100000 0,.row 100001 1,.sl 1 (r.2.2.2.map e_str)]),(100001,[.ptr 100000 0])],[(100000,.q 48 10 0 0 rc rn (r.2.1.map e_Node)),(100001,.q 91 9 1 rk1 rc1 rn1 (r.2.2.1.map e_Mail))],[],[]⟩:=by
 refine PT 46 [.tmp 6] [4] Try.func33 ?_
 intro Q g hfin
 unfold clan_game_node_v6 at hF
 refine LR0 ?_
 obtain ⟨h0,h1,hF⟩:=asrt2 hF
 obtain ⟨x,h2,hF⟩:=oE hF
 have p3:=(Pe.ren (clan_game_does_1_v1_ok 0 rc rn rk1 rc1 rn1 h2) ⟨[(100000,100001)],[(16,20),(20016,20020),(40016,40020),(60016,60020)],[],[]⟩)
 refine RJ (.x e_Node h0 (.r e_Node h1 (.e [100001,100000] [100000,100001] p3 .z))) ?_
 refine LR0 ?_
 refine Nif hF ?_ ?_ <;> intro hb hF
 ·refine LR0 ?_
  cases hF
  exact Wz [(100001,⟨1,true,true,false⟩)] hfin
 ·obtain ⟨h4,hF⟩:=aE hF
  obtain ⟨h5,h6,hF⟩:=asrt2 hF
  obtain ⟨v,hv,hF⟩:=lS hF
  refine DJ (.p e_Mail h4 (.x e_Node h5 (.wN e_Node h6 hv .z))) ?_
  refine LR0 ?_
  cases hF
  exact Wz [] hfin

/- (*clan.game).node -/
def clan_game_node_v7 (who:Int) (box:List (List UInt8)) (row:List Node) (row1:List Mail):Option (Bool×List Node×List Mail×List (List UInt8)):=
 asrt (0≤who∧who<(row.length:Int)) <|
 asrt (0≤who∧who<(row.length:Int)) <|
 ob (clan_game_does_2 (⟨(lget row who).N,(lget row who).ID,(lget row who).Term,(lget row who).Vote,(lget row who).Log,(lget row who).Role,(lget row who).Commit,(lget row who).Votes,(lget row who).Next,(lget row who).Have⟩:Node)) fun x=>
 if (!decide (x.2.2.Code=0))=true then
  some (false,row,row1,box)
 else
  asrt (((row1++x.2.1).length:Int)*88≤140737488351232) <|
  asrt (0≤who∧who<(row.length:Int)) <|
  asrt (0≤who∧who<(row.length:Int)) <|
  some (true,(lset row who x.1),(row1++x.2.1),box)
theorem clan_game_node_v7_ok (rk rc:Nat) (rn:Bool) (rk1 rc1:Nat) (rn1:Bool) {who box row row1 r} (hF:clan_game_node_v7 who box row row1=some r):Pe Try.prog 33 ⟨[],[(100000,[.row 100000 0,.row 100001 0,.sl 1 (box.map e_str)])],[(100000,.q 48 10 0 0 rc rn (row.map e_Node)),(100001,.q 91 9 0 rk1 rc1 rn1 (row1.map e_Mail))],[],[]⟩ [.ptr 100000 0,.i who,.fn 37 []] (.bool r.1) ⟨[],[(100000,[.row 100000 0,.row 100001 1,.sl 1 (r.2.2.2.map e_str)])],[(100000,.q 48 10 0 0 rc rn (r.2.1.map e_Node)),(100001,.q 91 9 1 rk1 rc1 rn1 (r.2.2.1.map e_Mail))],[],[]⟩:=by
 refine PT 46 [.tmp 6] [4] Try.func33 ?_
 intro Q g hfin
 unfold clan_game_node_v7 at hF
 refine LR0 ?_
 obtain ⟨h0,h1,hF⟩:=asrt2 hF
 obtain ⟨x,h2,hF⟩:=oE hF
 have p3:=(Pe.ren (clan_game_does_2_ok h2) ⟨[],[(9,20)],[],[]⟩)
 refine RJ (.x e_Node h0 (.r e_Node h1 (.e [] [] p3 .z))) ?_
 refine LR0 ?_
 refine Nif hF ?_ ?_ <;> intro hb hF
 ·refine LR0 ?_
  cases hF
  exact Wz [(100001,⟨1,true,true,false⟩)] hfin
 ·obtain ⟨h4,hF⟩:=aE hF
  obtain ⟨h5,h6,hF⟩:=asrt2 hF
  refine DJ (.p e_Mail h4 (.x e_Node h5 (.w e_Node h6 x.1 .z))) ?_
  refine LR0 ?_
  cases hF
  exact Wz [] hfin

/- slices.Delete[[]api.Mail,api.Mail] -/
def slices_Delete_api_Mail_api_Mail_v2 (i j:Int) (row:List Mail):Option (List Mail):=
 asrt ((0:Int)≤i∧i≤j∧j≤(row.length:Int)∧(row.length:Int)≤(row.length:Int)) <|
 if (decide (i=j))=true then
  some row
 else
  asrt (0≤i∧i≤(row.length:Int)) <|
  asrt (0≤j∧j≤(row.length:Int)) <|
  asrt (((row.take i.toNat++((row.drop j.toNat).take (row.length - j.toNat))).length:Int)*88≤140737488351232) <|
  asrt (i.toNat≤row.length) <|
  asrt (j.toNat+(row.length - j.toNat)≤row.length) <|
  asrt (0≤((row.take i.toNat++((row.drop j.toNat).take (row.length - j.toNat))).length:Int)∧((row.take i.toNat++((row.drop j.toNat).take (row.length - j.toNat))).length:Int)≤(row.length:Int)∧((row.length:Int).toNat≤(row.take i.toNat++((row.drop j.toNat).take (row.length - j.toNat))).length∨(row.length:Int).toNat≤((row.map e_Mail).length))) <|
  lt ((lclear (row.take i.toNat++((row.drop j.toNat).take (row.length - j.toNat))) (((row.take i.toNat++((row.drop j.toNat).take (row.length - j.toNat))).length:Int).toNat) ((row.length:Int).toNat - ((row.take i.toNat++((row.drop j.toNat).take (row.length - j.toNat))).length:Int).toNat) ((⟨0,0,0,0,0,0,0,([]:List Entry),false⟩:Mail):Mail))) fun (v:List Mail)=>
  some v
theorem slices_Delete_api_Mail_api_Mail_v2_ok (rk rc:Nat) (rn:Bool) {i j row r} (hF:slices_Delete_api_Mail_api_Mail_v2 i j row=some r):Pe Try.prog 39 (.w [(100000,.q 91 9 0 0 rc rn (row.map e_Mail))]) [.row 100000 0,.i i,.i j] (.row 100000 1) ⟨[],[],[(100000,.o 91 9 1 (r.map e_Mail))],[],[]⟩:=by
 refine PT 33 [.tmp 6] [27] Try.func39 ?_
 intro Q g hfin
 unfold slices_Delete_api_Mail_api_Mail_v2 at hF
 refine LR0 ?_
 obtain ⟨h0,hF⟩:=aE hF
 refine RJ (.l e_Mail row (.g (s3_ok e_Mail h0) .z)) ?_
 refine LR0 ?_
 refine Nif hF ?_ ?_ <;> intro hb hF
 ·refine LR0 ?_
  cases hF
  exact Wz [(100000,⟨1,false,false,false⟩)] hfin
 ·refine RJ (.l e_Mail row .z) ?_
  obtain ⟨h1,h2,h3,h4,hF⟩:=asrt4 hF
  obtain ⟨h5,hF⟩:=aE hF
  refine DJ (.a (.vw i.toNat) (.g (vw01_ok (cm:=rc) e_Mail h1) (.a (.vw (row.length - j.toNat)) (.g (vw10_ok e_Mail h2) (.a (.xs ((row.take i.toNat++((row.drop j.toNat).take (row.length - j.toNat))).map e_Mail)) (.g (tapv_ok e_Mail row i.toNat row j.toNat (row.length - j.toNat)) (.g (appl_ok e_Mail h3) (.g (tk_ok e_Mail h4) (.g (srcv_ok e_Mail h5) .z))))))))) ?_
  obtain ⟨h7,hF⟩:=aE hF
  refine NRL ((lclear (row.take i.toNat++((row.drop j.toNat).take (row.length - j.toNat))) (((row.take i.toNat++((row.drop j.toNat).take (row.length - j.toNat))).length:Int).toNat) ((row.length:Int).toNat - ((row.take i.toNat++((row.drop j.toNat).take (row.length - j.toNat))).length:Int).toNat) ((⟨0,0,0,0,0,0,0,([]:List Entry),false⟩:Mail):Mail))) (fun v:List Mail=>([],[],[(100000,⟨91,9,1,0,(row.map e_Mail).length,false,0,[],(v.map e_Mail)⟩)],[])) [.nat ((row.take i.toNat++((row.drop j.toNat).take (row.length - j.toNat))).length:Int),.vw ((row.length:Int).toNat - ((row.take i.toNat++((row.drop j.toNat).take (row.length - j.toNat))).length:Int).toNat),.xs ((lclear (row.take i.toNat++((row.drop j.toNat).take (row.length - j.toNat))) (((row.take i.toNat++((row.drop j.toNat).take (row.length - j.toNat))).length:Int).toNat) ((row.length:Int).toNat - ((row.take i.toNat++((row.drop j.toNat).take (row.length - j.toNat))).length:Int).toNat) ((⟨0,0,0,0,0,0,0,([]:List Entry),false⟩:Mail):Mail)).map e_Mail)] [0] [] [100000] [] (hc (len_ok e_Mail (row.take i.toNat++((row.drop j.toNat).take (row.length - j.toNat)))) (hc (vw11c_ok e_Mail h7) (hc (clr_ok e_Mail (row.take i.toNat++((row.drop j.toNat).take (row.length - j.toNat))) (((row.take i.toNat++((row.drop j.toNat).take (row.length - j.toNat))).length:Int).toNat) ((row.length:Int).toNat - ((row.take i.toNat++((row.drop j.toNat).take (row.length - j.toNat))).length:Int).toNat) ((⟨0,0,0,0,0,0,0,([]:List Entry),false⟩:Mail):Mail)) (hc (Nat.zero_le (((row.take i.toNat++((row.drop j.toNat).take (row.length - j.toNat))).length:Int).toNat)) .nil)))) (fun v hv=>?_)
  have hF:=lt_elim hF hv
  refine LR0 ?_
  cases hF
  exact Wz [(100000,⟨1,false,true,false⟩)] hfin

/- (*clan.game).node -/
def clan_game_node_v8 (who:Int) (box:List (List UInt8)) (row:List Node) (row1:List Mail):Option (Bool×List Node×List Mail×List (List UInt8)):=
 asrt (0≤who∧who<(row.length:Int)) <|
 asrt (0≤who∧who<(row.length:Int)) <|
 ob (clan_game_does_4 (⟨(lget row who).N,(lget row who).ID,(lget row who).Term,(lget row who).Vote,(lget row who).Log,(lget row who).Role,(lget row who).Commit,(lget row who).Votes,(lget row who).Next,(lget row who).Have⟩:Node)) fun x=>
 if (!decide (x.2.2.2.2.2.2.2.2.2.2.2.Code=0))=true then
  some (false,row,row1,box)
 else
  asrt (((row1++x.2.2.2.2.2.2.2.2.2.2.1).length:Int)*88≤140737488351232) <|
  asrt (0≤who∧who<(row.length:Int)) <|
  asrt (0≤who∧who<(row.length:Int)) <|
  lt ((lset row who (⟨x.1,x.2.1,x.2.2.1,x.2.2.2.1,x.2.2.2.2.1,x.2.2.2.2.2.1,x.2.2.2.2.2.2.1,x.2.2.2.2.2.2.2.1,x.2.2.2.2.2.2.2.2.1,x.2.2.2.2.2.2.2.2.2.1⟩:Node))) fun v=>
  some (true,v,(row1++x.2.2.2.2.2.2.2.2.2.2.1),box)
theorem clan_game_node_v8_ok (rk rc:Nat) (rn:Bool) (rk1 rc1:Nat) (rn1:Bool) {who box row row1 r} (hF:clan_game_node_v8 who box row row1=some r):Pe Try.prog 33 ⟨[],[(100000,[.row 100000 0,.row 100001 0,.sl 1 (box.map e_str)])],[(100000,.q 48 10 0 0 rc rn (row.map e_Node)),(100001,.q 91 9 0 rk1 rc1 rn1 (row1.map e_Mail))],[],[]⟩ [.ptr 100000 0,.i who,.fn 42 []] (.bool r.1) ⟨[],[(100000,[.row 100000 0,.row 100001 1,.sl 1 (r.2.2.2.map e_str)])],[(100000,.q 48 10 0 0 rc rn (r.2.1.map e_Node)),(100001,.q 91 9 1 rk1 rc1 rn1 (r.2.2.1.map e_Mail))],[],[]⟩:=by
 refine PT 46 [.tmp 6] [4] Try.func33 ?_
 intro Q g hfin
 unfold clan_game_node_v8 at hF
 refine LR0 ?_
 obtain ⟨h0,h1,hF⟩:=asrt2 hF
 obtain ⟨x,h2,hF⟩:=oE hF
 have p3:=(Pe.ren (clan_game_does_4_ok h2) ⟨[],[(9,20),(20009,20020),(40009,40020),(60009,60020)],[],[]⟩)
 refine RJ (.x e_Node h0 (.r e_Node h1 (.e [] [] p3 .z))) ?_
 refine LR0 ?_
 refine Nif hF ?_ ?_ <;> intro hb hF
 ·refine LR0 ?_
  cases hF
  exact Wz [(100001,⟨1,true,true,false⟩)] hfin
 ·obtain ⟨h4,hF⟩:=aE hF
  obtain ⟨h5,h6,hF⟩:=asrt2 hF
  obtain ⟨v,hv,hF⟩:=lS hF
  refine DJ (.p e_Mail h4 (.x e_Node h5 (.wN e_Node h6 hv .z))) ?_
  refine LR0 ?_
  cases hF
  exact Wz [] hfin

/- (*clan.game).does -/
def clan_game_does_v1_J2 (v2:List Node×List Mail×List (List UInt8)):Option (Int×List Node×List Mail×List (List UInt8)):=
 if (decide (200<(v2.2.1.length:Int)))=true then
  some (9,v2.1,v2.2.1,v2.2.2)
 else
  some (0,v2.1,v2.2.1,v2.2.2)
def clan_game_does_v1_J1 (d:Deed) (box:List (List UInt8)) (row:List Node) (row1:List Mail) (v1:Unit):Option (Int×List Node×List Mail×List (List UInt8)):=
 if (decide (d.Kind=0))=true then
  ob (clan_game_node_v5 d.Who box row row1) fun x=>
  clan_game_does_v1_J2 (x.2.1,x.2.2.1,x.2.2.2)
 else
  if (decide (d.Kind=1))=true then
   if (decide ((box.length:Int)=0))=true then
    some (6,row,row1,box)
   else
    ob (clan_game_node_v6 d.Who box row row1) fun x1=>
    if x1.1=true then
     asrt (0≤(1:Int)∧(1:Int)≤(x1.2.2.2.length:Int)) <|
     clan_game_does_v1_J2 (x1.2.1,x1.2.2.1,(ldrop x1.2.2.2 1))
    else
     clan_game_does_v1_J2 (x1.2.1,x1.2.2.1,x1.2.2.2)
  else
   if (decide (d.Kind=2))=true then
    ob (clan_game_node_v7 d.Who box row row1) fun x2=>
    clan_game_does_v1_J2 (x2.2.1,x2.2.2.1,x2.2.2.2)
   else
    if (decide (d.Kind=3))=true then
     asrt (0≤d.N∧d.N<(row1.length:Int)) <|
     asrt (0≤d.N∧d.N<(row1.length:Int)) <|
     ob (slices_Delete_api_Mail_api_Mail_v2 d.N (w64 (d.N+1)) row1) fun x3=>
     ob (clan_game_node_v3 ((lget row1 d.N).To) box (⟨(lget row1 d.N).Kind,(lget row1 d.N).From,(lget row1 d.N).To,(lget row1 d.N).Term,(lget row1 d.N).A,(lget row1 d.N).B,(lget row1 d.N).C0,(lget row1 d.N).Entries,(lget row1 d.N).Ok⟩:Mail) row x3) fun x4=>
     clan_game_does_v1_J2 (x4.2.1,x4.2.2.1,x4.2.2.2)
    else
     if (decide (d.Kind=4))=true then
      asrt (0≤d.N∧d.N<(row1.length:Int)) <|
      asrt (0≤d.N∧d.N<(row1.length:Int)) <|
      asrt (((row1++[(⟨(lget row1 d.N).Kind,(lget row1 d.N).From,(lget row1 d.N).To,(lget row1 d.N).Term,(lget row1 d.N).A,(lget row1 d.N).B,(lget row1 d.N).C0,(lget row1 d.N).Entries,(lget row1 d.N).Ok⟩:Mail)]).length:Int)*88≤140737488351232) <|
      lt ((row1++[(⟨(lget row1 d.N).Kind,(lget row1 d.N).From,(lget row1 d.N).To,(lget row1 d.N).Term,(lget row1 d.N).A,(lget row1 d.N).B,(lget row1 d.N).C0,(lget row1 d.N).Entries,(lget row1 d.N).Ok⟩:Mail)])) fun v3=>
      clan_game_does_v1_J2 (row,v3,box)
     else
      if (decide (d.Kind=5))=true then
       ob (slices_Delete_api_Mail_api_Mail_v2 d.N (w64 (d.N+1)) row1) fun x5=>
       clan_game_does_v1_J2 (row,x5,box)
      else
       if (decide (d.Kind=6))=true then
        ob (clan_game_node_v8 d.Who box row row1) fun x6=>
        clan_game_does_v1_J2 (x6.2.1,x6.2.2.1,x6.2.2.2)
       else
        clan_game_does_v1_J2 (row,row1,box)
def clan_game_does_v1 (d:Deed) (box:List (List UInt8)) (row:List Node) (row1:List Mail):Option (Int×List Node×List Mail×List (List UInt8)):=
 ob (
  if (decide (d.Kind=0))=true then
   some (decide (d.Kind=0))
  else
   if (decide (d.Kind=1))=true then
    some (decide (d.Kind=1))
   else
    if (decide (d.Kind=2))=true then
     some (decide (d.Kind=2))
    else
     some (decide (d.Kind=6))) fun v=>
 if v=true then
  if ((decide (d.Who<0))||(decide ((row.length:Int)≤d.Who)))=true then
   some (3,row,row1,box)
  else
   clan_game_does_v1_J1 d box row row1 ()
 else
  ob (
   if (decide (d.Kind=3))=true then
    some (decide (d.Kind=3))
   else
    if (decide (d.Kind=4))=true then
     some (decide (d.Kind=4))
    else
     some (decide (d.Kind=5))) fun v4=>
  if v4=true then
   if ((decide (d.N<0))||(decide ((row1.length:Int)≤d.N)))=true then
    some (3,row,row1,box)
   else
    clan_game_does_v1_J1 d box row row1 ()
  else
   some (4,row,row1,box)
theorem clan_game_does_v1_ok (rk rc:Nat) (rn:Bool) (rk1 rc1:Nat) (rn1:Bool) {d box row row1 r} (hF:clan_game_does_v1 d box row row1=some r):Pe Try.prog 20 ⟨[],[(100000,[.row 100000 0,.row 100001 0,.sl 1 (box.map e_str)])],[(100000,.q 48 10 0 0 rc rn (row.map e_Node)),(100001,.q 91 9 0 0 rc1 rn1 (row1.map e_Mail))],[],[]⟩ [.ptr 100000 0,.agg (c_Deed d)] (.i r.1) ⟨[],[(100000,[.row 100000 0,.row 100001 1,.sl 1 (r.2.2.2.map e_str)])],[(100000,.q 48 10 0 0 rc rn (r.2.1.map e_Node)),(100001,.o 91 9 1 (r.2.2.1.map e_Mail))],[],[]⟩:=by
 refine PT 163 [.tmp 4] [3] Try.func20 ?_
 intro Q g hfin
 unfold clan_game_does_v1 at hF
 refine LR0 ?_
 refine LR0 ?_
 refine Nblk ?_
 refine LR0 ?_
 obtain ⟨v,hv,hF⟩:=oE hF
 refine NmT (fun Z=>Z.up [2,3,7,8] [2,3,100000] [100000,100001] [] [(8,.bool v)] [] [] []) ?_ ?_
 ·have hF:=hv
  refine Nif hF ?_ ?_ <;> intro hb hF
  ·cases hF
   exact met' []
  ·refine LR0 ?_
   refine Nif hF ?_ ?_ <;> intro hb hF
   ·cases hF
    exact met' []
   ·refine LR0 ?_
    refine Nif hF ?_ ?_ <;> intro hb hF
    ·cases hF
     exact met' []
    ·refine LR0 ?_
     cases hF
     exact met' []
 ·refine NmS (fun v1=>clan_game_does_v1_J1 d box row row1 v1=some r) (fun Z v1=>Z.up [2,3] [2,3,100000] [100000,100001] [] [] [] [] []) ?_ ?_
  ·refine Nif hF ?_ ?_ <;> intro hb hF
   ·refine DJ (.a (.nat (row.length:Int)) (.g (fun (_:(!(decide (d.Who<0)))=true)=>(len_ok e_Node row)) .z)) ?_
    refine Nif hF ?_ ?_ <;> intro hb hF
    ·refine LR0 ?_
     cases hF
     exact Wz [(100001,⟨1,false,false,false⟩)] hfin
    ·exact metQ () [] hF
   ·refine LR0 ?_
    obtain ⟨v4,hv,hF⟩:=oE hF
    refine NmT (fun Z=>Z.up [2,3,27] [2,3,100000] [100000,100001] [] [(27,.bool v4)] [] [] []) ?_ ?_
    ·have hF:=hv
     refine Nif hF ?_ ?_ <;> intro hb hF
     ·cases hF
      exact met' []
     ·refine LR0 ?_
      refine Nif hF ?_ ?_ <;> intro hb hF
      ·cases hF
       exact met' []
      ·refine LR0 ?_
       cases hF
       exact met' []
    ·refine Nif hF ?_ ?_ <;> intro hb hF
     ·refine DJ (.a (.nat (row1.length:Int)) (.g (fun (_:(!(decide (d.N<0)))=true)=>(len_ok e_Mail row1)) .z)) ?_
      refine Nif hF ?_ ?_ <;> intro hb hF
      ·refine LR0 ?_
       cases hF
       exact Wz [(100001,⟨1,false,false,false⟩)] hfin
      ·exact metQ () [] hF
     ·refine LR0 ?_
      cases hF
      exact Wz [(100001,⟨1,false,false,false⟩)] hfin
  ·intro v1 hF
   unfold clan_game_does_v1_J1 at hF
   refine LR0 ?_
   refine Nblk ?_
   refine LR0 ?_
   refine NmS (fun v2=>clan_game_does_v1_J2 v2=some r) (fun Z v2=>Z.up [2] [2,100000] [100000,100001] [] [] [(100000,[.row 100000 0,.row 100001 1,.sl 1 (v2.2.2.map e_str)])] [(100000,.q 48 10 0 0 rc rn (v2.1.map e_Node)),(100001,.o 91 9 1 (v2.2.1.map e_Mail))] []) ?_ ?_
   ·refine Nif hF ?_ ?_ <;> intro hb hF
    ·obtain ⟨x,h0,hF⟩:=oE hF
     have p1:=(Pe.ren (clan_game_node_v5_ok 0 rc rn 0 rc1 rn1 h0) ⟨[],[],[],[]⟩)
     refine RJ (.e [100000] [100000,100001] p1 .z) ?_
     exact metQ (x.2.1,x.2.2.1,x.2.2.2) [(100001,⟨1,false,false,false⟩)] hF
    ·refine LR0 ?_
     refine Nif hF ?_ ?_ <;> intro hb hF
     ·refine RJ (.l e_str box .z) ?_
      refine Nif hF ?_ ?_ <;> intro hb hF
      ·refine LR0 ?_
       cases hF
       exact Wz [(100001,⟨1,false,false,false⟩)] hfin
      ·obtain ⟨x1,h2,hF⟩:=oE hF
       have p3:=(Pe.ren (clan_game_node_v6_ok 0 rc rn 0 rc1 rn1 h2) ⟨[(100001,2)],[],[],[]⟩)
       refine RJ (.e [100000,2] [100000,100001] p3 .z) ?_
       refine Nif hF ?_ ?_ <;> intro hb hF
       ·obtain ⟨h4,hF⟩:=aE hF
        refine DJ (.s10 e_str h4 .z) ?_
        exact metQ (x1.2.1,x1.2.2.1,(ldrop x1.2.2.2 1)) [(100001,⟨1,false,false,false⟩)] hF
       ·exact metQ (x1.2.1,x1.2.2.1,x1.2.2.2) [(100001,⟨1,false,false,false⟩)] hF
     ·refine LR0 ?_
      refine Nif hF ?_ ?_ <;> intro hb hF
      ·obtain ⟨x2,h5,hF⟩:=oE hF
       have p6:=(Pe.ren (clan_game_node_v7_ok 0 rc rn 0 rc1 rn1 h5) ⟨[],[],[],[]⟩)
       refine RJ (.e [100000] [100000,100001] p6 .z) ?_
       exact metQ (x2.2.1,x2.2.2.1,x2.2.2.2) [(100001,⟨1,false,false,false⟩)] hF
      ·refine LR0 ?_
       refine Nif hF ?_ ?_ <;> intro hb hF
       ·obtain ⟨h7,hF⟩:=aE hF
        obtain ⟨h8,hF⟩:=aE hF
        refine DJ (.x e_Mail h7 (.r e_Mail h8 .z)) ?_
        obtain ⟨x3,h9,hF⟩:=oE hF
        have p10:=(Pe.ren (slices_Delete_api_Mail_api_Mail_v2_ok 0 rc1 rn1 h9) ⟨[],[(100000,100001)],[],[]⟩)
        refine DJ (.e [] [100001] p10 .z) ?_
        obtain ⟨x4,h11,hF⟩:=oE hF
        have p12:=(Pe.ren (clan_game_node_v3_ok 0 rc rn 0 0 false h11) ⟨[(100001,5)],[],[],[(100001,1)]⟩)
        refine RJ (.e [100000,5] [100000,100001] p12 .z) ?_
        exact metQ (x4.2.1,x4.2.2.1,x4.2.2.2) [(100001,⟨1,true,true,false⟩)] hF
       ·refine LR0 ?_
        refine Nif hF ?_ ?_ <;> intro hb hF
        ·obtain ⟨h13,hF⟩:=aE hF
         obtain ⟨h14,h15,hF⟩:=asrt2 hF
         obtain ⟨v3,hv,hF⟩:=lS hF
         refine DJ (.x e_Mail h13 (.r e_Mail h14 (.a (.sealed) (.pN e_Mail hv h15 .z)))) ?_
         exact metQ (row,v3,box) [(100001,⟨1,false,false,false⟩)] hF
        ·refine LR0 ?_
         refine Nif hF ?_ ?_ <;> intro hb hF
         ·obtain ⟨x5,h16,hF⟩:=oE hF
          have p17:=(Pe.ren (slices_Delete_api_Mail_api_Mail_v2_ok 0 rc1 rn1 h16) ⟨[],[(100000,100001)],[],[]⟩)
          refine DJ (.e [] [100001] p17 .z) ?_
          exact metQ (row,x5,box) [] hF
         ·refine LR0 ?_
          refine Nif hF ?_ ?_ <;> intro hb hF
          ·obtain ⟨x6,h18,hF⟩:=oE hF
           have p19:=(Pe.ren (clan_game_node_v8_ok 0 rc rn 0 rc1 rn1 h18) ⟨[],[],[],[]⟩)
           refine RJ (.e [100000] [100000,100001] p19 .z) ?_
           exact metQ (x6.2.1,x6.2.2.1,x6.2.2.2) [(100001,⟨1,false,false,false⟩)] hF
          ·exact metQ (row,row1,box) [(100001,⟨1,false,false,false⟩)] hF
   ·intro v2 hF
    unfold clan_game_does_v1_J2 at hF
    refine RJ (.l e_Mail v2.2.1 .z) ?_
    refine Nif hF ?_ ?_ <;> intro hb hF
    ·refine LR0 ?_
     cases hF
     exact Wz [] hfin
    ·refine LR0 ?_
     cases hF
     exact Wz [] hfin

/- slices.Clone[[]api.Mail,api.Mail] -/
def slices_Clone_api_Mail_api_Mail (s0:List Mail):Option (List Mail):=
 ubO (decide (s0.length=0)) (
  some ([]:List Mail)) (
  asrt (((([]:List Mail)++s0).length:Int)*88≤140737488351232) <|
  some (([]:List Mail)++s0))
theorem slices_Clone_api_Mail_api_Mail_ok {s0 r} (hF:slices_Clone_api_Mail_api_Mail s0=some r):Pe Try.prog 44 (.w []) [.sl 9 (s0.map e_Mail)] (.row 5 0) ⟨[],[],[(5,.o 91 9 0 (r.map e_Mail))],[],[]⟩:=by
 refine PT 8 [.tmp 2] [27] Try.func44 ?_
 intro Q g hfin
 unfold slices_Clone_api_Mail_api_Mail at hF
 refine LR0 ?_
 refine NR [.bo (decide (s0.length=0))] [0,4] [] [] [(0,.sl 9 (s0.map e_Mail)),(4,.ub (decide (s0.length=0)) true)] (hc (ubn_ok e_Mail s0) .nil) ?_
 refine Wk_ub 4 rfl fun b hb1 hb2=>?_
 refine Nsplit rfl (fun hb=>?_) (fun hb=>?_)
 ·have hb:=hb1 hb
  have hF:=(ubO_elim hF).1 hb
  refine NR [] [2] [] [] [(2,.nils)] .nil ?_
  cases hF
  refine Wk_nilrow 2 60000 91 9 rfl rfl rfl ?_
  refine Wk_ren' ⟨[],[(60000,5)],[],[]⟩ rfl ?_
  exact Wz [(5,⟨0,true,false,false⟩)] hfin
 ·have hF:=(ubO_elim hF).2
  obtain ⟨h0,hF⟩:=aE hF
  refine RJ (.p e_Mail h0 .z) ?_
  cases hF
  exact Wz [(5,⟨0,true,true,false⟩)] hfin

/- clan.own -/
def clan_own_J1 (v:List Mail):Option (List Mail):=
 some v
def clan_own_B1 (x:List Mail) (v1:List Mail×Int):Option ((List Mail×Int)⊕(List Mail)):=
 if (decide (v1.2<(x.length:Int)))=true then
  asrt (0≤v1.2∧v1.2<(v1.1.length:Int)) <|
  asrt (0≤v1.2∧v1.2<(v1.1.length:Int)) <|
  ob (slices_Clone_api_Entry_api_Entry ((lget v1.1 v1.2).Entries)) fun x1=>
  asrt (0≤v1.2∧v1.2<(v1.1.length:Int)) <|
  asrt (0≤v1.2∧v1.2<(v1.1.length:Int)) <|
  lt ((lset v1.1 v1.2 (⟨(lget v1.1 v1.2).Kind,(lget v1.1 v1.2).From,(lget v1.1 v1.2).To,(lget v1.1 v1.2).Term,(lget v1.1 v1.2).A,(lget v1.1 v1.2).B,(lget v1.1 v1.2).C0,x1,(lget v1.1 v1.2).Ok⟩:Mail))) fun v2=>
  some (Sum.inl (v2,w64 (v1.2+1)))
 else
  inrO (clan_own_J1 v1.1)
def clan_own_L1 (x:List Mail) (v0:List Mail×Int):Option (List Mail):=
 loopO (fun y=>clan_own_B1 x y) v0
def clan_own (l:List Mail):Option (List Mail):=
 ob (slices_Clone_api_Mail_api_Mail l) fun x=>
 clan_own_L1 x (x,0)
theorem clan_own_ok {l r} (hF:clan_own l=some r):Pe Try.prog 21 (.w []) [.sl 9 (l.map e_Mail)] (.row 6 0) ⟨[],[],[(6,.o 91 9 0 (r.map e_Mail))],[],[]⟩:=by
 refine PT 24 [.tmp 2] [27] Try.func21 ?_
 intro Q g hfin
 unfold clan_own at hF
 refine LR0 ?_
 obtain ⟨x,h0,hF⟩:=oE hF
 have p1:=(Pe.ren (slices_Clone_api_Mail_api_Mail_ok h0) ⟨[],[(5,6)],[],[]⟩)
 refine RJ (.e [] [] p1 .z) ?_
 refine RJ (.l e_Mail x .z) ?_
 refine NmS (fun v=>clan_own_J1 v=some r) (fun Z v=>Z.up [3] [] [6] [] [] [] [(6,.o 91 9 0 (v.map e_Mail))] []) ?_ ?_
 ·refine Nblk ?_
  unfold clan_own_L1 at hF
  refine Nits hF [] (fun Z v1=>Z.up [3,8,9] [] [6] [] [(9,.i v1.2)] [] [(6,.o 91 9 0 (v1.1.map e_Mail))] []) ?_
  intro n1 v1 y1 hF ih1 dn1
  unfold clan_own_B1 at hF
  refine LR0 ?_
  refine Nif hF ?_ ?_ <;> intro hb hF
  ·refine Nblk ?_
   refine LR0 ?_
   obtain ⟨h2,h3,hF⟩:=asrt2 hF
   obtain ⟨x1,h4,hF⟩:=oE hF
   have p5:=(Pe.ren (slices_Clone_api_Entry_api_Entry_ok h4) ⟨[],[(5,19)],[],[]⟩)
   obtain ⟨h6,h7,hF⟩:=asrt2 hF
   obtain ⟨v2,hv,hF⟩:=lS hF
   refine RJ (.x e_Mail h2 (.r e_Mail h3 (.e [] [] p5 (.x e_Mail h6 (.wN e_Mail h7 hv .z))))) ?_
   refine LR0 ?_
   exact Nrnq [] hF ih1
  ·refine Nexit rfl ?_
   have hF:=inrO_done hF dn1
   exact metQ v1.1 [] hF
 ·intro v hF
  unfold clan_own_J1 at hF
  refine LR0 ?_
  cases hF
  exact Wz [] hfin

/- clan.Play -/
def clan_Play_v1_J2 (v1:List Node×List Mail×List (List UInt8)):Option (Clan×Fault):=
 ob (clan_own v1.2.1) fun x3=>
 some ((⟨v1.1,x3⟩:Clan),(⟨0,0⟩:Fault))
def clan_Play_v1_B1 (deeds:List Deed) (v2:List Node×List Mail×List (List UInt8)×Int):Option ((List Node×List Mail×List (List UInt8)×Int)⊕(Clan×Fault)):=
 if (decide (v2.2.2.2<(deeds.length:Int)))=true then
  asrt (0≤v2.2.2.2∧v2.2.2.2<(deeds.length:Int)) <|
  ob (clan_game_does_v1 (⟨(lget deeds v2.2.2.2).Kind,(lget deeds v2.2.2.2).Who,(lget deeds v2.2.2.2).N⟩:Deed) v2.2.2.1 v2.1 v2.2.1) fun x4=>
  if (!decide (x4.1=0))=true then
   lt (clan_fault x4.1 v2.2.2.2) fun x5=>
   some (Sum.inr ((⟨([]:List Node),([]:List Mail)⟩:Clan),x5))
  else
   some (Sum.inl (x4.2.1,x4.2.2.1,x4.2.2.2,w64 (v2.2.2.2+1)))
 else
  inrO (clan_Play_v1_J2 (v2.1,v2.2.1,v2.2.2.1))
def clan_Play_v1_L1 (deeds:List Deed) (v0:List Node×List Mail×List (List UInt8)×Int):Option (Clan×Fault):=
 loopO (fun y=>clan_Play_v1_B1 deeds y) v0
def clan_Play_v1_J1 (texts:List (List UInt8)) (deeds:List Deed) (v:List Node):Option (Clan×Fault):=
 clan_Play_v1_L1 deeds (v,([]:List Mail),texts,0)
def clan_Play_v1_B2 (num:Int) (texts:List (List UInt8)) (deeds:List Deed) (v3:List Node×Int):Option ((List Node×Int)⊕(Clan×Fault)):=
 if (decide (v3.2<num))=true then
  asrt (((v3.1++[(⟨num,v3.2,0,0,([]:List Entry),0,0,([]:List Int),([]:List Int),([]:List Int)⟩:Node)]).length:Int)*144≤140737488351232) <|
  lt ((v3.1++[(⟨num,v3.2,0,0,([]:List Entry),0,0,([]:List Int),([]:List Int),([]:List Int)⟩:Node)])) fun (v4:List Node)=>
  some (Sum.inl (v4,w64 (v3.2+1)))
 else
  inrO (clan_Play_v1_J1 texts deeds v3.1)
def clan_Play_v1_L2 (num:Int) (texts:List (List UInt8)) (deeds:List Deed) (v0:List Node×Int):Option (Clan×Fault):=
 loopO (fun y=>clan_Play_v1_B2 num texts deeds y) v0
def clan_Play_v1 (num:Int) (texts:List (List UInt8)) (deeds:List Deed):Option (Clan×Fault):=
 if ((decide (num<1))||(decide (7<num)))=true then
  lt (clan_fault 3 (-1)) fun x=>
  some ((⟨([]:List Node),([]:List Mail)⟩:Clan),x)
 else
  if (decide (2000<(deeds.length:Int)))=true then
   lt (clan_fault 2 (-1)) fun x1=>
   some ((⟨([]:List Node),([]:List Mail)⟩:Clan),x1)
  else
   if (decide (100<(texts.length:Int)))=true then
    lt (clan_fault 2 (-2)) fun x2=>
    some ((⟨([]:List Node),([]:List Mail)⟩:Clan),x2)
   else
    clan_Play_v1_L2 num texts deeds (([]:List Node),0)
theorem clan_Play_v1_ok {num texts deeds r} (hF:clan_Play_v1 num texts deeds=some r):Pe Try.prog 9 S.none [.i num,.sl 1 (texts.map e_str),.sl 3 (deeds.map e_Deed)] (.tup [.agg (c_Clan r.1),.agg (c_Fault r.2)]) S.none:=by
 refine PT 76 [.cell 6 29,.cell 7 31] [29,31] Try.func9 ?_
 intro Q g hfin
 unfold clan_Play_v1 at hF
 refine LR0 ?_
 refine Nblk ?_
 refine LR0 ?_
 refine Nif hF ?_ ?_ <;> intro hb hF
 ·obtain ⟨x,h0,hF⟩:=lS hF
  refine RJ (.b (clan_fault_ok h0) .z) ?_
  cases hF
  exact Wz [] hfin
 ·refine RJ (.l e_Deed deeds .z) ?_
  refine Nif hF ?_ ?_ <;> intro hb hF
  ·obtain ⟨x1,h1,hF⟩:=lS hF
   refine RJ (.b (clan_fault_ok h1) .z) ?_
   cases hF
   exact Wz [] hfin
  ·refine RJ (.l e_str texts .z) ?_
   refine Nif hF ?_ ?_ <;> intro hb hF
   ·obtain ⟨x2,h2,hF⟩:=lS hF
    refine RJ (.b (clan_fault_ok h2) .z) ?_
    cases hF
    exact Wz [] hfin
   ·refine LR0 ?_
    refine VR [] [0,2,6,7,8,36,37] [6,7,8] [] [] [(0,.i num),(2,.sl 3 (deeds.map e_Deed)),(6,.ptr 6 0),(7,.ptr 7 0),(8,.ptr 8 0),(36,.i num),(37,.i 0)] [(6,[.nils,.nils]),(7,[.i 0,.i 0]),(8,[.nils,.nils,.sl 1 (texts.map e_str)])] [] [] .nil ?_
    refine NmS (fun v=>clan_Play_v1_J1 texts deeds v=some r) (fun Z v=>Z.up [2,6,7,8] [6,7,8] [47] [] [] [(8,[.row 47 0,.nils,.sl 1 (texts.map e_str)])] [(47,.z 48 10 0 (v.map e_Node))] []) ?_ ?_
    ·refine Nblk ?_
     unfold clan_Play_v1_L2 at hF
     refine Wk_nilrowB 8 0 60001 48 10 rfl rfl rfl rfl rfl ?_
     refine Wk_trim (fs:=[0,2,6,7,8,36,37]) (bs:=[6,7,8]) (rs:=[60001]) (ms:=[]) (aa:=[]) (nv:=[]) rfl ?_
     refine Wk_ren' ⟨[],[(60001,47)],[],[]⟩ rfl ?_
     refine Nitr hF [] (fun v3=>⟨[(0,.i num),(2,.sl 3 (deeds.map e_Deed)),(6,.ptr 6 0),(7,.ptr 7 0),(8,.ptr 8 0),(36,.i num),(37,.i v3.2)],[(6,[.nils,.nils]),(7,[.i 0,.i 0]),(8,[.row 47 0,.nils,.sl 1 (texts.map e_str)])],[(47,.z 48 10 0 (v3.1.map e_Node))],[],[]⟩) ?_
     intro n1 v3 y1 hF ih1 dn1
     unfold clan_Play_v1_B2 at hF
     refine LR0 ?_
     refine Nif hF ?_ ?_ <;> intro hb hF
     ·refine Nblk ?_
      refine LR0 ?_
      obtain ⟨h9,hF⟩:=aE hF
      obtain ⟨v4,hv,hF⟩:=lS hF
      refine RJ (.a (.sealed) (.pN e_Node hv h9 .z)) ?_
      refine LR0 ?_
      exact Nrnq [(47,⟨0,true,true,false⟩)] hF ih1
     ·refine Nexit rfl ?_
      have hF:=inrO_done hF dn1
      exact metQ v3.1 [] hF
    ·intro v hF
     unfold clan_Play_v1_J1 at hF
     refine VR [.nat (deeds.length:Int)] [6,7,8,51,52,53] [6,7,8] [47] [] [(6,.ptr 6 0),(7,.ptr 7 0),(8,.ptr 8 0),(51,.sl 3 (deeds.map e_Deed)),(52,.i (deeds.length:Int)),(53,.i 0)] [(6,[.nils,.nils]),(7,[.i 0,.i 0]),(8,[.row 47 0,.nils,.sl 1 (texts.map e_str)])] [(47,.z 48 10 0 (v.map e_Node))] [] (hc (len_ok e_Deed deeds) .nil) ?_
     refine NmS (fun v1=>clan_Play_v1_J2 v1=some r) (fun Z v1=>Z.up [6,7,8] [6,7,8] [47,59] [] [] [(8,[.row 47 0,.row 59 0,.sl 1 (v1.2.2.map e_str)])] [(47,.z 48 10 0 (v1.1.map e_Node)),(59,.o 91 9 0 (v1.2.1.map e_Mail))] []) ?_ ?_
     ·refine Nblk ?_
      unfold clan_Play_v1_L1 at hF
      refine Wk_nilrowB 8 1 60000 91 9 rfl rfl rfl rfl rfl ?_
      refine Wk_trim (fs:=[6,7,8,51,52,53]) (bs:=[6,7,8]) (rs:=[47,60000]) (ms:=[]) (aa:=[]) (nv:=[]) rfl ?_
      refine Wk_ren' ⟨[],[(60000,59)],[],[]⟩ rfl ?_
      refine Nitr hF [(59,⟨0,true,false,false⟩)] (fun v2=>⟨[(6,.ptr 6 0),(7,.ptr 7 0),(8,.ptr 8 0),(51,.sl 3 (deeds.map e_Deed)),(52,.i (deeds.length:Int)),(53,.i v2.2.2.2)],[(6,[.nils,.nils]),(7,[.i 0,.i 0]),(8,[.row 47 0,.row 59 0,.sl 1 (v2.2.2.1.map e_str)])],[(47,.z 48 10 0 (v2.1.map e_Node)),(59,.o 91 9 0 (v2.2.1.map e_Mail))],[],[]⟩) ?_
      intro n1 v2 y1 hF ih1 dn1
      unfold clan_Play_v1_B1 at hF
      refine LR0 ?_
      refine Nif hF ?_ ?_ <;> intro hb hF
      ·refine Nblk ?_
       obtain ⟨h5,hF⟩:=aE hF
       refine RJ (.i e_Deed h5 .z) ?_
       obtain ⟨x4,h6,hF⟩:=oE hF
       have p7:=(Pe.ren (clan_game_does_v1_ok 0 0 true 0 0 false h6) ⟨[(100000,8)],[(100000,47),(100001,59)],[],[]⟩)
       refine RJ (.e [8] [47,59] p7 .z) ?_
       refine LR0 ?_
       refine Nif hF ?_ ?_ <;> intro hb hF
       ·obtain ⟨x5,h8,hF⟩:=lS hF
        refine RJ (.b (clan_fault_ok h8) .z) ?_
        have hF:=ret_done hF dn1
        cases hF
        exact Wz [] hfin
       ·refine LR0 ?_
        exact Nrnq [(59,⟨0,true,true,false⟩)] hF ih1
      ·refine Nexit rfl ?_
       have hF:=inrO_done hF dn1
       exact metQ (v2.1,v2.2.1,v2.2.2.1) [] hF
     ·intro v1 hF
      unfold clan_Play_v1_J2 at hF
      obtain ⟨x3,h3,hF⟩:=oE hF
      have p4:=(Pe.ren (clan_own_ok h3) ⟨[],[(6,70)],[],[]⟩)
      refine RJ (.e [] [] p4 .z) ?_
      refine LR0 ?_
      cases hF
      exact Wz [] hfin

/- clan.Good -/
def clan_Good_v1_J2 (v1:List (List UInt8)):Option (List (List UInt8)×Fault):=
 some (v1,(⟨0,0⟩:Fault))
def clan_Good_v1_B1 (v:Node) (v2:List (List UInt8)×Int):Option ((List (List UInt8)×Int)⊕(List (List UInt8)×Fault)):=
 if (decide (v2.2<((ltake v.Log v.Commit).length:Int)))=true then
  asrt (0≤v2.2∧v2.2<((ltake v.Log v.Commit).length:Int)) <|
  asrt (((v2.1++([(lget (ltake v.Log v.Commit) v2.2).Text]:List (List UInt8))).length:Int)*16≤140737488351232) <|
  lt ((v2.1++([(lget (ltake v.Log v.Commit) v2.2).Text]:List (List UInt8)))) fun v3=>
  some (Sum.inl (v3,w64 (v2.2+1)))
 else
  inrO (clan_Good_v1_J2 v2.1)
def clan_Good_v1_L1 (v:Node) (v0:List (List UInt8)×Int):Option (List (List UInt8)×Fault):=
 loopO (fun y=>clan_Good_v1_B1 v y) v0
def clan_Good_v1_J1 (v:Node):Option (List (List UInt8)×Fault):=
 asrt (0≤v.Commit∧v.Commit≤(v.Log.length:Int)) <|
 clan_Good_v1_L1 v (([]:List (List UInt8)),0)
def clan_Good_v1_B2 (c:Clan) (v4:Node×Int):Option ((Node×Int)⊕(List (List UInt8)×Fault)):=
 if (decide (v4.2<(c.Nodes.length:Int)))=true then
  asrt (0≤v4.2∧v4.2<(c.Nodes.length:Int)) <|
  ob (raft_Check (⟨(lget c.Nodes v4.2).N,(lget c.Nodes v4.2).ID,(lget c.Nodes v4.2).Term,(lget c.Nodes v4.2).Vote,(lget c.Nodes v4.2).Log,(lget c.Nodes v4.2).Role,(lget c.Nodes v4.2).Commit,(lget c.Nodes v4.2).Votes,(lget c.Nodes v4.2).Next,(lget c.Nodes v4.2).Have⟩:Node)) fun x1=>
  if (!decide (x1.Code=0))=true then
   lt (clan_fault x1.Code v4.2) fun x2=>
   some (Sum.inr (([]:List (List UInt8)),x2))
  else
   ob (
    if (decide (v4.1.Commit<((lget c.Nodes v4.2).Commit)))=true then
     some (⟨(lget c.Nodes v4.2).N,(lget c.Nodes v4.2).ID,(lget c.Nodes v4.2).Term,(lget c.Nodes v4.2).Vote,(lget c.Nodes v4.2).Log,(lget c.Nodes v4.2).Role,(lget c.Nodes v4.2).Commit,(lget c.Nodes v4.2).Votes,(lget c.Nodes v4.2).Next,(lget c.Nodes v4.2).Have⟩:Node)
    else
     some v4.1) fun v5=>
   some (Sum.inl (v5,w64 (v4.2+1)))
 else
  inrO (clan_Good_v1_J1 v4.1)
def clan_Good_v1_L2 (c:Clan) (v0:Node×Int):Option (List (List UInt8)×Fault):=
 loopO (fun y=>clan_Good_v1_B2 c y) v0
def clan_Good_v1 (c:Clan):Option (List (List UInt8)×Fault):=
 if (decide (7<(c.Nodes.length:Int)))=true then
  lt (clan_fault 2 (-1)) fun x=>
  some (([]:List (List UInt8)),x)
 else
  clan_Good_v1_L2 c ((⟨0,0,0,0,([]:List Entry),0,0,([]:List Int),([]:List Int),([]:List Int)⟩:Node),0)
theorem clan_Good_v1_ok {c r} (hF:clan_Good_v1 c=some r):Pe Try.prog 13 S.none [.agg (c_Clan c)] (.tup [.sl 1 (r.1.map e_str),.agg (c_Fault r.2)]) S.none:=by
 refine PT 58 [.tmp 2,.cell 3 31] [22,31] Try.func13 ?_
 intro Q g hfin
 unfold clan_Good_v1 at hF
 refine LR0 ?_
 refine RJ (.l e_Node c.Nodes .z) ?_
 refine Nif hF ?_ ?_ <;> intro hb hF
 ·obtain ⟨x,h0,hF⟩:=lS hF
  refine RJ (.b (clan_fault_ok h0) .z) ?_
  cases hF
  exact Wz [] hfin
 ·refine LR0 ?_
  refine VR [.nat (c.Nodes.length:Int)] [3,4,17,18,19] [3,4] [] [] [(3,.ptr 3 0),(4,.ptr 4 0),(17,.sl 10 (c.Nodes.map e_Node)),(18,.i (c.Nodes.length:Int)),(19,.i 0)] [(3,[.i 0,.i 0]),(4,[.i 0,.i 0,.i 0,.i 0,.nils,.i 0,.i 0,.nils,.nils,.nils])] [] [] (hc (len_ok e_Node c.Nodes) .nil) ?_
  refine NmS (fun v=>clan_Good_v1_J1 v=some r) (fun Z v=>Z.up [3,4] [3,4] [] [] [] [(4,(c_Node v))] [] []) ?_ ?_
  ·refine Nblk ?_
   unfold clan_Good_v1_L2 at hF
   refine Wk_coeB 4 [.i 0,.i 0,.i 0,.i 0,.sl 2 (([]:List Entry).map e_Entry),.i 0,.i 0,.sl 1 (([]:List Int).map e_i64),.sl 1 (([]:List Int).map e_i64),.sl 1 (([]:List Int).map e_i64)] rfl (.cons (CoeS.refl _) (.cons (CoeS.refl _) (.cons (CoeS.refl _) (.cons (CoeS.refl _) (.cons (CoeS.nils 2) (.cons (CoeS.refl _) (.cons (CoeS.refl _) (.cons (CoeS.nils 1) (.cons (CoeS.nils 1) (.cons (CoeS.nils 1) .nil)))))))))) ?_
   refine Nitr hF [] (fun v4=>⟨[(3,.ptr 3 0),(4,.ptr 4 0),(17,.sl 10 (c.Nodes.map e_Node)),(18,.i (c.Nodes.length:Int)),(19,.i v4.2)],[(3,[.i 0,.i 0]),(4,(c_Node v4.1))],[],[],[]⟩) ?_
   intro n1 v4 y1 hF ih1 dn1
   unfold clan_Good_v1_B2 at hF
   refine LR0 ?_
   refine Nif hF ?_ ?_ <;> intro hb hF
   ·refine Nblk ?_
    obtain ⟨h4,hF⟩:=aE hF
    refine RJ (.i e_Node h4 .z) ?_
    obtain ⟨x1,h5,hF⟩:=oE hF
    refine RJ (.b (raft_Check_ok h5) .z) ?_
    refine LR0 ?_
    refine Nif hF ?_ ?_ <;> intro hb hF
    ·obtain ⟨x2,h6,hF⟩:=lS hF
     refine RJ (.b (clan_fault_ok h6) .z) ?_
     have hF:=ret_done hF dn1
     cases hF
     exact Wz [] hfin
    ·refine LR0 ?_
     obtain ⟨v5,hv,hF⟩:=oE hF
     refine NmT (fun Z=>Z.up [3,4,17,18,19] [3,4] [] [] [] [(4,(c_Node v5))] [] []) ?_ ?_
     ·have hF:=hv
      refine Nif hF ?_ ?_ <;> intro hb hF
      ·refine LR0 ?_
       cases hF
       exact met' []
      ·cases hF
       exact met' []
     ·refine LR0 ?_
      exact Nrnq [] hF ih1
   ·refine Nexit rfl ?_
    have hF:=inrO_done hF dn1
    exact metQ v4.1 [] hF
  ·intro v hF
   unfold clan_Good_v1_J1 at hF
   refine LR0 ?_
   obtain ⟨h1,hF⟩:=aE hF
   refine VR [.xs ((ltake v.Log v.Commit).map e_Entry),.nat ((ltake v.Log v.Commit).length:Int)] [3,8,44,45,46] [3] [] [] [(3,.ptr 3 0),(8,.nils),(44,.sl 2 ((ltake v.Log v.Commit).map e_Entry)),(45,.i ((ltake v.Log v.Commit).length:Int)),(46,.i 0)] [(3,[.i 0,.i 0])] [] [] (hc (sl01_ok e_Entry h1) (hc (len_ok e_Entry (ltake v.Log v.Commit)) .nil)) ?_
   refine NmS (fun v1=>clan_Good_v1_J2 v1=some r) (fun Z v1=>Z.up [3,8] [3] [54] [] [(8,.row 54 0)] [] [(54,.z 9 1 0 (v1.map e_str))] []) ?_ ?_
   ·refine Nblk ?_
    unfold clan_Good_v1_L1 at hF
    refine Wk_nilrow 8 60000 9 1 rfl rfl rfl ?_
    refine Wk_trim (fs:=[3,8,44,45,46]) (bs:=[3]) (rs:=[60000]) (ms:=[]) (aa:=[]) (nv:=[]) rfl ?_
    refine Wk_ren' ⟨[],[(60000,54)],[],[]⟩ rfl ?_
    refine Nitr hF [] (fun v2=>⟨[(3,.ptr 3 0),(8,.row 54 0),(44,.sl 2 ((ltake v.Log v.Commit).map e_Entry)),(45,.i ((ltake v.Log v.Commit).length:Int)),(46,.i v2.2)],[(3,[.i 0,.i 0])],[(54,.z 9 1 0 (v2.1.map e_str))],[],[]⟩) ?_
    intro n1 v2 y1 hF ih1 dn1
    unfold clan_Good_v1_B1 at hF
    refine LR0 ?_
    refine Nif hF ?_ ?_ <;> intro hb hF
    ·refine Nblk ?_
     obtain ⟨h2,hF⟩:=aE hF
     refine RJ (.i e_Entry h2 .z) ?_
     obtain ⟨h3,hF⟩:=aE hF
     obtain ⟨v3,hv,hF⟩:=lS hF
     refine RJ (.a (.sealed) (.pN e_str hv h3 .z)) ?_
     refine LR0 ?_
     exact Nrnq [(54,⟨0,true,true,false⟩)] hF ih1
    ·refine Nexit rfl ?_
     have hF:=inrO_done hF dn1
     exact metQ v2.1 [] hF
   ·intro v1 hF
    unfold clan_Good_v1_J2 at hF
    refine LR0 ?_
    cases hF
    exact Wz [] hfin

/- tabularyref.SameTexts -/
def R_SameTexts_J1 (v:Unit):Option Bool:=
 some true
def R_SameTexts_B1 (a0 b:List (List UInt8)) (v1:Int):Option (Int⊕Bool):=
 if (decide (v1<(a0.length:Int)))=true then
  asrt (0≤v1∧v1<(a0.length:Int)) <|
  asrt (0≤v1∧v1<(b.length:Int)) <|
  if (!decide ((lget a0 v1)=(lget b v1)))=true then
   some (Sum.inr false)
  else
   some (Sum.inl (w64 (v1+1)))
 else
  inrO (R_SameTexts_J1 ())
def R_SameTexts_L1 (a0 b:List (List UInt8)) (v0:Int):Option Bool:=
 loopO (fun y=>R_SameTexts_B1 a0 b y) v0
def R_SameTexts (a0 b:List (List UInt8)):Option Bool:=
 if (!decide ((a0.length:Int)=(b.length:Int)))=true then
  some false
 else
  R_SameTexts_L1 a0 b 0
theorem R_SameTexts_ok {a0 b r} (hF:R_SameTexts a0 b=some r):Pe Try.prog 10 S.none [.sl 1 (a0.map e_str),.sl 1 (b.map e_str)] (.bool r) S.none:=by
 refine PT 26 [.tmp 4] [4] Try.func10 ?_
 intro Q g hfin
 unfold R_SameTexts at hF
 refine LR0 ?_
 refine RJ (.l e_str a0 (.l e_str b .z)) ?_
 refine Nif hF ?_ ?_ <;> intro hb hF
 ·refine LR0 ?_
  cases hF
  exact Wz [] hfin
 ·refine LR0 ?_
  refine NmQ (fun v=>R_SameTexts_J1 v=some r) (fun v=>(.w [])) ?_ ?_
  ·refine Nblk ?_
   unfold R_SameTexts_L1 at hF
   refine Nits hF [] (fun Z v1=>Z.up [0,1,5] [] [] [] [(5,.i v1)] [] [] []) ?_
   intro n1 v1 y1 hF ih1 dn1
   unfold R_SameTexts_B1 at hF
   refine RJ (.l e_str a0 .z) ?_
   refine Nif hF ?_ ?_ <;> intro hb hF
   ·refine Nblk ?_
    obtain ⟨h0,h1,hF⟩:=asrt2 hF
    refine DJ (.i e_str h0 (.i e_str h1 .z)) ?_
    refine Nif hF ?_ ?_ <;> intro hb hF
    ·refine LR0 ?_
     have hF:=ret_done hF dn1
     cases hF
     exact Wz [] hfin
    ·refine LR0 ?_
     exact Nrnq [] hF ih1
   ·refine Nexit rfl ?_
    have hF:=inrO_done hF dn1
    exact metQ () [] hF
  ·intro v hF
   unfold R_SameTexts_J1 at hF
   refine LR0 ?_
   cases hF
   exact Wz [] hfin

/- tabularylaw.clanBegun -/
def law_clanBegun  : Option Bool:=
 ob (clan_Play_v1 1 ([([97]:List UInt8)]:List (List UInt8)) [(⟨0,0,0⟩:Deed),(⟨1,0,0⟩:Deed)]) fun x=>
 ob (clan_Good_v1 x.1) fun x1=>
 ob (if ((decide (x.2.Code=0))&&(decide (x1.2.Code=0)))=true then (R_SameTexts x1.1 ([([97]:List UInt8)]:List (List UInt8))) else some default) fun x2=>
 some (((decide (x.2.Code=0))&&(decide (x1.2.Code=0)))&&x2)
theorem law_clanBegun_ok { r} (hF:law_clanBegun  = some r):Pe Try.prog 7 S.none [] (.bool r) S.none:=by
 refine PT 31 [.tmp 0] [4] Try.func7 ?_
 intro Q g hfin
 unfold law_clanBegun at hF
 refine LR0 ?_
 obtain ⟨x,h0,hF⟩:=oE hF
 refine RJ (.a (.sealed) (.a (.sealed) (.c (clan_Play_v1_ok h0) .z))) ?_
 obtain ⟨x1,h1,hF⟩:=oE hF
 refine RJ (.c (clan_Good_v1_ok h1) .z) ?_
 obtain ⟨x2,h2,hF⟩:=oE hF
 refine RJ (.a (.sealed) (.a (.callB (.bool x2)) (.g (fun (ga0:((decide (x.2.Code=0))&&(decide (x1.2.Code=0)))=true)=>(R_SameTexts_ok (ite_t h2 ga0))) .z))) ?_
 cases hF
 exact Wz [] hfin

/- tabularyref.F -/
def R_F (code at0:Int):Fault:=
 (⟨code,at0⟩:Fault)
theorem R_F_ok {code at0 r} (hF:R_F code at0=r):Pe Try.prog 15 S.none [.i code,.i at0] (.agg (c_Fault r)) S.none:=by
 refine PT 8 [.cell 4 31] [31] Try.func15 ?_
 intro Q g hfin
 unfold R_F at hF
 refine LR0 ?_
 refine LR0 ?_
 cases hF
 exact Wz [] hfin

/- tabularyref.Begin -/
def R_Begin_J1 (v:List Node):Option (List Node×Int):=
 some (v,0)
def R_Begin_B1 (num:Int) (v1:List Node×Int):Option ((List Node×Int)⊕(List Node×Int)):=
 if (decide (v1.2<num))=true then
  asrt (((v1.1++[(⟨num,v1.2,0,0,([]:List Entry),0,0,([]:List Int),([]:List Int),([]:List Int)⟩:Node)]).length:Int)*144≤140737488351232) <|
  lt ((v1.1++[(⟨num,v1.2,0,0,([]:List Entry),0,0,([]:List Int),([]:List Int),([]:List Int)⟩:Node)])) fun (v2:List Node)=>
  some (Sum.inl (v2,w64 (v1.2+1)))
 else
  inrO (R_Begin_J1 v1.1)
def R_Begin_L1 (num:Int) (v0:List Node×Int):Option (List Node×Int):=
 loopO (fun y=>R_Begin_B1 num y) v0
def R_Begin (num:Int):Option (List Node×Int):=
 R_Begin_L1 num (([]:List Node),0)
theorem R_Begin_ok {num r} (hF:R_Begin num=some r):Pe Try.prog 22 (.w []) [.i num] (.agg [.row 17 0,.row 71001 0,.i r.2]) ⟨[],[],[(17,.z 48 10 0 (r.1.map e_Node)),(71001,.z 91 9 0 (([]:List Mail).map e_Mail))],[],[]⟩:=by
 refine PT 21 [.cell 2 42] [42] Try.func22 ?_
 intro Q g hfin
 unfold R_Begin at hF
 refine LR0 ?_
 refine LR0 ?_
 refine VR [] [0,2,3,4] [2,3] [] [] [(0,.i num),(2,.ptr 2 0),(3,.ptr 3 0),(4,.i 0)] [(2,[.nils,.nils,.i 0]),(3,[.nils,.nils,.i 0])] [] [] .nil ?_
 refine NmS (fun v=>R_Begin_J1 v=some r) (fun Z v=>Z.up [2,3] [2,3] [17] [] [] [(3,[.row 17 0,.nils,.i 0])] [(17,.z 48 10 0 (v.map e_Node))] []) ?_ ?_
 ·refine Nblk ?_
  unfold R_Begin_L1 at hF
  refine Wk_nilrowB 3 0 60001 48 10 rfl rfl rfl rfl rfl ?_
  refine Wk_trim (fs:=[0,2,3,4]) (bs:=[2,3]) (rs:=[60001]) (ms:=[]) (aa:=[]) (nv:=[]) rfl ?_
  refine Wk_ren' ⟨[],[(60001,17)],[],[]⟩ rfl ?_
  refine Nitr hF [] (fun v1=>⟨[(0,.i num),(2,.ptr 2 0),(3,.ptr 3 0),(4,.i v1.2)],[(2,[.nils,.nils,.i 0]),(3,[.row 17 0,.nils,.i 0])],[(17,.z 48 10 0 (v1.1.map e_Node))],[],[]⟩) ?_
  intro n1 v1 y1 hF ih1 dn1
  unfold R_Begin_B1 at hF
  refine LR0 ?_
  refine Nif hF ?_ ?_ <;> intro hb hF
  ·refine Nblk ?_
   obtain ⟨h0,hF⟩:=aE hF
   obtain ⟨v2,hv,hF⟩:=lS hF
   refine RJ (.a (.sealed) (.pN e_Node hv h0 .z)) ?_
   refine LR0 ?_
   exact Nrnq [(17,⟨0,true,true,false⟩)] hF ih1
  ·refine Nexit rfl ?_
   have hF:=inrO_done hF dn1
   exact metQ v1.1 [] hF
 ·intro v hF
  unfold R_Begin_J1 at hF
  refine VR [] [2] [2] [17] [] [(2,.ptr 2 0)] [(2,[.row 17 0,.nils,.i 0])] [(17,.z 48 10 0 (v.map e_Node))] [] .nil ?_
  cases hF
  refine Wk_nilrowB 2 1 60000 91 9 rfl rfl rfl rfl rfl ?_
  refine Wk_ren' ⟨[],[(60000,71001)],[],[]⟩ rfl ?_
  exact Wz [] hfin

/- tabularyref.Num -/
def R_Num (num:Int):Bool:=
 (decide (0≤num))&&(decide (num≤1000000000))
theorem R_Num_ok {num r} (hF:R_Num num=r):Pe Try.prog 28 S.none [.i num] (.bool r) S.none:=by
 refine PT 9 [.tmp 2] [4] Try.func28 ?_
 intro Q g hfin
 unfold R_Num at hF
 refine LR0 ?_
 refine LR0 ?_
 cases hF
 exact Wz [] hfin

/- tabularyref.LogFault -/
def R_LogFault_J1 (v:Unit):Option Fault:=
 some (⟨0,0⟩:Fault)
def R_LogFault_B1 (l:List Entry) (v1:Int):Option (Int⊕Fault):=
 if (decide (v1<(l.length:Int)))=true then
  asrt (0≤v1∧v1<(l.length:Int)) <|
  asrt ((!(decide (((lget l v1).Term)<1)))=true→0≤v1∧v1<(l.length:Int)) <|
  if ((decide (((lget l v1).Term)<1))||(decide (1000000000<((lget l v1).Term))))=true then
   lt (R_F 3 v1) fun x1=>
   some (Sum.inr x1)
  else
   asrt ((decide (0<v1))=true→0≤v1∧v1<(l.length:Int)) <|
   asrt ((decide (0<v1))=true→0≤w64 (v1 - 1)∧w64 (v1 - 1)<(l.length:Int)) <|
   if ((decide (0<v1))&&(decide (((lget l v1).Term)<((lget l (w64 (v1 - 1))).Term))))=true then
    lt (R_F 11 v1) fun x2=>
    some (Sum.inr x2)
   else
    asrt (0≤v1∧v1<(l.length:Int)) <|
    if (decide (200<(((lget l v1).Text).length:Int)))=true then
     lt (R_F 8 v1) fun x3=>
     some (Sum.inr x3)
    else
     some (Sum.inl (w64 (v1+1)))
 else
  inrO (R_LogFault_J1 ())
def R_LogFault_L1 (l:List Entry) (v0:Int):Option Fault:=
 loopO (fun y=>R_LogFault_B1 l y) v0
def R_LogFault (l:List Entry):Option Fault:=
 if (decide (100<(l.length:Int)))=true then
  lt (R_F 2 (-1)) fun x=>
  some x
 else
  R_LogFault_L1 l 0
theorem R_LogFault_ok {l r} (hF:R_LogFault l=some r):Pe Try.prog 29 S.none [.sl 2 (l.map e_Entry)] (.agg (c_Fault r)) S.none:=by
 refine PT 58 [.cell 2 31] [31] Try.func29 ?_
 intro Q g hfin
 unfold R_LogFault at hF
 refine LR0 ?_
 refine RJ (.l e_Entry l .z) ?_
 refine Nif hF ?_ ?_ <;> intro hb hF
 ·obtain ⟨x,h0,hF⟩:=lS hF
  refine RJ (.b (R_F_ok h0) .z) ?_
  cases hF
  exact Wz [] hfin
 ·refine LR0 ?_
  refine NmS (fun v=>R_LogFault_J1 v=some r) (fun Z v=>Z.up [2] [2] [] [] [] [] [] []) ?_ ?_
  ·refine Nblk ?_
   unfold R_LogFault_L1 at hF
   refine Nits hF [] (fun Z v1=>Z.up [0,2,3] [2] [] [] [(3,.i v1)] [] [] []) ?_
   intro n1 v1 y1 hF ih1 dn1
   unfold R_LogFault_B1 at hF
   refine RJ (.l e_Entry l .z) ?_
   refine Nif hF ?_ ?_ <;> intro hb hF
   ·refine Nblk ?_
    obtain ⟨h1,h2,hF⟩:=asrt2 hF
    refine RJ (.i e_Entry h1 (.a (.av (e_Entry (lget l v1))) (.g (fun (ga0:(!(decide (((lget l v1).Term)<1)))=true)=>(idx_ok e_Entry (h2 ga0))) .z))) ?_
    refine Nif hF ?_ ?_ <;> intro hb hF
    ·obtain ⟨x1,h3,hF⟩:=lS hF
     refine RJ (.b (R_F_ok h3) .z) ?_
     have hF:=ret_done hF dn1
     cases hF
     exact Wz [] hfin
    ·obtain ⟨h4,hF⟩:=aE hF
     obtain ⟨h5,hF⟩:=aE hF
     refine DJ (.a (.av (e_Entry (lget l v1))) (.g (fun (ga0:(decide (0<v1))=true)=>(idx_ok e_Entry (h4 ga0))) (.a (.av (e_Entry (lget l (w64 (v1 - 1))))) (.g (fun (ga0:(decide (0<v1))=true)=>(idx_ok e_Entry (h5 ga0))) .z)))) ?_
     refine Nif hF ?_ ?_ <;> intro hb hF
     ·obtain ⟨x2,h6,hF⟩:=lS hF
      refine RJ (.b (R_F_ok h6) .z) ?_
      have hF:=ret_done hF dn1
      cases hF
      exact Wz [] hfin
     ·obtain ⟨h7,hF⟩:=aE hF
      refine RJ (.i e_Entry h7 .z) ?_
      refine Nif hF ?_ ?_ <;> intro hb hF
      ·obtain ⟨x3,h8,hF⟩:=lS hF
       refine RJ (.b (R_F_ok h8) .z) ?_
       have hF:=ret_done hF dn1
       cases hF
       exact Wz [] hfin
      ·refine LR0 ?_
       exact Nrnq [] hF ih1
   ·refine Nexit rfl ?_
    have hF:=inrO_done hF dn1
    exact metQ () [] hF
  ·intro v hF
   unfold R_LogFault_J1 at hF
   refine LR0 ?_
   cases hF
   exact Wz [] hfin

/- tabularyref.LastTerm -/
def R_LastTerm (l:List Entry):Option Int:=
 if (decide ((l.length:Int)=0))=true then
  some 0
 else
  asrt (0≤w64 ((l.length:Int) - 1)∧w64 ((l.length:Int) - 1)<(l.length:Int)) <|
  some ((lget l (w64 ((l.length:Int) - 1))).Term)
theorem R_LastTerm_ok {l r} (hF:R_LastTerm l=some r):Pe Try.prog 30 S.none [.sl 2 (l.map e_Entry)] (.i r) S.none:=by
 refine PT 13 [.tmp 2] [3] Try.func30 ?_
 intro Q g hfin
 unfold R_LastTerm at hF
 refine LR0 ?_
 refine RJ (.l e_Entry l .z) ?_
 refine Nif hF ?_ ?_ <;> intro hb hF
 ·refine LR0 ?_
  cases hF
  exact Wz [] hfin
 ·obtain ⟨h0,hF⟩:=aE hF
  refine RJ (.l e_Entry l (.i e_Entry h0 .z)) ?_
  cases hF
  exact Wz [] hfin

/- tabularyref.Has -/
def R_Has_J1 (v:Unit):Option Bool:=
 some false
def R_Has_B1 (l:List Int) (num v1:Int):Option (Int⊕Bool):=
 if (decide (v1<(l.length:Int)))=true then
  asrt (0≤v1∧v1<(l.length:Int)) <|
  if (decide ((lget l v1)=num))=true then
   some (Sum.inr true)
  else
   some (Sum.inl (w64 (v1+1)))
 else
  inrO (R_Has_J1 ())
def R_Has_L1 (l:List Int) (num v0:Int):Option Bool:=
 loopO (fun y=>R_Has_B1 l num y) v0
def R_Has (l:List Int) (num:Int):Option Bool:=
 R_Has_L1 l num 0
theorem R_Has_ok {l num r} (hF:R_Has l num=some r):Pe Try.prog 31 S.none [.sl 1 (l.map e_i64),.i num] (.bool r) S.none:=by
 refine PT 18 [.tmp 4] [4] Try.func31 ?_
 intro Q g hfin
 unfold R_Has at hF
 refine LR0 ?_
 refine LR0 ?_
 refine NmQ (fun v=>R_Has_J1 v=some r) (fun v=>(.w [])) ?_ ?_
 ·refine Nblk ?_
  unfold R_Has_L1 at hF
  refine Nits hF [] (fun Z v1=>Z.up [0,1,5] [] [] [] [(5,.i v1)] [] [] []) ?_
  intro n1 v1 y1 hF ih1 dn1
  unfold R_Has_B1 at hF
  refine RJ (.l e_i64 l .z) ?_
  refine Nif hF ?_ ?_ <;> intro hb hF
  ·refine Nblk ?_
   obtain ⟨h0,hF⟩:=aE hF
   refine RJ (.i e_i64 h0 .z) ?_
   refine Nif hF ?_ ?_ <;> intro hb hF
   ·refine LR0 ?_
    have hF:=ret_done hF dn1
    cases hF
    exact Wz [] hfin
   ·refine LR0 ?_
    exact Nrnq [] hF ih1
  ·refine Nexit rfl ?_
   have hF:=inrO_done hF dn1
   exact metQ () [] hF
 ·intro v hF
  unfold R_Has_J1 at hF
  refine LR0 ?_
  cases hF
  exact Wz [] hfin

/- tabularyref.Majority -/
def R_Majority (k0 num:Int):Bool:=
 decide ((w64 (Int.tdiv num 2))<k0)
theorem R_Majority_ok {k0 num r} (hF:R_Majority k0 num=r):Pe Try.prog 32 S.none [.i k0,.i num] (.bool r) S.none:=by
 refine PT 9 [.tmp 4] [4] Try.func32 ?_
 intro Q g hfin
 unfold R_Majority at hF
 refine LR0 ?_
 refine RJ (.g (by decide:(2:Int)≠0) .z) ?_
 cases hF
 exact Wz [] hfin

/- tabularyref.NodeFault -/
def R_NodeFault_J2 (v1:Unit):Option Fault:=
 some (⟨0,0⟩:Fault)
def R_NodeFault_J3 (v2:Unit):Option Fault:=
 R_NodeFault_J2 ()
def R_NodeFault_B1 (x:Node) (x7:Fault) (v3:Int):Option (Int⊕Fault):=
 if (decide (v3<x.N))=true then
  asrt (0≤v3∧v3<(x.Next.length:Int)) <|
  asrt ((!(decide ((lget x.Next v3)<1)))=true→0≤v3∧v3<(x.Next.length:Int)) <|
  asrt ((!((decide ((lget x.Next v3)<1))||(decide ((w64 ((x.Log.length:Int)+1))<(lget x.Next v3)))))=true→0≤v3∧v3<(x.Have.length:Int)) <|
  asrt ((!(((decide ((lget x.Next v3)<1))||(decide ((w64 ((x.Log.length:Int)+1))<(lget x.Next v3))))||(decide ((lget x.Have v3)<0))))=true→0≤v3∧v3<(x.Have.length:Int)) <|
  if ((((decide ((lget x.Next v3)<1))||(decide ((w64 ((x.Log.length:Int)+1))<(lget x.Next v3))))||(decide ((lget x.Have v3)<0)))||(decide ((x.Log.length:Int)<(lget x.Have v3))))=true then
   some (Sum.inr x7)
  else
   some (Sum.inl (w64 (v3+1)))
 else
  inrO (R_NodeFault_J3 ())
def R_NodeFault_L1 (x:Node) (x7:Fault) (v0:Int):Option Fault:=
 loopO (fun y=>R_NodeFault_B1 x x7 y) v0
def R_NodeFault_J1 (x:Node) (x7:Fault) (v:Unit):Option Fault:=
 if (decide (x.Role=2))=true then
  if ((!decide ((x.Next.length:Int)=x.N))||(!decide ((x.Have.length:Int)=x.N)))=true then
   some x7
  else
   R_NodeFault_L1 x x7 0
 else
  R_NodeFault_J2 ()
def R_NodeFault_J4 (x:Node) (x7:Fault) (v4:Unit):Option Fault:=
 R_NodeFault_J1 x x7 ()
def R_NodeFault_B2 (x:Node) (x7:Fault) (v5:Int):Option (Int⊕Fault):=
 if (decide (v5<(x.Votes.length:Int)))=true then
  asrt (0≤v5∧v5<(x.Votes.length:Int)) <|
  asrt ((!(decide ((lget x.Votes v5)<0)))=true→0≤v5∧v5<(x.Votes.length:Int)) <|
  asrt ((!((decide ((lget x.Votes v5)<0))||(decide (x.N≤(lget x.Votes v5)))))=true→0≤v5∧v5≤(x.Votes.length:Int)) <|
  asrt ((!((decide ((lget x.Votes v5)<0))||(decide (x.N≤(lget x.Votes v5)))))=true→0≤v5∧v5<(x.Votes.length:Int)) <|
  ob (if (!((decide ((lget x.Votes v5)<0))||(decide (x.N≤(lget x.Votes v5)))))=true then (R_Has (ltake x.Votes v5) (lget x.Votes v5)) else some default) fun x10=>
  if (((decide ((lget x.Votes v5)<0))||(decide (x.N≤(lget x.Votes v5))))||x10)=true then
   some (Sum.inr x7)
  else
   some (Sum.inl (w64 (v5+1)))
 else
  inrO (R_NodeFault_J4 x x7 ())
def R_NodeFault_L2 (x:Node) (x7:Fault) (v0:Int):Option Fault:=
 loopO (fun y=>R_NodeFault_B2 x x7 y) v0
def R_NodeFault (x:Node):Option Fault:=
 if ((((decide (x.N<1))||(decide (7<x.N)))||(decide (x.ID<0)))||(decide (x.N≤x.ID)))=true then
  lt (R_F 3 (-1)) fun x1=>
  some x1
 else
  lt (R_Num x.Term) fun x2=>
  if (((((((!x2)||(decide (x.Vote<0)))||(decide (x.N<x.Vote)))||(decide (x.Role<0)))||(decide (2<x.Role)))||(decide (x.Commit<0)))||(decide ((x.Log.length:Int)<x.Commit)))=true then
   lt (R_F 3 (-2)) fun x3=>
   some x3
  else
   ob (R_LogFault x.Log) fun x4=>
   if (!decide (x4.Code=0))=true then
    some x4
   else
    ob (R_LastTerm x.Log) fun x5=>
    if (decide (x.Term<x5))=true then
     lt (R_F 11 (-3)) fun x6=>
     some x6
    else
     lt (R_F 5 (-3)) fun x7=>
     if (((!decide (x.Role=1))&&(decide (0<(x.Votes.length:Int))))||((!decide (x.Role=2))&&((decide (0<(x.Next.length:Int)))||(decide (0<(x.Have.length:Int))))))=true then
      some x7
     else
      if (decide (x.Role=1))=true then
       ob (R_Has x.Votes x.ID) fun x8=>
       lt (R_Majority (x.Votes.length:Int) x.N) fun x9=>
       if ((!x8)||x9)=true then
        some x7
       else
        R_NodeFault_L2 x x7 0
      else
       R_NodeFault_J1 x x7 ()
theorem R_NodeFault_ok {x r} (hF:R_NodeFault x=some r):Pe Try.prog 16 S.none [.agg (c_Node x)] (.agg (c_Fault r)) S.none:=by
 refine PT 227 [.cell 2 31] [31] Try.func16 ?_
 intro Q g hfin
 unfold R_NodeFault at hF
 refine LR0 ?_
 refine LR0 ?_
 refine Nif hF ?_ ?_ <;> intro hb hF
 ·obtain ⟨x1,h0,hF⟩:=lS hF
  refine RJ (.b (R_F_ok h0) .z) ?_
  cases hF
  exact Wz [] hfin
 ·obtain ⟨x2,h1,hF⟩:=lS hF
  refine RJ (.b (R_Num_ok h1) (.a (.nat (x.Log.length:Int)) (.g (fun (_:(!((((((!x2)||(decide (x.Vote<0)))||(decide (x.N<x.Vote)))||(decide (x.Role<0)))||(decide (2<x.Role)))||(decide (x.Commit<0))))=true)=>(len_ok e_Entry x.Log)) .z))) ?_
  refine Nif hF ?_ ?_ <;> intro hb hF
  ·obtain ⟨x3,h2,hF⟩:=lS hF
   refine RJ (.b (R_F_ok h2) .z) ?_
   cases hF
   exact Wz [] hfin
  ·obtain ⟨x4,h3,hF⟩:=oE hF
   refine RJ (.b (R_LogFault_ok h3) .z) ?_
   refine LR0 ?_
   refine Nif hF ?_ ?_ <;> intro hb hF
   ·refine LR0 ?_
    cases hF
    exact Wz [] hfin
   ·obtain ⟨x5,h4,hF⟩:=oE hF
    refine DJ (.b (R_LastTerm_ok h4) .z) ?_
    refine Nif hF ?_ ?_ <;> intro hb hF
    ·obtain ⟨x6,h5,hF⟩:=lS hF
     refine RJ (.b (R_F_ok h5) .z) ?_
     cases hF
     exact Wz [] hfin
    ·obtain ⟨x7,h6,hF⟩:=lS hF
     refine RJ (.b (R_F_ok h6) .z) ?_
     refine RJ (.a (.nat (x.Votes.length:Int)) (.g (fun (_:(!decide (x.Role=1))=true)=>(len_ok e_i64 x.Votes)) (.a (.nat (x.Next.length:Int)) (.g (fun (_:(!decide (x.Role=2))=true) (_:(!((!decide (x.Role=1))&&(decide (0<(x.Votes.length:Int)))))=true)=>(len_ok e_i64 x.Next)) (.a (.nat (x.Have.length:Int)) (.g (fun (_:(!(decide (0<(x.Next.length:Int))))=true) (_:(!decide (x.Role=2))=true) (_:(!((!decide (x.Role=1))&&(decide (0<(x.Votes.length:Int)))))=true)=>(len_ok e_i64 x.Have)) .z)))))) ?_
     refine Nif hF ?_ ?_ <;> intro hb hF
     ·refine LR0 ?_
      cases hF
      exact Wz [] hfin
     ·refine LR0 ?_
      refine NmS (fun v=>R_NodeFault_J1 x x7 v=some r) (fun Z v=>Z.up [1,2,4] [1,2,4] [] [] [] [] [] []) ?_ ?_
      ·refine Nif hF ?_ ?_ <;> intro hb hF
       ·obtain ⟨x8,h11,hF⟩:=oE hF
        obtain ⟨x9,h12,hF⟩:=lS hF
        refine RJ (.b (R_Has_ok h11) (.a (.nat (x.Votes.length:Int)) (.g (fun (_:(!(!x8))=true)=>(len_ok e_i64 x.Votes)) (.a (.callB (.bool x9)) (.g (fun (ga0:(!(!x8))=true)=>(R_Majority_ok h12)) .z))))) ?_
        refine Nif hF ?_ ?_ <;> intro hb hF
        ·refine LR0 ?_
         cases hF
         exact Wz [] hfin
        ·refine LR0 ?_
         refine NmS (fun v4=>R_NodeFault_J4 x x7 v4=some r) (fun Z v4=>Z.up [1,2,4] [1,2,4] [] [] [] [] [] []) ?_ ?_
         ·refine Nblk ?_
          unfold R_NodeFault_L2 at hF
          refine Nits hF [] (fun Z v5=>Z.up [1,2,4,5] [1,2,4] [] [] [(5,.i v5)] [] [] []) ?_
          intro n1 v5 y1 hF ih1 dn1
          unfold R_NodeFault_B2 at hF
          refine RJ (.l e_i64 x.Votes .z) ?_
          refine Nif hF ?_ ?_ <;> intro hb hF
          ·refine Nblk ?_
           obtain ⟨h13,h14,h15,h16,hF⟩:=asrt4 hF
           obtain ⟨x10,h17,hF⟩:=oE hF
           refine DJ (.i e_i64 h13 (.a (.av (e_i64 (lget x.Votes v5))) (.g (fun (ga0:(!(decide ((lget x.Votes v5)<0)))=true)=>(idx_ok e_i64 (h14 ga0))) (.a (.xs ((ltake x.Votes v5).map e_i64)) (.g (fun (ga0:(!((decide ((lget x.Votes v5)<0))||(decide (x.N≤(lget x.Votes v5)))))=true)=>(sl01_ok e_i64 (h15 ga0))) (.a (.av (e_i64 (lget x.Votes v5))) (.g (fun (ga0:(!((decide ((lget x.Votes v5)<0))||(decide (x.N≤(lget x.Votes v5)))))=true)=>(idx_ok e_i64 (h16 ga0))) (.a (.callB (.bool x10)) (.g (fun (ga0:(!((decide ((lget x.Votes v5)<0))||(decide (x.N≤(lget x.Votes v5)))))=true)=>(R_Has_ok (ite_t h17 ga0))) .z))))))))) ?_
           refine Nif hF ?_ ?_ <;> intro hb hF
           ·refine LR0 ?_
            have hF:=ret_done hF dn1
            cases hF
            exact Wz [] hfin
           ·refine LR0 ?_
            exact Nrnq [] hF ih1
          ·refine Nexit rfl ?_
           have hF:=inrO_done hF dn1
           exact metQ () [] hF
         ·intro v4 hF
          unfold R_NodeFault_J4 at hF
          exact metQ () [] hF
       ·exact metQ () [] hF
      ·intro v hF
       unfold R_NodeFault_J1 at hF
       refine LR0 ?_
       refine NmS (fun v1=>R_NodeFault_J2 v1=some r) (fun Z v1=>Z.up [2] [2] [] [] [] [] [] []) ?_ ?_
       ·refine Nif hF ?_ ?_ <;> intro hb hF
        ·refine RJ (.l e_i64 x.Next (.a (.nat (x.Have.length:Int)) (.g (fun (_:(!(!decide ((x.Next.length:Int)=x.N)))=true)=>(len_ok e_i64 x.Have)) .z))) ?_
         refine Nif hF ?_ ?_ <;> intro hb hF
         ·refine LR0 ?_
          cases hF
          exact Wz [] hfin
         ·refine LR0 ?_
          refine NmS (fun v2=>R_NodeFault_J3 v2=some r) (fun Z v2=>Z.up [2] [2] [] [] [] [] [] []) ?_ ?_
          ·refine Nblk ?_
           unfold R_NodeFault_L1 at hF
           refine Nits hF [] (fun Z v3=>Z.up [1,2,4,6] [1,2,4] [] [] [(6,.i v3)] [] [] []) ?_
           intro n1 v3 y1 hF ih1 dn1
           unfold R_NodeFault_B1 at hF
           refine LR0 ?_
           refine Nif hF ?_ ?_ <;> intro hb hF
           ·refine Nblk ?_
            obtain ⟨h7,h8,h9,h10,hF⟩:=asrt4 hF
            refine DJ (.i e_i64 h7 (.a (.av (e_i64 (lget x.Next v3))) (.g (fun (ga0:(!(decide ((lget x.Next v3)<1)))=true)=>(idx_ok e_i64 (h8 ga0))) (.a (.nat (x.Log.length:Int)) (.g (fun (_:(!(decide ((lget x.Next v3)<1)))=true)=>(len_ok e_Entry x.Log)) (.a (.av (e_i64 (lget x.Have v3))) (.g (fun (ga0:(!((decide ((lget x.Next v3)<1))||(decide ((w64 ((x.Log.length:Int)+1))<(lget x.Next v3)))))=true)=>(idx_ok e_i64 (h9 ga0))) (.a (.av (e_i64 (lget x.Have v3))) (.g (fun (ga0:(!(((decide ((lget x.Next v3)<1))||(decide ((w64 ((x.Log.length:Int)+1))<(lget x.Next v3))))||(decide ((lget x.Have v3)<0))))=true)=>(idx_ok e_i64 (h10 ga0))) (.a (.nat (x.Log.length:Int)) (.g (fun (_:(!(((decide ((lget x.Next v3)<1))||(decide ((w64 ((x.Log.length:Int)+1))<(lget x.Next v3))))||(decide ((lget x.Have v3)<0))))=true)=>(len_ok e_Entry x.Log)) .z))))))))))) ?_
            refine Nif hF ?_ ?_ <;> intro hb hF
            ·refine LR0 ?_
             have hF:=ret_done hF dn1
             cases hF
             exact Wz [] hfin
            ·refine LR0 ?_
             exact Nrnq [] hF ih1
           ·refine Nexit rfl ?_
            have hF:=inrO_done hF dn1
            exact metQ () [] hF
          ·intro v2 hF
           unfold R_NodeFault_J3 at hF
           exact metQ () [] hF
        ·exact metQ () [] hF
       ·intro v1 hF
        unfold R_NodeFault_J2 at hF
        refine LR0 ?_
        cases hF
        exact Wz [] hfin

/- tabularyref.CopyLog -/
def R_CopyLog (l:List Entry):Option (List Entry):=
 asrt ((l.length:Int)*24≤140737488351232) <|
 some l
theorem R_CopyLog_ok {l r} (hF:R_CopyLog l=some r):Pe Try.prog 85 (.w []) [.sl 2 (l.map e_Entry)] (.row 4 1) ⟨[],[],[(4,.z 50 2 1 (r.map e_Entry))],[],[]⟩:=by
 refine PT 5 [.tmp 2] [45] Try.func85 ?_
 intro Q g hfin
 unfold R_CopyLog at hF
 refine LR0 ?_
 obtain ⟨h0,hF⟩:=aE hF
 refine RJ (.p0 e_Entry h0 .z) ?_
 cases hF
 exact Wz [] hfin

/- tabularyref.Follower -/
def R_Follower (x:Node):Option (Int×Int×Int×Int×List Entry×Int×Int):=
 ob (R_CopyLog x.Log) fun x1=>
 some (x.N,x.ID,x.Term,x.Vote,x1,0,x.Commit)
theorem R_Follower_ok {x r} (hF:R_Follower x=some r):Pe Try.prog 70 (.w []) [.agg (c_Node x)] (.agg [.i r.1,.i r.2.1,.i r.2.2.1,.i r.2.2.2.1,.row 13 1,.i r.2.2.2.2.2.1,.i r.2.2.2.2.2.2,.row 71001 0,.row 71002 0,.row 71003 0]) ⟨[],[],[(13,.z 50 2 1 (r.2.2.2.2.1.map e_Entry)),(71001,.z 3 1 0 (([]:List Int).map e_i64)),(71002,.z 3 1 0 (([]:List Int).map e_i64)),(71003,.z 3 1 0 (([]:List Int).map e_i64))],[],[]⟩:=by
 refine PT 17 [.cell 2 48] [48] Try.func70 ?_
 intro Q g hfin
 unfold R_Follower at hF
 refine LR0 ?_
 obtain ⟨x1,h0,hF⟩:=oE hF
 have p1:=(Pe.ren (R_CopyLog_ok h0) ⟨[],[(4,13)],[],[]⟩)
 refine VD [cE [] [] [] [] p1] [2] [2] [13] [] [(2,.ptr 2 0)] [(2,[.i x.N,.i x.ID,.i x.Term,.i x.Vote,.row 13 1,.i 0,.i x.Commit,.nils,.nils,.nils])] [(13,.z 50 2 1 (x1.map e_Entry))] [] (hc p1 .nil) ?_
 cases hF
 refine Wk_nilrowB 2 7 60000 3 1 rfl rfl rfl rfl rfl ?_
 refine Wk_nilrowB 2 8 60001 3 1 rfl rfl rfl rfl rfl ?_
 refine Wk_nilrowB 2 9 60002 3 1 rfl rfl rfl rfl rfl ?_
 refine Wk_ren' ⟨[],[(60000,71001),(60001,71002),(60002,71003)],[],[]⟩ rfl ?_
 exact Wz [] hfin

/- tabularyref.Counted -/
def R_Counted_J1 (x:Node) (v:Int):Option Node:=
 some (⟨x.N,x.ID,x.Term,x.Vote,x.Log,x.Role,v,x.Votes,x.Next,x.Have⟩:Node)
def R_Counted_J2 (x:Node) (v1:Int×Int) (v2:Int):Option ((Int×Int)⊕Node):=
 asrt (0≤w64 (v1.2 - 1)∧w64 (v1.2 - 1)<(x.Log.length:Int)) <|
 lt (R_Majority v2 x.N) fun x1=>
 ob (
  if ((decide (((lget x.Log (w64 (v1.2 - 1))).Term)=x.Term))&&x1)=true then
   some v1.2
  else
   some v1.1) fun v3=>
 some (Sum.inl (v3,w64 (v1.2+1)))
def R_Counted_B2 (x:Node) (v1 v4:Int×Int):Option ((Int×Int)⊕((Int×Int)⊕Node)):=
 if (decide (v4.2<(x.Have.length:Int)))=true then
  asrt (0≤v4.2∧v4.2<(x.Have.length:Int)) <|
  ob (
   if (decide (v1.2≤(lget x.Have v4.2)))=true then
    some (w64 (v4.1+1))
   else
    some v4.1) fun v5=>
  some (Sum.inl (v5,w64 (v4.2+1)))
 else
  inrO (R_Counted_J2 x v1 v4.1)
def R_Counted_L2 (x:Node) (v1 v0:Int×Int):Option ((Int×Int)⊕Node):=
 loopO (fun y=>R_Counted_B2 x v1 y) v0
def R_Counted_B1 (x:Node) (v1:Int×Int):Option ((Int×Int)⊕Node):=
 if (decide (v1.2≤(x.Log.length:Int)))=true then
  R_Counted_L2 x v1 (0,0)
 else
  inrO (R_Counted_J1 x v1.1)
def R_Counted_L1 (x:Node) (v0:Int×Int):Option Node:=
 loopO (fun y=>R_Counted_B1 x y) v0
def R_Counted (x:Node):Option Node:=
 R_Counted_L1 x (x.Commit,w64 (x.Commit+1))
theorem R_Counted_ok {x r} (hF:R_Counted x=some r):Pe Try.prog 73 S.none [.agg (c_Node x)] (.agg (c_Node r)) S.none:=by
 refine PT 55 [.cell 2 48] [48] Try.func73 ?_
 intro Q g hfin
 unfold R_Counted at hF
 refine LR0 ?_
 refine LR0 ?_
 refine LR0 ?_
 refine NmS (fun v=>R_Counted_J1 x v=some r) (fun Z v=>Z.up [1,2,3] [1,2] [] [] [(3,.i v)] [] [] []) ?_ ?_
 ·refine Nblk ?_
  unfold R_Counted_L1 at hF
  refine Nits hF [] (fun Z v1=>Z.up [1,2,3,4] [1,2] [] [] [(3,.i v1.1),(4,.i v1.2)] [] [] []) ?_
  intro n1 v1 y1 hF ih1 dn1
  unfold R_Counted_B1 at hF
  refine RJ (.l e_Entry x.Log .z) ?_
  refine Nif hF ?_ ?_ <;> intro hb hF
  ·refine Nblk ?_
   refine LR0 ?_
   refine LR0 ?_
   refine NmS (fun v2=>R_Counted_J2 x v1 v2=some y1) (fun Z v2=>Z.up [1,2,3,4,5] [1,2] [] [] [(5,.i v2)] [] [] []) ?_ ?_
   ·refine Nblk ?_
    unfold R_Counted_L2 at hF
    refine Nits hF [] (fun Z v4=>Z.up [1,2,3,4,5,6] [1,2] [] [] [(5,.i v4.1),(6,.i v4.2)] [] [] []) ?_
    intro n2 v4 y2 hF ih2 dn2
    unfold R_Counted_B2 at hF
    refine RJ (.l e_i64 x.Have .z) ?_
    refine Nif hF ?_ ?_ <;> intro hb hF
    ·refine Nblk ?_
     obtain ⟨h2,hF⟩:=aE hF
     refine RJ (.i e_i64 h2 .z) ?_
     obtain ⟨v5,hv,hF⟩:=oE hF
     refine NmT (fun Z=>Z.up [1,2,3,4,5,6] [1,2] [] [] [(5,.i v5)] [] [] []) ?_ ?_
     ·have hF:=hv
      refine Nif hF ?_ ?_ <;> intro hb hF
      ·refine LR0 ?_
       cases hF
       exact met' []
      ·cases hF
       exact met' []
     ·refine LR0 ?_
      exact Nrnq [] hF ih2
    ·refine Nexit rfl ?_
     have hF:=inrO_done hF dn2
     exact metQ v4.1 [] hF
   ·intro v2 hF
    unfold R_Counted_J2 at hF
    obtain ⟨h0,hF⟩:=aE hF
    obtain ⟨x1,h1,hF⟩:=lS hF
    refine DJ (.i e_Entry h0 (.a (.callB (.bool x1)) (.g (fun (ga0:(decide (((lget x.Log (w64 (v1.2 - 1))).Term)=x.Term))=true)=>(R_Majority_ok h1)) .z))) ?_
    obtain ⟨v3,hv,hF⟩:=oE hF
    refine NmT (fun Z=>Z.up [1,2,3,4] [1,2] [] [] [(3,.i v3)] [] [] []) ?_ ?_
    ·have hF:=hv
     refine Nif hF ?_ ?_ <;> intro hb hF
     ·refine LR0 ?_
      cases hF
      exact met' []
     ·cases hF
      exact met' []
    ·refine LR0 ?_
     exact Nrnq [] hF ih1
  ·refine Nexit rfl ?_
   have hF:=inrO_done hF dn1
   exact metQ v1.1 [] hF
 ·intro v hF
  unfold R_Counted_J1 at hF
  refine LR0 ?_
  refine LR0 ?_
  cases hF
  exact Wz [] hfin

/- tabularyref.Leader -/
def R_Leader_J1 (x1:Int×Int×Int×Int×List Entry×Int×Int) (v:List Int×List Int):Option Node:=
 ob (R_Counted (⟨x1.1,x1.2.1,x1.2.2.1,x1.2.2.2.1,x1.2.2.2.2.1,2,x1.2.2.2.2.2.2,([]:List Int),v.1,v.2⟩:Node)) fun x2=>
 some x2
def R_Leader_B1 (x1:Int×Int×Int×Int×List Entry×Int×Int) (v1:List Int×List Int×Int):Option ((List Int×List Int×Int)⊕Node):=
 if (decide (v1.2.2<x1.1))=true then
  asrt (((v1.1++([w64 ((x1.2.2.2.2.1.length:Int)+1)]:List Int)).length:Int)*8≤140737488351232) <|
  ob (
   if (decide (v1.2.2=x1.2.1))=true then
    asrt (((v1.2.1++([(x1.2.2.2.2.1.length:Int)]:List Int)).length:Int)*8≤140737488351232) <|
    some (v1.2.1++([(x1.2.2.2.2.1.length:Int)]:List Int))
   else
    asrt (((v1.2.1++([0]:List Int)).length:Int)*8≤140737488351232) <|
    some (v1.2.1++([0]:List Int))) fun v2=>
  some (Sum.inl ((v1.1++([w64 ((x1.2.2.2.2.1.length:Int)+1)]:List Int)),v2,w64 (v1.2.2+1)))
 else
  inrO (R_Leader_J1 x1 (v1.1,v1.2.1))
def R_Leader_L1 (x1:Int×Int×Int×Int×List Entry×Int×Int) (v0:List Int×List Int×Int):Option Node:=
 loopO (fun y=>R_Leader_B1 x1 y) v0
def R_Leader (x:Node):Option Node:=
 ob (R_Follower x) fun x1=>
 R_Leader_L1 x1 (([]:List Int),([]:List Int),0)
theorem R_Leader_ok {x r} (hF:R_Leader x=some r):Pe Try.prog 71 S.none [.agg (c_Node x)] (.agg (c_Node r)) S.none:=by
 refine PT 41 [.cell 2 48] [48] Try.func71 ?_
 intro Q g hfin
 unfold R_Leader at hF
 refine LR0 ?_
 obtain ⟨x1,h0,hF⟩:=oE hF
 have p1:=(Pe.ren (R_Follower_ok h0) ⟨[],[(13,5),(71001,20005),(71002,40005),(71003,60005)],[],[]⟩)
 refine RJ (.e [] [] p1 .z) ?_
 refine LR0 ?_
 refine LR0 ?_
 refine NmS (fun v=>R_Leader_J1 x1 v=some r) (fun Z v=>Z.up [1,2] [1,2] [5,20005,40005,60005] [] [] [] [(40005,.z 3 1 0 (v.1.map e_i64)),(60005,.z 3 1 0 (v.2.map e_i64))] []) ?_ ?_
 ·refine Nblk ?_
  unfold R_Leader_L1 at hF
  refine Nits hF [] (fun Z v1=>Z.up [1,2,3] [1,2] [5,20005,40005,60005] [] [(3,.i v1.2.2)] [] [(40005,.z 3 1 0 (v1.1.map e_i64)),(60005,.z 3 1 0 (v1.2.1.map e_i64))] []) ?_
  intro n1 v1 y1 hF ih1 dn1
  unfold R_Leader_B1 at hF
  refine LR0 ?_
  refine Nif hF ?_ ?_ <;> intro hb hF
  ·refine Nblk ?_
   obtain ⟨h3,hF⟩:=aE hF
   refine RJ (.l e_Entry x1.2.2.2.2.1 (.a (.sealed) (.p e_i64 h3 .z))) ?_
   refine LR0 ?_
   obtain ⟨v2,hv,hF⟩:=oE hF
   refine NmT (fun Z=>Z.up [1,2,3] [1,2] [5,20005,40005,60005] [] [] [(1,[.i x1.1,.i x1.2.1,.i x1.2.2.1,.i x1.2.2.2.1,.row 5 1,.i 2,.i x1.2.2.2.2.2.2,.row 20005 0,.row 40005 1,.row 60005 1])] [(60005,.z 3 1 1 (v2.map e_i64))] []) ?_ ?_
   ·have hF:=hv
    refine Nif hF ?_ ?_ <;> intro hb hF
    ·obtain ⟨h4,hF⟩:=aE hF
     refine RJ (.l e_Entry x1.2.2.2.2.1 (.a (.sealed) (.p e_i64 h4 .z))) ?_
     cases hF
     exact met' []
    ·obtain ⟨h5,hF⟩:=aE hF
     refine RJ (.a (.sealed) (.p e_i64 h5 .z)) ?_
     cases hF
     exact met' []
   ·refine LR0 ?_
    exact Nrnq [(40005,⟨0,true,true,false⟩),(60005,⟨0,true,true,false⟩)] hF ih1
  ·refine Nexit rfl ?_
   have hF:=inrO_done hF dn1
   exact metQ (v1.1,v1.2.1) [] hF
 ·intro v hF
  unfold R_Leader_J1 at hF
  obtain ⟨x2,h2,hF⟩:=oE hF
  refine RJ (.c (R_Counted_ok h2) .z) ?_
  cases hF
  exact Wz [] hfin

end
end G
end Go.Proofs.Ythiighaapaomcaa
