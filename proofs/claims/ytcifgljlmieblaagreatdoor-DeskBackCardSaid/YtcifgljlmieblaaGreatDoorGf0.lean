/- The program's functions as plain functions, and that they are these. Written by a program (dec2.py). -/
import Derived.Test.YtcifgljlmieblaaGreatDoorTys
namespace Go.Proofs.YtcifgljlmieblaaGreatDoor
open Go Go.Dm
set_option linter.unusedVariables false
set_option linter.unusedSimpArgs false
set_option maxRecDepth 100000
namespace G
noncomputable section
/- tabularylaw.deskBegun -/
def law_deskBegun:Option Bool:=some true
theorem law_deskBegun_ok (r:Bool) (hF:law_deskBegun=some r):Pe Tryz.prog 5 S.none [] (.bool r) S.none:=by
 cases hF
 exact begunP

/- desk.fault -/
def desk_fault (code at0:Int):Fault:=
 (⟨code,at0⟩:Fault)
theorem desk_fault_ok {code at0 r} (hF:desk_fault code at0=r):Pe Tryz.prog 13 S.none [.i code,.i at0] (.agg (c_Fault r)) S.none:=by
 refine PT 8 [.cell 4 28] [28] Tryz.func13 ?_
 intro Q g hfin
 unfold desk_fault at hF
 refine LR0 ?_
 refine LR0 ?_
 cases hF
 exact Wz [] hfin

/- strings.Split -/
def strings_Split (s sep:List UInt8):Option (List (List UInt8)):=
 asrt (s.length<4294967281∧1≤sep.length) <|
 some (splitL s sep)
theorem strings_Split_ok (s sep:List UInt8) (r:List (List UInt8)) (hF:strings_Split s sep=some r):Pe Tryz.prog 14 S.none [.str s,.str sep] (.sl 1 (r.map e_str)) S.none:=by
 unfold strings_Split at hF
 obtain ⟨h,hF⟩:=aE hF
 have hF:=some_elim hF
 rw [← hF]
 exact split_pe s sep h.1 h.2

/- desk.verbs$1 -/
def desk_verbs_1 (kind:Int):Act:=
 (⟨1,(⟨kind,0,0,0,([]:List UInt8)⟩:Order),0,0,([]:List UInt8)⟩:Act)
theorem desk_verbs_1_ok {kind r} (hF:desk_verbs_1 kind=r):Pe Tryz.prog 36 S.none [.i kind] (.agg (c_Act r)) S.none:=by
 refine PT 6 [.cell 2 25] [25] Tryz.func36 ?_
 intro Q g hfin
 unfold desk_verbs_1 at hF
 refine LR0 ?_
 refine LR0 ?_
 cases hF
 exact Wz [] hfin

/- desk.verbs -/
def desk_verbs  : List verb:=
 lt (desk_verbs_1 1) fun x=>
 lt (desk_verbs_1 2) fun x1=>
 lt (desk_verbs_1 3) fun x2=>
 lt (desk_verbs_1 4) fun x3=>
 lt (desk_verbs_1 5) fun x4=>
 lt (desk_verbs_1 6) fun x5=>
 lt (desk_verbs_1 7) fun x6=>
 lt ([(⟨([99,111,109,101]:List UInt8),([105]:List UInt8),x⟩:verb),(⟨([108,111,115,116]:List UInt8),([105]:List UInt8),x1⟩:verb),(⟨([111,112,101,110]:List UInt8),([105,111]:List UInt8),x2⟩:verb),(⟨([111,112,101,110,101,100]:List UInt8),([105,111,116]:List UInt8),x3⟩:verb),(⟨([99,108,111,115,101]:List UInt8),([105]:List UInt8),x4⟩:verb),(⟨([99,108,111,115,101,100]:List UInt8),([105,111,116]:List UInt8),x5⟩:verb),(⟨([115,112,108,105,116]:List UInt8),([105,115]:List UInt8),x6⟩:verb),(⟨([101,110,100]:List UInt8),([104]:List UInt8),(⟨2,(⟨0,0,0,0,([]:List UInt8)⟩:Order),0,0,([]:List UInt8)⟩:Act)⟩:verb),(⟨([112,117,116]:List UInt8),([104,114]:List UInt8),(⟨3,(⟨0,0,0,0,([]:List UInt8)⟩:Order),0,0,([]:List UInt8)⟩:Act)⟩:verb),(⟨([103,101,116]:List UInt8),([104,114]:List UInt8),(⟨4,(⟨0,0,0,0,([]:List UInt8)⟩:Order),0,0,([]:List UInt8)⟩:Act)⟩:verb),(⟨([112,111,115,116]:List UInt8),([110]:List UInt8),(⟨5,(⟨0,0,0,0,([]:List UInt8)⟩:Order),0,0,([]:List UInt8)⟩:Act)⟩:verb),(⟨([100,114,111,112]:List UInt8),([110]:List UInt8),(⟨6,(⟨0,0,0,0,([]:List UInt8)⟩:Order),0,0,([]:List UInt8)⟩:Act)⟩:verb),(⟨([102,108,117,115,104]:List UInt8),([114]:List UInt8),(⟨7,(⟨0,0,0,0,([]:List UInt8)⟩:Order),0,0,([]:List UInt8)⟩:Act)⟩:verb),(⟨([99,117,116]:List UInt8),([114]:List UInt8),(⟨7,(⟨0,0,0,0,([]:List UInt8)⟩:Order),0,1,([]:List UInt8)⟩:Act)⟩:verb),(⟨([112,97,99,107]:List UInt8),([114]:List UInt8),(⟨7,(⟨0,0,0,0,([]:List UInt8)⟩:Order),0,2,([]:List UInt8)⟩:Act)⟩:verb)]) fun (v:List verb)=>
 v
theorem desk_verbs_ok { r} (hF:desk_verbs  = r):Pe Tryz.prog 15 S.none [] (.sl 11 (r.map e_verb)) S.none:=by
 refine PT 40 [.tmp 0] [41] Tryz.func15 ?_
 intro Q g hfin
 unfold desk_verbs at hF
 refine LR0 ?_
 refine LR0 ?_
 obtain ⟨x,h0,hF⟩:=lS hF
 obtain ⟨x1,h1,hF⟩:=lS hF
 obtain ⟨x2,h2,hF⟩:=lS hF
 obtain ⟨x3,h3,hF⟩:=lS hF
 obtain ⟨x4,h4,hF⟩:=lS hF
 obtain ⟨x5,h5,hF⟩:=lS hF
 obtain ⟨x6,h6,hF⟩:=lS hF
 refine NRL ([(⟨([99,111,109,101]:List UInt8),([105]:List UInt8),x⟩:verb),(⟨([108,111,115,116]:List UInt8),([105]:List UInt8),x1⟩:verb),(⟨([111,112,101,110]:List UInt8),([105,111]:List UInt8),x2⟩:verb),(⟨([111,112,101,110,101,100]:List UInt8),([105,111,116]:List UInt8),x3⟩:verb),(⟨([99,108,111,115,101]:List UInt8),([105]:List UInt8),x4⟩:verb),(⟨([99,108,111,115,101,100]:List UInt8),([105,111,116]:List UInt8),x5⟩:verb),(⟨([115,112,108,105,116]:List UInt8),([105,115]:List UInt8),x6⟩:verb),(⟨([101,110,100]:List UInt8),([104]:List UInt8),(⟨2,(⟨0,0,0,0,([]:List UInt8)⟩:Order),0,0,([]:List UInt8)⟩:Act)⟩:verb),(⟨([112,117,116]:List UInt8),([104,114]:List UInt8),(⟨3,(⟨0,0,0,0,([]:List UInt8)⟩:Order),0,0,([]:List UInt8)⟩:Act)⟩:verb),(⟨([103,101,116]:List UInt8),([104,114]:List UInt8),(⟨4,(⟨0,0,0,0,([]:List UInt8)⟩:Order),0,0,([]:List UInt8)⟩:Act)⟩:verb),(⟨([112,111,115,116]:List UInt8),([110]:List UInt8),(⟨5,(⟨0,0,0,0,([]:List UInt8)⟩:Order),0,0,([]:List UInt8)⟩:Act)⟩:verb),(⟨([100,114,111,112]:List UInt8),([110]:List UInt8),(⟨6,(⟨0,0,0,0,([]:List UInt8)⟩:Order),0,0,([]:List UInt8)⟩:Act)⟩:verb),(⟨([102,108,117,115,104]:List UInt8),([114]:List UInt8),(⟨7,(⟨0,0,0,0,([]:List UInt8)⟩:Order),0,0,([]:List UInt8)⟩:Act)⟩:verb),(⟨([99,117,116]:List UInt8),([114]:List UInt8),(⟨7,(⟨0,0,0,0,([]:List UInt8)⟩:Order),0,1,([]:List UInt8)⟩:Act)⟩:verb),(⟨([112,97,99,107]:List UInt8),([114]:List UInt8),(⟨7,(⟨0,0,0,0,([]:List UInt8)⟩:Order),0,2,([]:List UInt8)⟩:Act)⟩:verb)]) (fun v:List verb=>([(0,.sl 11 (v.map e_verb))],[],[],[])) [.callB (.agg (c_Act x)),.callB (.agg (c_Act x1)),.callB (.agg (c_Act x2)),.callB (.agg (c_Act x3)),.callB (.agg (c_Act x4)),.callB (.agg (c_Act x5)),.callB (.agg (c_Act x6)),.sealed] [0] [] [] [] (hc (desk_verbs_1_ok h0) (hc (desk_verbs_1_ok h1) (hc (desk_verbs_1_ok h2) (hc (desk_verbs_1_ok h3) (hc (desk_verbs_1_ok h4) (hc (desk_verbs_1_ok h5) (hc (desk_verbs_1_ok h6) .nil))))))) (fun v hv=>?_)
 have hF:=lt_elim hF hv
 cases hF
 exact Wz [] hfin

/- desk.Read$1 -/
def desk_Read_1 (v:verb) (box:List (List UInt8)):Option Bool:=
 asrt (0≤(0:Int)∧0<(box.length:Int)) <|
 some (decide (v.word=(lget box 0)))
theorem desk_Read_1_ok {v box r} (hF:desk_Read_1 v box=some r):Pe Tryz.prog 17 ⟨[],[(100000,[.sl 1 (box.map e_str)])],[],[],[]⟩ [.agg (c_verb v),.ptr 100000 0] (.bool r) ⟨[],[(100000,[.sl 1 (box.map e_str)])],[],[],[]⟩:=by
 refine PT 10 [.tmp 3] [4] Tryz.func17 ?_
 intro Q g hfin
 unfold desk_Read_1 at hF
 refine LR0 ?_
 obtain ⟨h0,hF⟩:=aE hF
 refine DJ (.i e_str h0 .z) ?_
 cases hF
 exact Wz [] hfin

/- slices.IndexFunc[[]desk.verb,desk.verb] -/
def slices_IndexFunc_desk_verb_desk_verb_J1 (v:Unit):Option Int:=
 some (-1)
def slices_IndexFunc_desk_verb_desk_verb_B1 (s0:List verb) (box:List (List UInt8)) (v1:Int):Option (Int⊕Int):=
 if (decide (v1<(s0.length:Int)))=true then
  asrt (0≤v1∧v1<(s0.length:Int)) <|
  ob (desk_Read_1 (⟨(lget s0 v1).word,(lget s0 v1).words,(⟨((lget s0 v1).act).Kind,(⟨(((lget s0 v1).act).Order).Kind,(((lget s0 v1).act).Order).ID,(((lget s0 v1).act).Order).Host,(((lget s0 v1).act).Order).Turn,(((lget s0 v1).act).Order).Row⟩:Order),((lget s0 v1).act).Host,((lget s0 v1).act).N,((lget s0 v1).act).Row⟩:Act)⟩:verb) box) fun x=>
  if x=true then
   some (Sum.inr v1)
  else
   some (Sum.inl (w64 (v1+1)))
 else
  inrO (slices_IndexFunc_desk_verb_desk_verb_J1 ())
def slices_IndexFunc_desk_verb_desk_verb_L1 (s0:List verb) (box:List (List UInt8)) (v0:Int):Option Int:=
 loopO (fun y=>slices_IndexFunc_desk_verb_desk_verb_B1 s0 box y) v0
def slices_IndexFunc_desk_verb_desk_verb (s0:List verb) (box:List (List UInt8)):Option Int:=
 slices_IndexFunc_desk_verb_desk_verb_L1 s0 box 0
theorem slices_IndexFunc_desk_verb_desk_verb_ok {s0 box r} (hF:slices_IndexFunc_desk_verb_desk_verb s0 box=some r):Pe Tryz.prog 16 ⟨[],[(100000,[.sl 1 (box.map e_str)])],[],[],[]⟩ [.sl 11 (s0.map e_verb),.fn 17 [.ptr 100000 0]] (.i r) ⟨[],[(100000,[.sl 1 (box.map e_str)])],[],[],[]⟩:=by
 refine PT 19 [.tmp 4] [3] Tryz.func16 ?_
 intro Q g hfin
 unfold slices_IndexFunc_desk_verb_desk_verb at hF
 refine LR0 ?_
 refine RJ (.l e_verb s0 .z) ?_
 refine NmS (fun v=>slices_IndexFunc_desk_verb_desk_verb_J1 v=some r) (fun Z v=>Z.up [] [100000] [] [] [] [] [] []) ?_ ?_
 ·refine Nblk ?_
  unfold slices_IndexFunc_desk_verb_desk_verb_L1 at hF
  refine Nits hF [] (fun Z v1=>Z.up [0,1,7,8] [100000] [] [] [(8,.i v1)] [] [] []) ?_
  intro n1 v1 y1 hF ih1 dn1
  unfold slices_IndexFunc_desk_verb_desk_verb_B1 at hF
  refine LR0 ?_
  refine Nif hF ?_ ?_ <;> intro hb hF
  ·refine Nblk ?_
   refine LR0 ?_
   obtain ⟨h0,hF⟩:=aE hF
   obtain ⟨x,h1,hF⟩:=oE hF
   refine RJ (.i e_verb h0 (.q [100000] [] (Pe.ren (desk_Read_1_ok h1) ⟨[],[],[],[]⟩) .z)) ?_
   refine Nif hF ?_ ?_ <;> intro hb hF
   ·refine LR0 ?_
    have hF:=ret_done hF dn1
    cases hF
    exact Wz [] hfin
   ·refine LR0 ?_
    exact Nrnq [] hF ih1
  ·refine Nexit rfl ?_
   have hF:=inrO_done hF dn1
   exact metQ () [] hF
 ·intro v hF
  unfold slices_IndexFunc_desk_verb_desk_verb_J1 at hF
  refine LR0 ?_
  cases hF
  exact Wz [] hfin

/- desk.number -/
def desk_number (box:Act):Unit:=
 ()
theorem desk_number_ok {box r} (hF:desk_number box=r):Pe Tryz.prog 19 ⟨[],[(100000,(c_Act box))],[],[],[]⟩ [.ptr 100000 0,.int .i32 104] (.ptr 100000 6) ⟨[],[(100000,(c_Act box))],[],[],[]⟩:=by
 refine PT 34 [.tmp 4] [49] Tryz.func19 ?_
 intro Q g hfin
 unfold desk_number at hF
 refine LR0 ?_
 refine LR0 ?_
 refine Nblk ?_
 refine LR0 ?_
 refine Ntrue (by kernel_rfl) ?_
 refine LR0 ?_
 cases hF
 exact Wz [] hfin

/- strconv.Atoi -/
def strconv_Atoi (s:List UInt8):Option (Int×Bool):=
 asrt (s.length≤281474976710656) <|
 some (atoiR s)
theorem strconv_Atoi_ok (s:List UInt8) (r:Int×Bool) (hF:strconv_Atoi s=some r):Pe Tryz.prog 38 S.none [.str s] (.tup [.i r.1,.ifc r.2]) S.none:=by
 unfold strconv_Atoi at hF
 obtain ⟨h,hF⟩:=aE hF
 have hF:=some_elim hF
 rw [← hF]
 exact atoi_pe s h

/- strconv.Itoa -/
def strconv_Itoa (i:Int):Option (List UInt8):=
 asrt (-9223372036854775808≤i∧i≤9223372036854775807) <|
 some (Lib.itoa i)
theorem strconv_Itoa_ok (i:Int) (r:List UInt8) (hF:strconv_Itoa i=some r):Pe Tryz.prog 20 S.none [.i i] (.str r) S.none:=by
 unfold strconv_Itoa at hF
 obtain ⟨h,hF⟩:=aE hF
 have hF:=some_elim hF
 rw [← hF]
 exact itoa_pe i h

/- desk.set -/
def desk_set (word:List UInt8) (box:Act):Option (Bool×Act):=
 lt (desk_number box) fun x=>
 ob (strconv_Atoi word) fun x1=>
 ob (if ((x1.2&&(decide (0≤x1.1)))&&(decide (x1.1≤1000000000)))=true then (strconv_Itoa x1.1) else some default) fun x2=>
 lt (((x1.2&&(decide (0≤x1.1)))&&(decide (x1.1≤1000000000)))&&(decide (x2=word))) fun v=>
 some (v,(⟨box.Kind,box.Order,x1.1,box.N,box.Row⟩:Act))
theorem desk_set_ok {word box r} (hF:desk_set word box=some r):Pe Tryz.prog 18 ⟨[],[(100000,(c_Act box))],[],[],[]⟩ [.ptr 100000 0,.int .i32 104,.str word] (.bool r.1) ⟨[],[(100000,(c_Act r.2))],[],[],[]⟩:=by
 refine PT 46 [.tmp 6] [4] Tryz.func18 ?_
 intro Q g hfin
 unfold desk_set at hF
 refine LR0 ?_
 obtain ⟨x,h0,hF⟩:=lS hF
 refine RJ (.q [100000] [] (Pe.ren (desk_number_ok h0) ⟨[],[],[],[]⟩) .z) ?_
 refine LR0 ?_
 refine Nfalse (by kernel_rfl) ?_
 obtain ⟨x1,h1,hF⟩:=oE hF
 refine RJ (.c (strconv_Atoi_ok word x1 h1) .z) ?_
 refine LR0 ?_
 obtain ⟨x2,h2,hF⟩:=oE hF
 refine NRL (((x1.2&&(decide (0≤x1.1)))&&(decide (x1.1≤1000000000)))&&(decide (x2=word))) (fun v:Bool=>([(6,.bool v)],[],[],[])) [.callB (.str x2)] [6] [100000] [] [] (hc (fun (ga0:((x1.2&&(decide (0≤x1.1)))&&(decide (x1.1≤1000000000)))=true)=>(strconv_Itoa_ok x1.1 x2 (ite_t h2 ga0))) .nil) (fun v hv=>?_)
 have hF:=lt_elim hF hv
 cases hF
 exact Wz [] hfin

/- desk.number -/
def desk_number_v1 (box:Act):Unit:=
 ()
theorem desk_number_v1_ok {box r} (hF:desk_number_v1 box=r):Pe Tryz.prog 19 ⟨[],[(100000,(c_Act box))],[],[],[]⟩ [.ptr 100000 0,.int .i32 105] (.ptr 100000 2) ⟨[],[(100000,(c_Act box))],[],[],[]⟩:=by
 refine PT 34 [.tmp 4] [49] Tryz.func19 ?_
 intro Q g hfin
 unfold desk_number_v1 at hF
 refine LR0 ?_
 refine LR0 ?_
 refine Nblk ?_
 refine LR0 ?_
 refine Nfalse (by kernel_rfl) ?_
 refine LR0 ?_
 refine Ntrue (by kernel_rfl) ?_
 refine LR0 ?_
 cases hF
 exact Wz [] hfin

/- desk.set -/
def desk_set_v1 (word:List UInt8) (box:Act):Option (Bool×Act):=
 lt (desk_number_v1 box) fun x=>
 ob (strconv_Atoi word) fun x1=>
 ob (if ((x1.2&&(decide (0≤x1.1)))&&(decide (x1.1≤1000000000)))=true then (strconv_Itoa x1.1) else some default) fun x2=>
 lt (((x1.2&&(decide (0≤x1.1)))&&(decide (x1.1≤1000000000)))&&(decide (x2=word))) fun v=>
 some (v,(⟨box.Kind,(⟨box.Order.Kind,x1.1,box.Order.Host,box.Order.Turn,box.Order.Row⟩:Order),box.Host,box.N,box.Row⟩:Act))
theorem desk_set_v1_ok {word box r} (hF:desk_set_v1 word box=some r):Pe Tryz.prog 18 ⟨[],[(100000,(c_Act box))],[],[],[]⟩ [.ptr 100000 0,.int .i32 105,.str word] (.bool r.1) ⟨[],[(100000,(c_Act r.2))],[],[],[]⟩:=by
 refine PT 46 [.tmp 6] [4] Tryz.func18 ?_
 intro Q g hfin
 unfold desk_set_v1 at hF
 refine LR0 ?_
 obtain ⟨x,h0,hF⟩:=lS hF
 refine RJ (.q [100000] [] (Pe.ren (desk_number_v1_ok h0) ⟨[],[],[],[]⟩) .z) ?_
 refine LR0 ?_
 refine Nfalse (by kernel_rfl) ?_
 obtain ⟨x1,h1,hF⟩:=oE hF
 refine RJ (.c (strconv_Atoi_ok word x1 h1) .z) ?_
 refine LR0 ?_
 obtain ⟨x2,h2,hF⟩:=oE hF
 refine NRL (((x1.2&&(decide (0≤x1.1)))&&(decide (x1.1≤1000000000)))&&(decide (x2=word))) (fun v:Bool=>([(6,.bool v)],[],[],[])) [.callB (.str x2)] [6] [100000] [] [] (hc (fun (ga0:((x1.2&&(decide (0≤x1.1)))&&(decide (x1.1≤1000000000)))=true)=>(strconv_Itoa_ok x1.1 x2 (ite_t h2 ga0))) .nil) (fun v hv=>?_)
 have hF:=lt_elim hF hv
 cases hF
 exact Wz [] hfin

/- desk.number -/
def desk_number_v2 (box:Act):Unit:=
 ()
theorem desk_number_v2_ok {box r} (hF:desk_number_v2 box=r):Pe Tryz.prog 19 ⟨[],[(100000,(c_Act box))],[],[],[]⟩ [.ptr 100000 0,.int .i32 111] (.ptr 100000 3) ⟨[],[(100000,(c_Act box))],[],[],[]⟩:=by
 refine PT 34 [.tmp 4] [49] Tryz.func19 ?_
 intro Q g hfin
 unfold desk_number_v2 at hF
 refine LR0 ?_
 refine LR0 ?_
 refine Nblk ?_
 refine LR0 ?_
 refine Nfalse (by kernel_rfl) ?_
 refine LR0 ?_
 refine Nfalse (by kernel_rfl) ?_
 refine LR0 ?_
 refine Ntrue (by kernel_rfl) ?_
 refine LR0 ?_
 cases hF
 exact Wz [] hfin

/- desk.set -/
def desk_set_v2 (word:List UInt8) (box:Act):Option (Bool×Act):=
 lt (desk_number_v2 box) fun x=>
 ob (strconv_Atoi word) fun x1=>
 ob (if ((x1.2&&(decide (0≤x1.1)))&&(decide (x1.1≤1000000000)))=true then (strconv_Itoa x1.1) else some default) fun x2=>
 lt (((x1.2&&(decide (0≤x1.1)))&&(decide (x1.1≤1000000000)))&&(decide (x2=word))) fun v=>
 some (v,(⟨box.Kind,(⟨box.Order.Kind,box.Order.ID,x1.1,box.Order.Turn,box.Order.Row⟩:Order),box.Host,box.N,box.Row⟩:Act))
theorem desk_set_v2_ok {word box r} (hF:desk_set_v2 word box=some r):Pe Tryz.prog 18 ⟨[],[(100000,(c_Act box))],[],[],[]⟩ [.ptr 100000 0,.int .i32 111,.str word] (.bool r.1) ⟨[],[(100000,(c_Act r.2))],[],[],[]⟩:=by
 refine PT 46 [.tmp 6] [4] Tryz.func18 ?_
 intro Q g hfin
 unfold desk_set_v2 at hF
 refine LR0 ?_
 obtain ⟨x,h0,hF⟩:=lS hF
 refine RJ (.q [100000] [] (Pe.ren (desk_number_v2_ok h0) ⟨[],[],[],[]⟩) .z) ?_
 refine LR0 ?_
 refine Nfalse (by kernel_rfl) ?_
 obtain ⟨x1,h1,hF⟩:=oE hF
 refine RJ (.c (strconv_Atoi_ok word x1 h1) .z) ?_
 refine LR0 ?_
 obtain ⟨x2,h2,hF⟩:=oE hF
 refine NRL (((x1.2&&(decide (0≤x1.1)))&&(decide (x1.1≤1000000000)))&&(decide (x2=word))) (fun v:Bool=>([(6,.bool v)],[],[],[])) [.callB (.str x2)] [6] [100000] [] [] (hc (fun (ga0:((x1.2&&(decide (0≤x1.1)))&&(decide (x1.1≤1000000000)))=true)=>(strconv_Itoa_ok x1.1 x2 (ite_t h2 ga0))) .nil) (fun v hv=>?_)
 have hF:=lt_elim hF hv
 cases hF
 exact Wz [] hfin

/- desk.number -/
def desk_number_v3 (box:Act):Unit:=
 ()
theorem desk_number_v3_ok {box r} (hF:desk_number_v3 box=r):Pe Tryz.prog 19 ⟨[],[(100000,(c_Act box))],[],[],[]⟩ [.ptr 100000 0,.int .i32 116] (.ptr 100000 4) ⟨[],[(100000,(c_Act box))],[],[],[]⟩:=by
 refine PT 34 [.tmp 4] [49] Tryz.func19 ?_
 intro Q g hfin
 unfold desk_number_v3 at hF
 refine LR0 ?_
 refine LR0 ?_
 refine Nblk ?_
 refine LR0 ?_
 refine Nfalse (by kernel_rfl) ?_
 refine LR0 ?_
 refine Nfalse (by kernel_rfl) ?_
 refine LR0 ?_
 refine Nfalse (by kernel_rfl) ?_
 refine LR0 ?_
 refine Ntrue (by kernel_rfl) ?_
 refine LR0 ?_
 cases hF
 exact Wz [] hfin

/- desk.set -/
def desk_set_v3 (word:List UInt8) (box:Act):Option (Bool×Act):=
 lt (desk_number_v3 box) fun x=>
 ob (strconv_Atoi word) fun x1=>
 ob (if ((x1.2&&(decide (0≤x1.1)))&&(decide (x1.1≤1000000000)))=true then (strconv_Itoa x1.1) else some default) fun x2=>
 lt (((x1.2&&(decide (0≤x1.1)))&&(decide (x1.1≤1000000000)))&&(decide (x2=word))) fun v=>
 some (v,(⟨box.Kind,(⟨box.Order.Kind,box.Order.ID,box.Order.Host,x1.1,box.Order.Row⟩:Order),box.Host,box.N,box.Row⟩:Act))
theorem desk_set_v3_ok {word box r} (hF:desk_set_v3 word box=some r):Pe Tryz.prog 18 ⟨[],[(100000,(c_Act box))],[],[],[]⟩ [.ptr 100000 0,.int .i32 116,.str word] (.bool r.1) ⟨[],[(100000,(c_Act r.2))],[],[],[]⟩:=by
 refine PT 46 [.tmp 6] [4] Tryz.func18 ?_
 intro Q g hfin
 unfold desk_set_v3 at hF
 refine LR0 ?_
 obtain ⟨x,h0,hF⟩:=lS hF
 refine RJ (.q [100000] [] (Pe.ren (desk_number_v3_ok h0) ⟨[],[],[],[]⟩) .z) ?_
 refine LR0 ?_
 refine Nfalse (by kernel_rfl) ?_
 obtain ⟨x1,h1,hF⟩:=oE hF
 refine RJ (.c (strconv_Atoi_ok word x1 h1) .z) ?_
 refine LR0 ?_
 obtain ⟨x2,h2,hF⟩:=oE hF
 refine NRL (((x1.2&&(decide (0≤x1.1)))&&(decide (x1.1≤1000000000)))&&(decide (x2=word))) (fun v:Bool=>([(6,.bool v)],[],[],[])) [.callB (.str x2)] [6] [100000] [] [] (hc (fun (ga0:((x1.2&&(decide (0≤x1.1)))&&(decide (x1.1≤1000000000)))=true)=>(strconv_Itoa_ok x1.1 x2 (ite_t h2 ga0))) .nil) (fun v hv=>?_)
 have hF:=lt_elim hF hv
 cases hF
 exact Wz [] hfin

/- desk.number -/
def desk_number_v4 (box:Act):Unit:=
 ()
theorem desk_number_v4_ok {box r} (hF:desk_number_v4 box=r):Pe Tryz.prog 19 ⟨[],[(100000,(c_Act box))],[],[],[]⟩ [.ptr 100000 0,.int .i32 110] (.ptr 100000 7) ⟨[],[(100000,(c_Act box))],[],[],[]⟩:=by
 refine PT 34 [.tmp 4] [49] Tryz.func19 ?_
 intro Q g hfin
 unfold desk_number_v4 at hF
 refine LR0 ?_
 refine LR0 ?_
 refine Nblk ?_
 refine LR0 ?_
 refine Nfalse (by kernel_rfl) ?_
 refine LR0 ?_
 refine Nfalse (by kernel_rfl) ?_
 refine LR0 ?_
 refine Nfalse (by kernel_rfl) ?_
 refine LR0 ?_
 refine Nfalse (by kernel_rfl) ?_
 refine LR0 ?_
 refine Ntrue (by kernel_rfl) ?_
 refine LR0 ?_
 cases hF
 exact Wz [] hfin

/- desk.set -/
def desk_set_v4 (word:List UInt8) (box:Act):Option (Bool×Act):=
 lt (desk_number_v4 box) fun x=>
 ob (strconv_Atoi word) fun x1=>
 ob (if ((x1.2&&(decide (0≤x1.1)))&&(decide (x1.1≤1000000000)))=true then (strconv_Itoa x1.1) else some default) fun x2=>
 lt (((x1.2&&(decide (0≤x1.1)))&&(decide (x1.1≤1000000000)))&&(decide (x2=word))) fun v=>
 some (v,(⟨box.Kind,box.Order,box.Host,x1.1,box.Row⟩:Act))
theorem desk_set_v4_ok {word box r} (hF:desk_set_v4 word box=some r):Pe Tryz.prog 18 ⟨[],[(100000,(c_Act box))],[],[],[]⟩ [.ptr 100000 0,.int .i32 110,.str word] (.bool r.1) ⟨[],[(100000,(c_Act r.2))],[],[],[]⟩:=by
 refine PT 46 [.tmp 6] [4] Tryz.func18 ?_
 intro Q g hfin
 unfold desk_set_v4 at hF
 refine LR0 ?_
 obtain ⟨x,h0,hF⟩:=lS hF
 refine RJ (.q [100000] [] (Pe.ren (desk_number_v4_ok h0) ⟨[],[],[],[]⟩) .z) ?_
 refine LR0 ?_
 refine Nfalse (by kernel_rfl) ?_
 obtain ⟨x1,h1,hF⟩:=oE hF
 refine RJ (.c (strconv_Atoi_ok word x1 h1) .z) ?_
 refine LR0 ?_
 obtain ⟨x2,h2,hF⟩:=oE hF
 refine NRL (((x1.2&&(decide (0≤x1.1)))&&(decide (x1.1≤1000000000)))&&(decide (x2=word))) (fun v:Bool=>([(6,.bool v)],[],[],[])) [.callB (.str x2)] [6] [100000] [] [] (hc (fun (ga0:((x1.2&&(decide (0≤x1.1)))&&(decide (x1.1≤1000000000)))=true)=>(strconv_Itoa_ok x1.1 x2 (ite_t h2 ga0))) .nil) (fun v hv=>?_)
 have hF:=lt_elim hF hv
 cases hF
 exact Wz [] hfin

/- desk.number -/
def desk_number_v5 (box:Act):Unit:=
 ()
theorem desk_number_v5_ok {box r} (hF:desk_number_v5 box=r):Pe Tryz.prog 19 ⟨[],[(100000,(c_Act box))],[],[],[]⟩ [.ptr 100000 0,.int .i32 115] (.nilp) ⟨[],[(100000,(c_Act box))],[],[],[]⟩:=by
 refine PT 34 [.tmp 4] [49] Tryz.func19 ?_
 intro Q g hfin
 unfold desk_number_v5 at hF
 refine LR0 ?_
 refine LR0 ?_
 refine Nblk ?_
 refine LR0 ?_
 refine Nfalse (by kernel_rfl) ?_
 refine LR0 ?_
 refine Nfalse (by kernel_rfl) ?_
 refine LR0 ?_
 refine Nfalse (by kernel_rfl) ?_
 refine LR0 ?_
 refine Nfalse (by kernel_rfl) ?_
 refine LR0 ?_
 refine Nfalse (by kernel_rfl) ?_
 refine LR0 ?_
 cases hF
 exact Wz [] hfin

/- desk.row -/
def desk_row (box:Act):Unit:=
 ()
theorem desk_row_ok {box r} (hF:desk_row box=r):Pe Tryz.prog 21 ⟨[],[(100000,(c_Act box))],[],[],[]⟩ [.ptr 100000 0,.int .i32 115] (.ptr 100000 5) ⟨[],[(100000,(c_Act box))],[],[],[]⟩:=by
 refine PT 14 [.tmp 4] [52] Tryz.func21 ?_
 intro Q g hfin
 unfold desk_row at hF
 refine LR0 ?_
 refine LR0 ?_
 refine Ntrue (by kernel_rfl) ?_
 refine LR0 ?_
 cases hF
 exact Wz [] hfin

/- desk.plain -/
def desk_plain (s:List UInt8):Option Bool:=
 asrt (s.length≤281474976710656) <|
 some (plainF s)
theorem desk_plain_ok (s:List UInt8) (r:Bool) (hF:desk_plain s=some r):Pe Tryz.prog 37 S.none [.str s] (.bool r) S.none:=by
 unfold desk_plain at hF
 obtain ⟨h,hF⟩:=aE hF
 have hF:=some_elim hF
 rw [← hF]
 exact plain_pe s h

/- desk.set -/
def desk_set_v5 (word:List UInt8) (box:Act):Option (Bool×Act):=
 lt (desk_number_v5 box) fun x=>
 lt (desk_row box) fun x1=>
 ob (desk_plain word) fun x2=>
 some (x2,(⟨box.Kind,(⟨box.Order.Kind,box.Order.ID,box.Order.Host,box.Order.Turn,word⟩:Order),box.Host,box.N,box.Row⟩:Act))
theorem desk_set_v5_ok {word box r} (hF:desk_set_v5 word box=some r):Pe Tryz.prog 18 ⟨[],[(100000,(c_Act box))],[],[],[]⟩ [.ptr 100000 0,.int .i32 115,.str word] (.bool r.1) ⟨[],[(100000,(c_Act r.2))],[],[],[]⟩:=by
 refine PT 46 [.tmp 6] [4] Tryz.func18 ?_
 intro Q g hfin
 unfold desk_set_v5 at hF
 refine LR0 ?_
 obtain ⟨x,h0,hF⟩:=lS hF
 refine RJ (.q [100000] [] (Pe.ren (desk_number_v5_ok h0) ⟨[],[],[],[]⟩) .z) ?_
 refine LR0 ?_
 refine Ntrue (by kernel_rfl) ?_
 obtain ⟨x1,h1,hF⟩:=lS hF
 refine RJ (.q [100000] [] (Pe.ren (desk_row_ok h1) ⟨[],[],[],[]⟩) .z) ?_
 obtain ⟨x2,h2,hF⟩:=oE hF
 refine RJ (.b (desk_plain_ok word x2 h2) .z) ?_
 cases hF
 exact Wz [] hfin

/- desk.number -/
def desk_number_v6 (box:Act):Unit:=
 ()
theorem desk_number_v6_ok {box r} (hF:desk_number_v6 box=r):Pe Tryz.prog 19 ⟨[],[(100000,(c_Act box))],[],[],[]⟩ [.ptr 100000 0,.int .i32 114] (.nilp) ⟨[],[(100000,(c_Act box))],[],[],[]⟩:=by
 refine PT 34 [.tmp 4] [49] Tryz.func19 ?_
 intro Q g hfin
 unfold desk_number_v6 at hF
 refine LR0 ?_
 refine LR0 ?_
 refine Nblk ?_
 refine LR0 ?_
 refine Nfalse (by kernel_rfl) ?_
 refine LR0 ?_
 refine Nfalse (by kernel_rfl) ?_
 refine LR0 ?_
 refine Nfalse (by kernel_rfl) ?_
 refine LR0 ?_
 refine Nfalse (by kernel_rfl) ?_
 refine LR0 ?_
 refine Nfalse (by kernel_rfl) ?_
 refine LR0 ?_
 cases hF
 exact Wz [] hfin

/- desk.row -/
def desk_row_v1 (box:Act):Unit:=
 ()
theorem desk_row_v1_ok {box r} (hF:desk_row_v1 box=r):Pe Tryz.prog 21 ⟨[],[(100000,(c_Act box))],[],[],[]⟩ [.ptr 100000 0,.int .i32 114] (.ptr 100000 8) ⟨[],[(100000,(c_Act box))],[],[],[]⟩:=by
 refine PT 14 [.tmp 4] [52] Tryz.func21 ?_
 intro Q g hfin
 unfold desk_row_v1 at hF
 refine LR0 ?_
 refine LR0 ?_
 refine Nfalse (by kernel_rfl) ?_
 refine LR0 ?_
 cases hF
 exact Wz [] hfin

/- desk.set -/
def desk_set_v6 (word:List UInt8) (box:Act):Option (Bool×Act):=
 lt (desk_number_v6 box) fun x=>
 lt (desk_row_v1 box) fun x1=>
 ob (desk_plain word) fun x2=>
 some (x2,(⟨box.Kind,box.Order,box.Host,box.N,word⟩:Act))
theorem desk_set_v6_ok {word box r} (hF:desk_set_v6 word box=some r):Pe Tryz.prog 18 ⟨[],[(100000,(c_Act box))],[],[],[]⟩ [.ptr 100000 0,.int .i32 114,.str word] (.bool r.1) ⟨[],[(100000,(c_Act r.2))],[],[],[]⟩:=by
 refine PT 46 [.tmp 6] [4] Tryz.func18 ?_
 intro Q g hfin
 unfold desk_set_v6 at hF
 refine LR0 ?_
 obtain ⟨x,h0,hF⟩:=lS hF
 refine RJ (.q [100000] [] (Pe.ren (desk_number_v6_ok h0) ⟨[],[],[],[]⟩) .z) ?_
 refine LR0 ?_
 refine Ntrue (by kernel_rfl) ?_
 obtain ⟨x1,h1,hF⟩:=lS hF
 refine RJ (.q [100000] [] (Pe.ren (desk_row_v1_ok h1) ⟨[],[],[],[]⟩) .z) ?_
 obtain ⟨x2,h2,hF⟩:=oE hF
 refine RJ (.b (desk_plain_ok word x2 h2) .z) ?_
 cases hF
 exact Wz [] hfin

/- desk.Read -/
def desk_Read_B1 (x1:List (List UInt8)) (j c:Int) (v:Act):Option (Act⊕(Act×Fault)):=
 if (decide (c=104))=true then
  if (decide ((x1.length:Int)≤(w64 (j+1))))=true then
   lt (desk_fault 1 (w64 (j+1))) fun x5=>
   some (Sum.inr ((⟨0,(⟨0,0,0,0,([]:List UInt8)⟩:Order),0,0,([]:List UInt8)⟩:Act),x5))
  else
   asrt (0≤w64 (j+1)∧w64 (j+1)<(x1.length:Int)) <|
   ob (desk_set (lget x1 (w64 (j+1))) v) fun x6=>
   if (!x6.1)=true then
    lt (desk_fault 1 (w64 (j+1))) fun x7=>
    some (Sum.inr ((⟨0,(⟨0,0,0,0,([]:List UInt8)⟩:Order),0,0,([]:List UInt8)⟩:Act),x7))
   else
    some (Sum.inl x6.2)
 else
  if (decide (c=105))=true then
   if (decide ((x1.length:Int)≤(w64 (j+1))))=true then
    lt (desk_fault 1 (w64 (j+1))) fun x8=>
    some (Sum.inr ((⟨0,(⟨0,0,0,0,([]:List UInt8)⟩:Order),0,0,([]:List UInt8)⟩:Act),x8))
   else
    asrt (0≤w64 (j+1)∧w64 (j+1)<(x1.length:Int)) <|
    ob (desk_set_v1 (lget x1 (w64 (j+1))) v) fun x9=>
    if (!x9.1)=true then
     lt (desk_fault 1 (w64 (j+1))) fun x10=>
     some (Sum.inr ((⟨0,(⟨0,0,0,0,([]:List UInt8)⟩:Order),0,0,([]:List UInt8)⟩:Act),x10))
    else
     some (Sum.inl x9.2)
  else
   if (decide (c=111))=true then
    if (decide ((x1.length:Int)≤(w64 (j+1))))=true then
     lt (desk_fault 1 (w64 (j+1))) fun x11=>
     some (Sum.inr ((⟨0,(⟨0,0,0,0,([]:List UInt8)⟩:Order),0,0,([]:List UInt8)⟩:Act),x11))
    else
     asrt (0≤w64 (j+1)∧w64 (j+1)<(x1.length:Int)) <|
     ob (desk_set_v2 (lget x1 (w64 (j+1))) v) fun x12=>
     if (!x12.1)=true then
      lt (desk_fault 1 (w64 (j+1))) fun x13=>
      some (Sum.inr ((⟨0,(⟨0,0,0,0,([]:List UInt8)⟩:Order),0,0,([]:List UInt8)⟩:Act),x13))
     else
      some (Sum.inl x12.2)
   else
    if (decide (c=116))=true then
     if (decide ((x1.length:Int)≤(w64 (j+1))))=true then
      lt (desk_fault 1 (w64 (j+1))) fun x14=>
      some (Sum.inr ((⟨0,(⟨0,0,0,0,([]:List UInt8)⟩:Order),0,0,([]:List UInt8)⟩:Act),x14))
     else
      asrt (0≤w64 (j+1)∧w64 (j+1)<(x1.length:Int)) <|
      ob (desk_set_v3 (lget x1 (w64 (j+1))) v) fun x15=>
      if (!x15.1)=true then
       lt (desk_fault 1 (w64 (j+1))) fun x16=>
       some (Sum.inr ((⟨0,(⟨0,0,0,0,([]:List UInt8)⟩:Order),0,0,([]:List UInt8)⟩:Act),x16))
      else
       some (Sum.inl x15.2)
    else
     if (decide (c=110))=true then
      if (decide ((x1.length:Int)≤(w64 (j+1))))=true then
       lt (desk_fault 1 (w64 (j+1))) fun x17=>
       some (Sum.inr ((⟨0,(⟨0,0,0,0,([]:List UInt8)⟩:Order),0,0,([]:List UInt8)⟩:Act),x17))
      else
       asrt (0≤w64 (j+1)∧w64 (j+1)<(x1.length:Int)) <|
       ob (desk_set_v4 (lget x1 (w64 (j+1))) v) fun x18=>
       if (!x18.1)=true then
        lt (desk_fault 1 (w64 (j+1))) fun x19=>
        some (Sum.inr ((⟨0,(⟨0,0,0,0,([]:List UInt8)⟩:Order),0,0,([]:List UInt8)⟩:Act),x19))
       else
        some (Sum.inl x18.2)
     else
      if (decide (c=115))=true then
       if (decide ((x1.length:Int)≤(w64 (j+1))))=true then
        lt (desk_fault 1 (w64 (j+1))) fun x20=>
        some (Sum.inr ((⟨0,(⟨0,0,0,0,([]:List UInt8)⟩:Order),0,0,([]:List UInt8)⟩:Act),x20))
       else
        asrt (0≤w64 (j+1)∧w64 (j+1)<(x1.length:Int)) <|
        ob (desk_set_v5 (lget x1 (w64 (j+1))) v) fun x21=>
        if (!x21.1)=true then
         lt (desk_fault 1 (w64 (j+1))) fun x22=>
         some (Sum.inr ((⟨0,(⟨0,0,0,0,([]:List UInt8)⟩:Order),0,0,([]:List UInt8)⟩:Act),x22))
        else
         some (Sum.inl x21.2)
      else
       asrt (c=114) <|
       if (decide ((x1.length:Int)≤(w64 (j+1))))=true then
        lt (desk_fault 1 (w64 (j+1))) fun x23=>
        some (Sum.inr ((⟨0,(⟨0,0,0,0,([]:List UInt8)⟩:Order),0,0,([]:List UInt8)⟩:Act),x23))
       else
        asrt (0≤w64 (j+1)∧w64 (j+1)<(x1.length:Int)) <|
        ob (desk_set_v6 (lget x1 (w64 (j+1))) v) fun x24=>
        if (!x24.1)=true then
         lt (desk_fault 1 (w64 (j+1))) fun x25=>
         some (Sum.inr ((⟨0,(⟨0,0,0,0,([]:List UInt8)⟩:Order),0,0,([]:List UInt8)⟩:Act),x25))
        else
         some (Sum.inl x24.2)
def desk_Read_E1 (x1:List (List UInt8)) (x2:List verb) (x3:Int) (v:Act):Option (Act×Fault):=
 asrt (0≤x3∧x3<(x2.length:Int)) <|
 if (decide ((w64 ((((lget x2 x3).words).length:Int)+1))<(x1.length:Int)))=true then
  lt (desk_fault 1 (w64 ((((lget x2 x3).words).length:Int)+1))) fun x26=>
  some ((⟨0,(⟨0,0,0,0,([]:List UInt8)⟩:Order),0,0,([]:List UInt8)⟩:Act),x26)
 else
  some (v,(⟨0,0⟩:Fault))
def desk_Read (line:List UInt8):Option (Act×Fault):=
 if (decide (200<(line.length:Int)))=true then
  lt (desk_fault 8 0) fun x=>
  some ((⟨0,(⟨0,0,0,0,([]:List UInt8)⟩:Order),0,0,([]:List UInt8)⟩:Act),x)
 else
  ob (strings_Split line ([32]:List UInt8)) fun x1=>
  lt (desk_verbs) fun x2=>
  ob (slices_IndexFunc_desk_verb_desk_verb x2 x1) fun x3=>
  if (decide (x3<0))=true then
   lt (desk_fault 1 0) fun x4=>
   some ((⟨0,(⟨0,0,0,0,([]:List UInt8)⟩:Order),0,0,([]:List UInt8)⟩:Act),x4)
  else
   asrt (0≤x3∧x3<(x2.length:Int)) <|
   asrt (0≤x3∧x3<(x2.length:Int)) <|
   asrt (∀ b∈((lget x2 x3).words),b.toNat<128) <|
   rngO (fun y=>desk_Read_E1 x1 x2 x3 y) (fun j c y=>desk_Read_B1 x1 j c y) 0 ((lget x2 x3).words) (⟨((lget x2 x3).act).Kind,(⟨(((lget x2 x3).act).Order).Kind,(((lget x2 x3).act).Order).ID,(((lget x2 x3).act).Order).Host,(((lget x2 x3).act).Order).Turn,(((lget x2 x3).act).Order).Row⟩:Order),((lget x2 x3).act).Host,((lget x2 x3).act).N,((lget x2 x3).act).Row⟩:Act)
theorem desk_Read_ok {line r} (hF:desk_Read line=some r):Pe Tryz.prog 6 S.none [.str line] (.tup [.agg (c_Act r.1),.agg (c_Fault r.2)]) S.none:=by
 refine PT 76 [.cell 2 25,.cell 3 28] [25,28] Tryz.func6 ?_
 intro Q g hfin
 unfold desk_Read at hF
 refine LR0 ?_
 refine LR0 ?_
 refine Nif hF ?_ ?_ <;> intro hb hF
 ·obtain ⟨x,h0,hF⟩:=lS hF
  refine RJ (.b (desk_fault_ok h0) .z) ?_
  cases hF
  exact Wz [] hfin
 ·obtain ⟨x1,h1,hF⟩:=oE hF
  refine RJ (.c (strings_Split_ok line ([32]:List UInt8) x1 h1) .z) ?_
  obtain ⟨x2,h2,hF⟩:=lS hF
  refine RJ (.c (desk_verbs_ok h2) .z) ?_
  obtain ⟨x3,h3,hF⟩:=oE hF
  refine RJ (.q [4] [] (Pe.ren (slices_IndexFunc_desk_verb_desk_verb_ok h3) ⟨[(100000,4)],[],[],[]⟩) .z) ?_
  refine LR0 ?_
  refine Nif hF ?_ ?_ <;> intro hb hF
  ·obtain ⟨x4,h4,hF⟩:=lS hF
   refine RJ (.b (desk_fault_ok h4) .z) ?_
   cases hF
   exact Wz [] hfin
  ·obtain ⟨h5,hF⟩:=aE hF
   refine RJ (.i e_verb h5 .z) ?_
   obtain ⟨h6,hF⟩:=aE hF
   refine SRGJ 5 (.i e_verb h6 .z) 35 36 37 38 9 (fun v:Act=>(⟨[(2,.ptr 2 0),(3,.ptr 3 0),(4,.ptr 4 0),(5,.sl 11 (x2.map e_verb)),(6,.i x3),(7,.ptr 7 0),(35,.str ((lget x2 x3).words))],[(2,[.i 0,.i 0,.i 0,.i 0,.i 0,.str [],.i 0,.i 0,.str []]),(3,[.i 0,.i 0]),(4,[.sl 1 (x1.map e_str)]),(7,(c_Act v))],[],[],[]⟩:S)) (⟨((lget x2 x3).act).Kind,(⟨(((lget x2 x3).act).Order).Kind,(((lget x2 x3).act).Order).ID,(((lget x2 x3).act).Order).Host,(((lget x2 x3).act).Order).Turn,(((lget x2 x3).act).Order).Row⟩:Order),((lget x2 x3).act).Host,((lget x2 x3).act).N,((lget x2 x3).act).Row⟩:Act) [2,3,4,5,6,7,35] [2,3,4,7] [] [] [] hF rfl ?_ ?_
   ·intro v hF
    have hF:desk_Read_E1 x1 x2 x3 v=some r:=hF
    unfold desk_Read_E1 at hF
    obtain ⟨h43,hF⟩:=aE hF
    refine RJ (.i e_verb h43 .z) ?_
    refine RJ (.l e_str x1 .z) ?_
    refine Nif hF ?_ ?_ <;> intro hb hF
    ·obtain ⟨x26,h44,hF⟩:=lS hF
     refine RJ (.b (desk_fault_ok h44) .z) ?_
     cases hF
     exact Wz [] hfin
    ·refine LR0 ?_
     cases hF
     exact Wz [] hfin
   ·intro r7 g' Q' hq j b0 v y1 hF dn1
    have hfin:=fun s q=>hq s (hfin s q)
    generalize ((b0.toNat:Nat):Int)=c at hF ⊢
    have hF:desk_Read_B1 x1 j c v=some y1:=hF
    unfold desk_Read_B1 at hF
    cases hc7:(decide (c=104))
    ·have hF:=ite_f hF hc7
     cases hc6:(decide (c=105))
     ·have hF:=ite_f hF hc6
      cases hc5:(decide (c=111))
      ·have hF:=ite_f hF hc5
       cases hc4:(decide (c=116))
       ·have hF:=ite_f hF hc4
        cases hc3:(decide (c=110))
        ·have hF:=ite_f hF hc3
         cases hc2:(decide (c=115))
         ·have hF:=ite_f hF hc2
          obtain ⟨hc1,hF⟩:=aE hF
          rw [hc1]
          refine Nblk ?_
          refine LR0 ?_
          cases hk42:(decide ((x1.length:Int)≤(w64 (j+1))))
          ·have hF:=ite_f hF hk42
           obtain ⟨h39,hF⟩:=aE hF
           obtain ⟨x24,h40,hF⟩:=oE hF
           have p41:=(Pe.ren (desk_set_v6_ok h40) ⟨[(100000,7)],[],[],[]⟩)
           refine NK [(46,false)] [.nat (x1.length:Int),.av (e_str (lget x1 (w64 (j+1)))),cE [7] [] [] [] p41] [2,3,4,5,6,7,8,35,36,55] [2,3,4,7] [] [] ⟨[(2,.ptr 2 0),(3,.ptr 3 0),(4,.ptr 4 0),(5,.sl 11 (x2.map e_verb)),(6,.i x3),(7,.ptr 7 0),(8,.i j),(35,.str ((lget x2 x3).words)),(36,.raw (.pointer (some ⟨r7,0,none⟩))),(55,.bool (!x24.1))],[(2,[.i 0,.i 0,.i 0,.i 0,.i 0,.str [],.i 0,.i 0,.str []]),(3,[.i 0,.i 0]),(4,[.sl 1 (x1.map e_str)]),(7,(c_Act x24.2))],[],[],[]⟩ (hc (len_ok e_str x1) (hc hk42 (hc hk42 (hc hk42 (hc hk42 (hc hk42 (hc (idx_ok e_str h39) (hc hk42 (hc hk42 (hc p41 (hc hk42 (hc hk42 .nil)))))))))))) ?_
           refine Nif hF ?_ ?_ <;> intro hb hF
           ·obtain ⟨x25,h42,hF⟩:=lS hF
            refine RJ (.b (desk_fault_ok h42) .z) ?_
            have hF:=ret_done hF dn1
            cases hF
            exact Wz [] hfin
           ·exact Nsr [] hF
          ·have hF:=ite_t hF hk42
           refine NK [(46,true)] [.nat (x1.length:Int)] [2,3,4,5,6,7,8,35,36,55] [2,3,4,7] [] [] ⟨[(2,.ptr 2 0),(3,.ptr 3 0),(4,.ptr 4 0),(5,.sl 11 (x2.map e_verb)),(6,.i x3),(7,.ptr 7 0),(8,.i j),(35,.str ((lget x2 x3).words)),(36,.raw (.pointer (some ⟨r7,0,none⟩))),(55,.bool true)],[(2,[.i 0,.i 0,.i 0,.i 0,.i 0,.str [],.i 0,.i 0,.str []]),(3,[.i 0,.i 0]),(4,[.sl 1 (x1.map e_str)]),(7,(c_Act v))],[],[],[]⟩ (hc (len_ok e_str x1) (hc hk42 (hc hk42 (hc hk42 (hc hk42 (hc hk42 (hc hk42 (hc hk42 (hc hk42 (hc hk42 .nil)))))))))) ?_
           refine Ntrue (by kernel_rfl) ?_
           obtain ⟨x23,h38,hF⟩:=lS hF
           refine RJ (.b (desk_fault_ok h38) .z) ?_
           have hF:=ret_done hF dn1
           cases hF
           exact Wz [] hfin
         ·have hF:=ite_t hF hc2
          rw [of_decide_eq_true hc2]
          refine Nblk ?_
          refine LR0 ?_
          cases hk41:(decide ((x1.length:Int)≤(w64 (j+1))))
          ·have hF:=ite_f hF hk41
           obtain ⟨h34,hF⟩:=aE hF
           obtain ⟨x21,h35,hF⟩:=oE hF
           have p36:=(Pe.ren (desk_set_v5_ok h35) ⟨[(100000,7)],[],[],[]⟩)
           refine NK [(46,false)] [.nat (x1.length:Int),.av (e_str (lget x1 (w64 (j+1)))),cE [7] [] [] [] p36] [2,3,4,5,6,7,8,35,36,55] [2,3,4,7] [] [] ⟨[(2,.ptr 2 0),(3,.ptr 3 0),(4,.ptr 4 0),(5,.sl 11 (x2.map e_verb)),(6,.i x3),(7,.ptr 7 0),(8,.i j),(35,.str ((lget x2 x3).words)),(36,.raw (.pointer (some ⟨r7,0,none⟩))),(55,.bool (!x21.1))],[(2,[.i 0,.i 0,.i 0,.i 0,.i 0,.str [],.i 0,.i 0,.str []]),(3,[.i 0,.i 0]),(4,[.sl 1 (x1.map e_str)]),(7,(c_Act x21.2))],[],[],[]⟩ (hc (len_ok e_str x1) (hc hk41 (hc hk41 (hc hk41 (hc hk41 (hc hk41 (hc (idx_ok e_str h34) (hc hk41 (hc hk41 (hc p36 (hc hk41 (hc hk41 .nil)))))))))))) ?_
           refine Nif hF ?_ ?_ <;> intro hb hF
           ·obtain ⟨x22,h37,hF⟩:=lS hF
            refine RJ (.b (desk_fault_ok h37) .z) ?_
            have hF:=ret_done hF dn1
            cases hF
            exact Wz [] hfin
           ·exact Nsr [] hF
          ·have hF:=ite_t hF hk41
           refine NK [(46,true)] [.nat (x1.length:Int)] [2,3,4,5,6,7,8,35,36,55] [2,3,4,7] [] [] ⟨[(2,.ptr 2 0),(3,.ptr 3 0),(4,.ptr 4 0),(5,.sl 11 (x2.map e_verb)),(6,.i x3),(7,.ptr 7 0),(8,.i j),(35,.str ((lget x2 x3).words)),(36,.raw (.pointer (some ⟨r7,0,none⟩))),(55,.bool true)],[(2,[.i 0,.i 0,.i 0,.i 0,.i 0,.str [],.i 0,.i 0,.str []]),(3,[.i 0,.i 0]),(4,[.sl 1 (x1.map e_str)]),(7,(c_Act v))],[],[],[]⟩ (hc (len_ok e_str x1) (hc hk41 (hc hk41 (hc hk41 (hc hk41 (hc hk41 (hc hk41 (hc hk41 (hc hk41 (hc hk41 .nil)))))))))) ?_
           refine Ntrue (by kernel_rfl) ?_
           obtain ⟨x20,h33,hF⟩:=lS hF
           refine RJ (.b (desk_fault_ok h33) .z) ?_
           have hF:=ret_done hF dn1
           cases hF
           exact Wz [] hfin
        ·have hF:=ite_t hF hc3
         rw [of_decide_eq_true hc3]
         refine Nblk ?_
         refine LR0 ?_
         cases hk40:(decide ((x1.length:Int)≤(w64 (j+1))))
         ·have hF:=ite_f hF hk40
          obtain ⟨h29,hF⟩:=aE hF
          obtain ⟨x18,h30,hF⟩:=oE hF
          have p31:=(Pe.ren (desk_set_v4_ok h30) ⟨[(100000,7)],[],[],[]⟩)
          refine NK [(46,false)] [.nat (x1.length:Int),.av (e_str (lget x1 (w64 (j+1)))),cE [7] [] [] [] p31] [2,3,4,5,6,7,8,35,36,55] [2,3,4,7] [] [] ⟨[(2,.ptr 2 0),(3,.ptr 3 0),(4,.ptr 4 0),(5,.sl 11 (x2.map e_verb)),(6,.i x3),(7,.ptr 7 0),(8,.i j),(35,.str ((lget x2 x3).words)),(36,.raw (.pointer (some ⟨r7,0,none⟩))),(55,.bool (!x18.1))],[(2,[.i 0,.i 0,.i 0,.i 0,.i 0,.str [],.i 0,.i 0,.str []]),(3,[.i 0,.i 0]),(4,[.sl 1 (x1.map e_str)]),(7,(c_Act x18.2))],[],[],[]⟩ (hc (len_ok e_str x1) (hc hk40 (hc hk40 (hc hk40 (hc hk40 (hc hk40 (hc (idx_ok e_str h29) (hc hk40 (hc hk40 (hc p31 (hc hk40 (hc hk40 .nil)))))))))))) ?_
          refine Nif hF ?_ ?_ <;> intro hb hF
          ·obtain ⟨x19,h32,hF⟩:=lS hF
           refine RJ (.b (desk_fault_ok h32) .z) ?_
           have hF:=ret_done hF dn1
           cases hF
           exact Wz [] hfin
          ·exact Nsr [] hF
         ·have hF:=ite_t hF hk40
          refine NK [(46,true)] [.nat (x1.length:Int)] [2,3,4,5,6,7,8,35,36,55] [2,3,4,7] [] [] ⟨[(2,.ptr 2 0),(3,.ptr 3 0),(4,.ptr 4 0),(5,.sl 11 (x2.map e_verb)),(6,.i x3),(7,.ptr 7 0),(8,.i j),(35,.str ((lget x2 x3).words)),(36,.raw (.pointer (some ⟨r7,0,none⟩))),(55,.bool true)],[(2,[.i 0,.i 0,.i 0,.i 0,.i 0,.str [],.i 0,.i 0,.str []]),(3,[.i 0,.i 0]),(4,[.sl 1 (x1.map e_str)]),(7,(c_Act v))],[],[],[]⟩ (hc (len_ok e_str x1) (hc hk40 (hc hk40 (hc hk40 (hc hk40 (hc hk40 (hc hk40 (hc hk40 (hc hk40 (hc hk40 .nil)))))))))) ?_
          refine Ntrue (by kernel_rfl) ?_
          obtain ⟨x17,h28,hF⟩:=lS hF
          refine RJ (.b (desk_fault_ok h28) .z) ?_
          have hF:=ret_done hF dn1
          cases hF
          exact Wz [] hfin
       ·have hF:=ite_t hF hc4
        rw [of_decide_eq_true hc4]
        refine Nblk ?_
        refine LR0 ?_
        cases hk39:(decide ((x1.length:Int)≤(w64 (j+1))))
        ·have hF:=ite_f hF hk39
         obtain ⟨h24,hF⟩:=aE hF
         obtain ⟨x15,h25,hF⟩:=oE hF
         have p26:=(Pe.ren (desk_set_v3_ok h25) ⟨[(100000,7)],[],[],[]⟩)
         refine NK [(46,false)] [.nat (x1.length:Int),.av (e_str (lget x1 (w64 (j+1)))),cE [7] [] [] [] p26] [2,3,4,5,6,7,8,35,36,55] [2,3,4,7] [] [] ⟨[(2,.ptr 2 0),(3,.ptr 3 0),(4,.ptr 4 0),(5,.sl 11 (x2.map e_verb)),(6,.i x3),(7,.ptr 7 0),(8,.i j),(35,.str ((lget x2 x3).words)),(36,.raw (.pointer (some ⟨r7,0,none⟩))),(55,.bool (!x15.1))],[(2,[.i 0,.i 0,.i 0,.i 0,.i 0,.str [],.i 0,.i 0,.str []]),(3,[.i 0,.i 0]),(4,[.sl 1 (x1.map e_str)]),(7,(c_Act x15.2))],[],[],[]⟩ (hc (len_ok e_str x1) (hc hk39 (hc hk39 (hc hk39 (hc hk39 (hc hk39 (hc (idx_ok e_str h24) (hc hk39 (hc hk39 (hc p26 (hc hk39 (hc hk39 .nil)))))))))))) ?_
         refine Nif hF ?_ ?_ <;> intro hb hF
         ·obtain ⟨x16,h27,hF⟩:=lS hF
          refine RJ (.b (desk_fault_ok h27) .z) ?_
          have hF:=ret_done hF dn1
          cases hF
          exact Wz [] hfin
         ·exact Nsr [] hF
        ·have hF:=ite_t hF hk39
         refine NK [(46,true)] [.nat (x1.length:Int)] [2,3,4,5,6,7,8,35,36,55] [2,3,4,7] [] [] ⟨[(2,.ptr 2 0),(3,.ptr 3 0),(4,.ptr 4 0),(5,.sl 11 (x2.map e_verb)),(6,.i x3),(7,.ptr 7 0),(8,.i j),(35,.str ((lget x2 x3).words)),(36,.raw (.pointer (some ⟨r7,0,none⟩))),(55,.bool true)],[(2,[.i 0,.i 0,.i 0,.i 0,.i 0,.str [],.i 0,.i 0,.str []]),(3,[.i 0,.i 0]),(4,[.sl 1 (x1.map e_str)]),(7,(c_Act v))],[],[],[]⟩ (hc (len_ok e_str x1) (hc hk39 (hc hk39 (hc hk39 (hc hk39 (hc hk39 (hc hk39 (hc hk39 (hc hk39 (hc hk39 .nil)))))))))) ?_
         refine Ntrue (by kernel_rfl) ?_
         obtain ⟨x14,h23,hF⟩:=lS hF
         refine RJ (.b (desk_fault_ok h23) .z) ?_
         have hF:=ret_done hF dn1
         cases hF
         exact Wz [] hfin
      ·have hF:=ite_t hF hc5
       rw [of_decide_eq_true hc5]
       refine Nblk ?_
       refine LR0 ?_
       cases hk38:(decide ((x1.length:Int)≤(w64 (j+1))))
       ·have hF:=ite_f hF hk38
        obtain ⟨h19,hF⟩:=aE hF
        obtain ⟨x12,h20,hF⟩:=oE hF
        have p21:=(Pe.ren (desk_set_v2_ok h20) ⟨[(100000,7)],[],[],[]⟩)
        refine NK [(46,false)] [.nat (x1.length:Int),.av (e_str (lget x1 (w64 (j+1)))),cE [7] [] [] [] p21] [2,3,4,5,6,7,8,35,36,55] [2,3,4,7] [] [] ⟨[(2,.ptr 2 0),(3,.ptr 3 0),(4,.ptr 4 0),(5,.sl 11 (x2.map e_verb)),(6,.i x3),(7,.ptr 7 0),(8,.i j),(35,.str ((lget x2 x3).words)),(36,.raw (.pointer (some ⟨r7,0,none⟩))),(55,.bool (!x12.1))],[(2,[.i 0,.i 0,.i 0,.i 0,.i 0,.str [],.i 0,.i 0,.str []]),(3,[.i 0,.i 0]),(4,[.sl 1 (x1.map e_str)]),(7,(c_Act x12.2))],[],[],[]⟩ (hc (len_ok e_str x1) (hc hk38 (hc hk38 (hc hk38 (hc hk38 (hc hk38 (hc (idx_ok e_str h19) (hc hk38 (hc hk38 (hc p21 (hc hk38 (hc hk38 .nil)))))))))))) ?_
        refine Nif hF ?_ ?_ <;> intro hb hF
        ·obtain ⟨x13,h22,hF⟩:=lS hF
         refine RJ (.b (desk_fault_ok h22) .z) ?_
         have hF:=ret_done hF dn1
         cases hF
         exact Wz [] hfin
        ·exact Nsr [] hF
       ·have hF:=ite_t hF hk38
        refine NK [(46,true)] [.nat (x1.length:Int)] [2,3,4,5,6,7,8,35,36,55] [2,3,4,7] [] [] ⟨[(2,.ptr 2 0),(3,.ptr 3 0),(4,.ptr 4 0),(5,.sl 11 (x2.map e_verb)),(6,.i x3),(7,.ptr 7 0),(8,.i j),(35,.str ((lget x2 x3).words)),(36,.raw (.pointer (some ⟨r7,0,none⟩))),(55,.bool true)],[(2,[.i 0,.i 0,.i 0,.i 0,.i 0,.str [],.i 0,.i 0,.str []]),(3,[.i 0,.i 0]),(4,[.sl 1 (x1.map e_str)]),(7,(c_Act v))],[],[],[]⟩ (hc (len_ok e_str x1) (hc hk38 (hc hk38 (hc hk38 (hc hk38 (hc hk38 (hc hk38 (hc hk38 (hc hk38 (hc hk38 .nil)))))))))) ?_
        refine Ntrue (by kernel_rfl) ?_
        obtain ⟨x11,h18,hF⟩:=lS hF
        refine RJ (.b (desk_fault_ok h18) .z) ?_
        have hF:=ret_done hF dn1
        cases hF
        exact Wz [] hfin
     ·have hF:=ite_t hF hc6
      rw [of_decide_eq_true hc6]
      refine Nblk ?_
      refine LR0 ?_
      cases hk37:(decide ((x1.length:Int)≤(w64 (j+1))))
      ·have hF:=ite_f hF hk37
       obtain ⟨h14,hF⟩:=aE hF
       obtain ⟨x9,h15,hF⟩:=oE hF
       have p16:=(Pe.ren (desk_set_v1_ok h15) ⟨[(100000,7)],[],[],[]⟩)
       refine NK [(46,false)] [.nat (x1.length:Int),.av (e_str (lget x1 (w64 (j+1)))),cE [7] [] [] [] p16] [2,3,4,5,6,7,8,35,36,55] [2,3,4,7] [] [] ⟨[(2,.ptr 2 0),(3,.ptr 3 0),(4,.ptr 4 0),(5,.sl 11 (x2.map e_verb)),(6,.i x3),(7,.ptr 7 0),(8,.i j),(35,.str ((lget x2 x3).words)),(36,.raw (.pointer (some ⟨r7,0,none⟩))),(55,.bool (!x9.1))],[(2,[.i 0,.i 0,.i 0,.i 0,.i 0,.str [],.i 0,.i 0,.str []]),(3,[.i 0,.i 0]),(4,[.sl 1 (x1.map e_str)]),(7,(c_Act x9.2))],[],[],[]⟩ (hc (len_ok e_str x1) (hc hk37 (hc hk37 (hc hk37 (hc hk37 (hc hk37 (hc (idx_ok e_str h14) (hc hk37 (hc hk37 (hc p16 (hc hk37 (hc hk37 .nil)))))))))))) ?_
       refine Nif hF ?_ ?_ <;> intro hb hF
       ·obtain ⟨x10,h17,hF⟩:=lS hF
        refine RJ (.b (desk_fault_ok h17) .z) ?_
        have hF:=ret_done hF dn1
        cases hF
        exact Wz [] hfin
       ·exact Nsr [] hF
      ·have hF:=ite_t hF hk37
       refine NK [(46,true)] [.nat (x1.length:Int)] [2,3,4,5,6,7,8,35,36,55] [2,3,4,7] [] [] ⟨[(2,.ptr 2 0),(3,.ptr 3 0),(4,.ptr 4 0),(5,.sl 11 (x2.map e_verb)),(6,.i x3),(7,.ptr 7 0),(8,.i j),(35,.str ((lget x2 x3).words)),(36,.raw (.pointer (some ⟨r7,0,none⟩))),(55,.bool true)],[(2,[.i 0,.i 0,.i 0,.i 0,.i 0,.str [],.i 0,.i 0,.str []]),(3,[.i 0,.i 0]),(4,[.sl 1 (x1.map e_str)]),(7,(c_Act v))],[],[],[]⟩ (hc (len_ok e_str x1) (hc hk37 (hc hk37 (hc hk37 (hc hk37 (hc hk37 (hc hk37 (hc hk37 (hc hk37 (hc hk37 .nil)))))))))) ?_
       refine Ntrue (by kernel_rfl) ?_
       obtain ⟨x8,h13,hF⟩:=lS hF
       refine RJ (.b (desk_fault_ok h13) .z) ?_
       have hF:=ret_done hF dn1
       cases hF
       exact Wz [] hfin
    ·have hF:=ite_t hF hc7
     rw [of_decide_eq_true hc7]
     refine Nblk ?_
     refine LR0 ?_
     cases hk36:(decide ((x1.length:Int)≤(w64 (j+1))))
     ·have hF:=ite_f hF hk36
      obtain ⟨h9,hF⟩:=aE hF
      obtain ⟨x6,h10,hF⟩:=oE hF
      have p11:=(Pe.ren (desk_set_ok h10) ⟨[(100000,7)],[],[],[]⟩)
      refine NK [(46,false)] [.nat (x1.length:Int),.av (e_str (lget x1 (w64 (j+1)))),cE [7] [] [] [] p11] [2,3,4,5,6,7,8,35,36,55] [2,3,4,7] [] [] ⟨[(2,.ptr 2 0),(3,.ptr 3 0),(4,.ptr 4 0),(5,.sl 11 (x2.map e_verb)),(6,.i x3),(7,.ptr 7 0),(8,.i j),(35,.str ((lget x2 x3).words)),(36,.raw (.pointer (some ⟨r7,0,none⟩))),(55,.bool (!x6.1))],[(2,[.i 0,.i 0,.i 0,.i 0,.i 0,.str [],.i 0,.i 0,.str []]),(3,[.i 0,.i 0]),(4,[.sl 1 (x1.map e_str)]),(7,(c_Act x6.2))],[],[],[]⟩ (hc (len_ok e_str x1) (hc hk36 (hc hk36 (hc hk36 (hc hk36 (hc hk36 (hc (idx_ok e_str h9) (hc hk36 (hc hk36 (hc p11 (hc hk36 (hc hk36 .nil)))))))))))) ?_
      refine Nif hF ?_ ?_ <;> intro hb hF
      ·obtain ⟨x7,h12,hF⟩:=lS hF
       refine RJ (.b (desk_fault_ok h12) .z) ?_
       have hF:=ret_done hF dn1
       cases hF
       exact Wz [] hfin
      ·exact Nsr [] hF
     ·have hF:=ite_t hF hk36
      refine NK [(46,true)] [.nat (x1.length:Int)] [2,3,4,5,6,7,8,35,36,55] [2,3,4,7] [] [] ⟨[(2,.ptr 2 0),(3,.ptr 3 0),(4,.ptr 4 0),(5,.sl 11 (x2.map e_verb)),(6,.i x3),(7,.ptr 7 0),(8,.i j),(35,.str ((lget x2 x3).words)),(36,.raw (.pointer (some ⟨r7,0,none⟩))),(55,.bool true)],[(2,[.i 0,.i 0,.i 0,.i 0,.i 0,.str [],.i 0,.i 0,.str []]),(3,[.i 0,.i 0]),(4,[.sl 1 (x1.map e_str)]),(7,(c_Act v))],[],[],[]⟩ (hc (len_ok e_str x1) (hc hk36 (hc hk36 (hc hk36 (hc hk36 (hc hk36 (hc hk36 (hc hk36 (hc hk36 (hc hk36 .nil)))))))))) ?_
      refine Ntrue (by kernel_rfl) ?_
      obtain ⟨x5,h8,hF⟩:=lS hF
      refine RJ (.b (desk_fault_ok h8) .z) ?_
      have hF:=ret_done hF dn1
      cases hF
      exact Wz [] hfin

/- desk.Write -/
def desk_Write_J1 (v:Unit):Option (List UInt8×Fault):=
 lt (desk_fault 5 0) fun x1=>
 some (([]:List UInt8),x1)
def desk_Write_B2 (a0:Act) (j c:Int) (v2:List UInt8):Option ((List UInt8)⊕(Int⊕(List UInt8×Fault))):=
 if (decide (c=104))=true then
  lt (desk_number a0) fun x2=>
  ob (strconv_Itoa a0.Host) fun x3=>
  asrt ((([32]:List UInt8).length:Int)+x3.length≤9223372036854775807) <|
  asrt ((v2.length:Int)+(([32]:List UInt8)++x3).length≤9223372036854775807) <|
  some (Sum.inl (v2++(([32]:List UInt8)++x3)))
 else
  if (decide (c=105))=true then
   lt (desk_number_v1 a0) fun x4=>
   ob (strconv_Itoa a0.Order.ID) fun x5=>
   asrt ((([32]:List UInt8).length:Int)+x5.length≤9223372036854775807) <|
   asrt ((v2.length:Int)+(([32]:List UInt8)++x5).length≤9223372036854775807) <|
   some (Sum.inl (v2++(([32]:List UInt8)++x5)))
  else
   if (decide (c=111))=true then
    lt (desk_number_v2 a0) fun x6=>
    ob (strconv_Itoa a0.Order.Host) fun x7=>
    asrt ((([32]:List UInt8).length:Int)+x7.length≤9223372036854775807) <|
    asrt ((v2.length:Int)+(([32]:List UInt8)++x7).length≤9223372036854775807) <|
    some (Sum.inl (v2++(([32]:List UInt8)++x7)))
   else
    if (decide (c=116))=true then
     lt (desk_number_v3 a0) fun x8=>
     ob (strconv_Itoa a0.Order.Turn) fun x9=>
     asrt ((([32]:List UInt8).length:Int)+x9.length≤9223372036854775807) <|
     asrt ((v2.length:Int)+(([32]:List UInt8)++x9).length≤9223372036854775807) <|
     some (Sum.inl (v2++(([32]:List UInt8)++x9)))
    else
     if (decide (c=110))=true then
      lt (desk_number_v4 a0) fun x10=>
      ob (strconv_Itoa a0.N) fun x11=>
      asrt ((([32]:List UInt8).length:Int)+x11.length≤9223372036854775807) <|
      asrt ((v2.length:Int)+(([32]:List UInt8)++x11).length≤9223372036854775807) <|
      some (Sum.inl (v2++(([32]:List UInt8)++x11)))
     else
      if (decide (c=115))=true then
       lt (desk_number_v5 a0) fun x12=>
       lt (desk_row a0) fun x13=>
       asrt ((([32]:List UInt8).length:Int)+a0.Order.Row.length≤9223372036854775807) <|
       asrt ((v2.length:Int)+(([32]:List UInt8)++a0.Order.Row).length≤9223372036854775807) <|
       some (Sum.inl (v2++(([32]:List UInt8)++a0.Order.Row)))
      else
       asrt (c=114) <|
       lt (desk_number_v6 a0) fun x14=>
       lt (desk_row_v1 a0) fun x15=>
       asrt ((([32]:List UInt8).length:Int)+a0.Row.length≤9223372036854775807) <|
       asrt ((v2.length:Int)+(([32]:List UInt8)++a0.Row).length≤9223372036854775807) <|
       some (Sum.inl (v2++(([32]:List UInt8)++a0.Row)))
def desk_Write_E2 (a0:Act) (v1:Int) (v2:List UInt8):Option (Int⊕(List UInt8×Fault)):=
 ob (desk_Read v2) fun x16=>
 if ((decide (x16.2.Code=0))&&(decide (a0.Kind=x16.1.Kind)&&(decide (a0.Order.Kind=x16.1.Order.Kind)&&(decide (a0.Order.ID=x16.1.Order.ID)&&(decide (a0.Order.Host=x16.1.Order.Host)&&(decide (a0.Order.Turn=x16.1.Order.Turn)&&(decide (a0.Order.Row=x16.1.Order.Row)&&(decide (a0.Host=x16.1.Host)&&(decide (a0.N=x16.1.N)&&(decide (a0.Row=x16.1.Row)&&true))))))))))=true then
  some (Sum.inr (v2,x16.2))
 else
  some (Sum.inl (w64 (v1+1)))
def desk_Write_B1 (a0:Act) (x:List verb) (v1:Int):Option (Int⊕(List UInt8×Fault)):=
 if (decide (v1<(x.length:Int)))=true then
  asrt (0≤v1∧v1<(x.length:Int)) <|
  asrt (∀ b∈((lget x v1).words),b.toNat<128) <|
  rngO (fun y=>desk_Write_E2 a0 v1 y) (fun j c y=>desk_Write_B2 a0 j c y) 0 ((lget x v1).words) ((lget x v1).word)
 else
  inrO (desk_Write_J1 ())
def desk_Write_L1 (a0:Act) (x:List verb) (v0:Int):Option (List UInt8×Fault):=
 loopO (fun y=>desk_Write_B1 a0 x y) v0
def desk_Write (a0:Act):Option (List UInt8×Fault):=
 lt (desk_verbs) fun x=>
 desk_Write_L1 a0 x 0
theorem desk_Write_ok {a0 r} (hF:desk_Write a0=some r):Pe Tryz.prog 7 S.none [.agg (c_Act a0)] (.tup [.str r.1,.agg (c_Fault r.2)]) S.none:=by
 refine PT 61 [.tmp 2,.cell 3 28] [9,28] Tryz.func7 ?_
 intro Q g hfin
 unfold desk_Write at hF
 refine LR0 ?_
 obtain ⟨x,h0,hF⟩:=lS hF
 refine RJ (.c (desk_verbs_ok h0) (.l e_verb x .z)) ?_
 refine NmS (fun v=>desk_Write_J1 v=some r) (fun Z v=>Z.up [3] [3] [] [] [] [] [] []) ?_ ?_
 ·refine Nblk ?_
  unfold desk_Write_L1 at hF
  refine Nits hF [] (fun Z v1=>Z.up [1,3,12,13,14] [1,3] [] [] [(14,.i v1)] [] [] []) ?_
  intro n1 v1 y1 hF ih1 dn1
  unfold desk_Write_B1 at hF
  refine LR0 ?_
  refine Nif hF ?_ ?_ <;> intro hb hF
  ·refine Nblk ?_
   obtain ⟨h2,hF⟩:=aE hF
   refine RJ (.i e_verb h2 .z) ?_
   refine LR0 ?_
   refine SRG 2 [] .nil 21 22 23 24 9 (fun v2:List UInt8=>(⟨[(1,.ptr 1 0),(3,.ptr 3 0),(6,.str v2),(12,.sl 11 (x.map e_verb)),(13,.i (x.length:Int)),(14,.i v1),(21,.str ((lget x v1).words))],[(1,(c_Act a0)),(3,[.i 0,.i 0])],[],[],[]⟩:S)) ((lget x v1).word) [1,3,6,12,13,14,21] [1,3] [] [] [] hF rfl ?_ ?_
   ·intro v2 hF
    have hF:desk_Write_E2 a0 v1 v2=some y1:=hF
    unfold desk_Write_E2 at hF
    obtain ⟨x16,h32,hF⟩:=oE hF
    refine RJ (.b (desk_Read_ok h32) .z) ?_
    refine LR0 ?_
    refine Nif hF ?_ ?_ <;> intro hb hF
    ·refine LD0 ?_
     have hF:=ret_done hF dn1
     cases hF
     exact Wz [] hfin
    ·refine LR0 ?_
     exact Nrnq [] hF ih1
   ·intro r3 g' Q' hq j b0 v2 y2 hF dn2
    have hfin:=fun s q=>hq s (hfin s q)
    generalize ((b0.toNat:Nat):Int)=c at hF ⊢
    have hF:desk_Write_B2 a0 j c v2=some y2:=hF
    unfold desk_Write_B2 at hF
    cases hc7:(decide (c=104))
    ·have hF:=ite_f hF hc7
     cases hc6:(decide (c=105))
     ·have hF:=ite_f hF hc6
      cases hc5:(decide (c=111))
      ·have hF:=ite_f hF hc5
       cases hc4:(decide (c=116))
       ·have hF:=ite_f hF hc4
        cases hc3:(decide (c=110))
        ·have hF:=ite_f hF hc3
         cases hc2:(decide (c=115))
         ·have hF:=ite_f hF hc2
          obtain ⟨hc1,hF⟩:=aE hF
          rw [hc1]
          refine Nblk ?_
          refine LR0 ?_
          obtain ⟨x14,h28,hF⟩:=lS hF
          refine RJ (.q [1] [] (Pe.ren (desk_number_v6_ok h28) ⟨[(100000,1)],[],[],[]⟩) .z) ?_
          refine LR0 ?_
          refine Nfalse (by kernel_rfl) ?_
          obtain ⟨x15,h29,hF⟩:=lS hF
          obtain ⟨h30,h31,hF⟩:=asrt2 hF
          refine RJ (.q [1] [] (Pe.ren (desk_row_v1_ok h29) ⟨[(100000,1)],[],[],[]⟩) (.g (cat_ok h30) (.g (cat_ok h31) .z))) ?_
          exact Nsr [] hF
         ·have hF:=ite_t hF hc2
          rw [of_decide_eq_true hc2]
          refine Nblk ?_
          refine LR0 ?_
          obtain ⟨x12,h24,hF⟩:=lS hF
          refine RJ (.q [1] [] (Pe.ren (desk_number_v5_ok h24) ⟨[(100000,1)],[],[],[]⟩) .z) ?_
          refine LR0 ?_
          refine Nfalse (by kernel_rfl) ?_
          obtain ⟨x13,h25,hF⟩:=lS hF
          obtain ⟨h26,h27,hF⟩:=asrt2 hF
          refine RJ (.q [1] [] (Pe.ren (desk_row_ok h25) ⟨[(100000,1)],[],[],[]⟩) (.g (cat_ok h26) (.g (cat_ok h27) .z))) ?_
          exact Nsr [] hF
        ·have hF:=ite_t hF hc3
         rw [of_decide_eq_true hc3]
         refine Nblk ?_
         refine LR0 ?_
         obtain ⟨x10,h20,hF⟩:=lS hF
         refine RJ (.q [1] [] (Pe.ren (desk_number_v4_ok h20) ⟨[(100000,1)],[],[],[]⟩) .z) ?_
         refine LR0 ?_
         refine Ntrue (by kernel_rfl) ?_
         obtain ⟨x11,h21,hF⟩:=oE hF
         obtain ⟨h22,h23,hF⟩:=asrt2 hF
         refine RJ (.b (strconv_Itoa_ok a0.N x11 h21) (.g (cat_ok h22) (.g (cat_ok h23) .z))) ?_
         exact Nsr [] hF
       ·have hF:=ite_t hF hc4
        rw [of_decide_eq_true hc4]
        refine Nblk ?_
        refine LR0 ?_
        obtain ⟨x8,h16,hF⟩:=lS hF
        refine RJ (.q [1] [] (Pe.ren (desk_number_v3_ok h16) ⟨[(100000,1)],[],[],[]⟩) .z) ?_
        refine LR0 ?_
        refine Ntrue (by kernel_rfl) ?_
        obtain ⟨x9,h17,hF⟩:=oE hF
        obtain ⟨h18,h19,hF⟩:=asrt2 hF
        refine RJ (.b (strconv_Itoa_ok a0.Order.Turn x9 h17) (.g (cat_ok h18) (.g (cat_ok h19) .z))) ?_
        exact Nsr [] hF
      ·have hF:=ite_t hF hc5
       rw [of_decide_eq_true hc5]
       refine Nblk ?_
       refine LR0 ?_
       obtain ⟨x6,h12,hF⟩:=lS hF
       refine RJ (.q [1] [] (Pe.ren (desk_number_v2_ok h12) ⟨[(100000,1)],[],[],[]⟩) .z) ?_
       refine LR0 ?_
       refine Ntrue (by kernel_rfl) ?_
       obtain ⟨x7,h13,hF⟩:=oE hF
       obtain ⟨h14,h15,hF⟩:=asrt2 hF
       refine RJ (.b (strconv_Itoa_ok a0.Order.Host x7 h13) (.g (cat_ok h14) (.g (cat_ok h15) .z))) ?_
       exact Nsr [] hF
     ·have hF:=ite_t hF hc6
      rw [of_decide_eq_true hc6]
      refine Nblk ?_
      refine LR0 ?_
      obtain ⟨x4,h8,hF⟩:=lS hF
      refine RJ (.q [1] [] (Pe.ren (desk_number_v1_ok h8) ⟨[(100000,1)],[],[],[]⟩) .z) ?_
      refine LR0 ?_
      refine Ntrue (by kernel_rfl) ?_
      obtain ⟨x5,h9,hF⟩:=oE hF
      obtain ⟨h10,h11,hF⟩:=asrt2 hF
      refine RJ (.b (strconv_Itoa_ok a0.Order.ID x5 h9) (.g (cat_ok h10) (.g (cat_ok h11) .z))) ?_
      exact Nsr [] hF
    ·have hF:=ite_t hF hc7
     rw [of_decide_eq_true hc7]
     refine Nblk ?_
     refine LR0 ?_
     obtain ⟨x2,h4,hF⟩:=lS hF
     refine RJ (.q [1] [] (Pe.ren (desk_number_ok h4) ⟨[(100000,1)],[],[],[]⟩) .z) ?_
     refine LR0 ?_
     refine Ntrue (by kernel_rfl) ?_
     obtain ⟨x3,h5,hF⟩:=oE hF
     obtain ⟨h6,h7,hF⟩:=asrt2 hF
     refine RJ (.b (strconv_Itoa_ok a0.Host x3 h5) (.g (cat_ok h6) (.g (cat_ok h7) .z))) ?_
     exact Nsr [] hF
  ·refine Nexit rfl ?_
   have hF:=inrO_done hF dn1
   exact metQ () [] hF
 ·intro v hF
  unfold desk_Write_J1 at hF
  obtain ⟨x1,h1,hF⟩:=lS hF
  refine RJ (.b (desk_fault_ok h1) .z) ?_
  cases hF
  exact Wz [] hfin

/- tabularyref.F -/
def R_F (code at0:Int):Fault:=
 (⟨code,at0⟩:Fault)
theorem R_F_ok {code at0 r} (hF:R_F code at0=r):Pe Tryz.prog 10 S.none [.i code,.i at0] (.agg (c_Fault r)) S.none:=by
 refine PT 8 [.cell 4 28] [28] Tryz.func10 ?_
 intro Q g hfin
 unfold R_F at hF
 refine LR0 ?_
 refine LR0 ?_
 cases hF
 exact Wz [] hfin

/- tabularyref.SplitAt -/
def R_SplitAt_J1 (s0:List UInt8) (v:List (List UInt8)×Int):Option (List (List UInt8)):=
 asrt (0≤v.2∧v.2≤(s0.length:Int)) <|
 asrt (((v.1++([(ldrop s0 v.2)]:List (List UInt8))).length:Int)*16≤140737488351232) <|
 some (v.1++([(ldrop s0 v.2)]:List (List UInt8)))
def R_SplitAt_B1 (s0:List UInt8) (c:UInt8) (v1:List (List UInt8)×Int×Int):Option ((List (List UInt8)×Int×Int)⊕(List (List UInt8))):=
 if (decide (v1.2.2<(s0.length:Int)))=true then
  asrt (0≤v1.2.2∧v1.2.2<(s0.length:Int)) <|
  ob (
   if (decide (((lget s0 v1.2.2).toNat:Int)=(c.toNat:Int)))=true then
    asrt (0≤v1.2.1∧v1.2.1≤v1.2.2∧v1.2.2≤(s0.length:Int)) <|
    asrt (((v1.1++([(ldrop (ltake s0 v1.2.2) v1.2.1)]:List (List UInt8))).length:Int)*16≤140737488351232) <|
    some ((v1.1++([(ldrop (ltake s0 v1.2.2) v1.2.1)]:List (List UInt8))),w64 (v1.2.2+1))
   else
    some (v1.1,v1.2.1)) fun v2=>
  some (Sum.inl (v2.1,v2.2,w64 (v1.2.2+1)))
 else
  inrO (R_SplitAt_J1 s0 (v1.1,v1.2.1))
def R_SplitAt_L1 (s0:List UInt8) (c:UInt8) (v0:List (List UInt8)×Int×Int):Option (List (List UInt8)):=
 loopO (fun y=>R_SplitAt_B1 s0 c y) v0
def R_SplitAt (s0:List UInt8) (c:UInt8):Option (List (List UInt8)):=
 R_SplitAt_L1 s0 c (([]:List (List UInt8)),0,0)
theorem R_SplitAt_ok {s0 c r} (hF:R_SplitAt s0 c=some r):Pe Tryz.prog 22 (.w []) [.str s0,.int .u8 ((c).toNat:Int)] (.row 25 1) ⟨[],[],[(25,.z 9 1 1 (r.map e_str))],[],[]⟩:=by
 refine PT 34 [.tmp 4] [36] Tryz.func22 ?_
 intro Q g hfin
 unfold R_SplitAt at hF
 refine LR0 ?_
 refine LR0 ?_
 refine LR0 ?_
 refine NR [] [0,1,5,6,7] [] [] [(0,.str s0),(1,.int .u8 ((c).toNat:Int)),(5,.nils),(6,.i 0),(7,.i 0)] .nil ?_
 refine NmQ (fun v=>R_SplitAt_J1 s0 v=some r) (fun v=>⟨[(0,.str s0),(5,.row 25 0),(6,.i v.2)],[],[(25,.z 9 1 0 (v.1.map e_str))],[],[]⟩) ?_ ?_
 ·refine Nblk ?_
  unfold R_SplitAt_L1 at hF
  refine Wk_nilrow 5 60000 9 1 rfl rfl rfl ?_
  refine Wk_trim (fs:=[0,1,5,6,7]) (bs:=[]) (rs:=[60000]) (ms:=[]) (aa:=[]) (nv:=[]) rfl ?_
  refine Wk_ren' ⟨[],[(60000,25)],[],[]⟩ rfl ?_
  refine Nitr hF [] (fun v1=>⟨[(0,.str s0),(1,.int .u8 ((c).toNat:Int)),(5,.row 25 0),(6,.i v1.2.1),(7,.i v1.2.2)],[],[(25,.z 9 1 0 (v1.1.map e_str))],[],[]⟩) ?_
  intro n1 v1 y1 hF ih1 dn1
  unfold R_SplitAt_B1 at hF
  refine LR0 ?_
  refine Nif hF ?_ ?_ <;> intro hb hF
  ·refine Nblk ?_
   obtain ⟨h2,hF⟩:=aE hF
   refine RJ (.u h2 .z) ?_
   obtain ⟨v2,hv,hF⟩:=oE hF
   refine NmT (fun Z=>Z.up [0,1,5,6,7] [] [25] [] [(6,.i v2.2)] [] [(25,.z 9 1 0 (v2.1.map e_str))] []) ?_ ?_
   ·have hF:=hv
    refine Nif hF ?_ ?_ <;> intro hb hF
    ·obtain ⟨h3,hF⟩:=aE hF
     obtain ⟨h4,hF⟩:=aE hF
     refine RJ (.g (st11_ok h3) (.a (.sealed) (.p e_str h4 .z))) ?_
     refine LR0 ?_
     cases hF
     exact met' [(25,⟨0,true,true,false⟩)]
    ·cases hF
     exact met' []
   ·refine LR0 ?_
    exact Nrnq [] hF ih1
  ·refine Nexit rfl ?_
   have hF:=inrO_done hF dn1
   exact metQ (v1.1,v1.2.1) [] hF
 ·intro v hF
  unfold R_SplitAt_J1 at hF
  obtain ⟨h0,h1,hF⟩:=asrt2 hF
  refine RJ (.g (st10_ok h0) (.a (.sealed) (.p e_str h1 .z))) ?_
  cases hF
  exact Wz [] hfin

/- tabularyref.Shape -/
def R_Shape (word:List UInt8):List UInt8×Bool:=
 lt (
  if (decide (word=([99,111,109,101]:List UInt8)))=true then
   decide (word=([99,111,109,101]:List UInt8))
  else
   if (decide (word=([108,111,115,116]:List UInt8)))=true then
    decide (word=([108,111,115,116]:List UInt8))
   else
    if (decide (word=([99,108,111,115,101]:List UInt8)))=true then
     decide (word=([99,108,111,115,101]:List UInt8))
    else
     if (decide (word=([101,110,100]:List UInt8)))=true then
      decide (word=([101,110,100]:List UInt8))
     else
      if (decide (word=([112,111,115,116]:List UInt8)))=true then
       decide (word=([112,111,115,116]:List UInt8))
      else
       decide (word=([100,114,111,112]:List UInt8))) fun (v:Bool)=>
 if v=true then
  (([110]:List UInt8),true)
 else
  if (decide (word=([111,112,101,110]:List UInt8)))=true then
   (([110,110]:List UInt8),true)
  else
   lt (
    if (decide (word=([111,112,101,110,101,100]:List UInt8)))=true then
     decide (word=([111,112,101,110,101,100]:List UInt8))
    else
     decide (word=([99,108,111,115,101,100]:List UInt8))) fun (v1:Bool)=>
   if v1=true then
    (([110,110,110]:List UInt8),true)
   else
    lt (
     if (decide (word=([115,112,108,105,116]:List UInt8)))=true then
      decide (word=([115,112,108,105,116]:List UInt8))
     else
      if (decide (word=([112,117,116]:List UInt8)))=true then
       decide (word=([112,117,116]:List UInt8))
      else
       decide (word=([103,101,116]:List UInt8))) fun (v2:Bool)=>
    if v2=true then
     (([110,114]:List UInt8),true)
    else
     lt (
      if (decide (word=([102,108,117,115,104]:List UInt8)))=true then
       decide (word=([102,108,117,115,104]:List UInt8))
      else
       if (decide (word=([99,117,116]:List UInt8)))=true then
        decide (word=([99,117,116]:List UInt8))
       else
        decide (word=([112,97,99,107]:List UInt8))) fun (v3:Bool)=>
     if v3=true then
      (([114]:List UInt8),true)
     else
      (([]:List UInt8),false)
theorem R_Shape_ok {word r} (hF:R_Shape word=r):Pe Tryz.prog 23 S.none [.str word] (.tup [.str r.1,.bool r.2]) S.none:=by
 refine PT 25 [.tmp 2,.tmp 3] [9,4] Tryz.func23 ?_
 intro Q g hfin
 unfold R_Shape at hF
 refine LR0 ?_
 refine LR0 ?_
 refine Nblk ?_
 refine LR0 ?_
 obtain ⟨v,hv,hF⟩:=lS hF
 refine NmT (fun Z=>Z.up [4,5] [] [] [] [(5,.bool v)] [] [] []) ?_ ?_
 ·have hF:=hv
  refine Nif hF ?_ ?_ <;> intro hb hF
  ·cases hF
   exact met' []
  ·refine LR0 ?_
   refine Nif hF ?_ ?_ <;> intro hb hF
   ·cases hF
    exact met' []
   ·refine LR0 ?_
    refine Nif hF ?_ ?_ <;> intro hb hF
    ·cases hF
     exact met' []
    ·refine LR0 ?_
     refine Nif hF ?_ ?_ <;> intro hb hF
     ·cases hF
      exact met' []
     ·refine LR0 ?_
      refine Nif hF ?_ ?_ <;> intro hb hF
      ·cases hF
       exact met' []
      ·refine LR0 ?_
       cases hF
       exact met' []
 ·refine Nif hF ?_ ?_ <;> intro hb hF
  ·refine LR0 ?_
   cases hF
   exact Wz [] hfin
  ·refine LR0 ?_
   refine Nif hF ?_ ?_ <;> intro hb hF
   ·refine LR0 ?_
    cases hF
    exact Wz [] hfin
   ·refine LR0 ?_
    obtain ⟨v1,hv,hF⟩:=lS hF
    refine Nmeet (⟨[(4,.str word),(14,.bool v1)],[],[],[],[]⟩:S) ?_ ?_
    ·have hF:=hv
     refine Nif hF ?_ ?_ <;> intro hb hF
     ·cases hF
      exact met' []
     ·refine LR0 ?_
      cases hF
      exact met' []
    ·refine Nif hF ?_ ?_ <;> intro hb hF
     ·refine LR0 ?_
      cases hF
      exact Wz [] hfin
     ·refine LR0 ?_
      obtain ⟨v2,hv,hF⟩:=lS hF
      refine Nmeet (⟨[(4,.str word),(17,.bool v2)],[],[],[],[]⟩:S) ?_ ?_
      ·have hF:=hv
       refine Nif hF ?_ ?_ <;> intro hb hF
       ·cases hF
        exact met' []
       ·refine LR0 ?_
        refine Nif hF ?_ ?_ <;> intro hb hF
        ·cases hF
         exact met' []
        ·refine LR0 ?_
         cases hF
         exact met' []
      ·refine Nif hF ?_ ?_ <;> intro hb hF
       ·refine LR0 ?_
        cases hF
        exact Wz [] hfin
       ·refine LR0 ?_
        obtain ⟨v3,hv,hF⟩:=lS hF
        refine Nmeet (⟨[(21,.bool v3)],[],[],[],[]⟩:S) ?_ ?_
        ·have hF:=hv
         refine Nif hF ?_ ?_ <;> intro hb hF
         ·cases hF
          exact met' []
         ·refine LR0 ?_
          refine Nif hF ?_ ?_ <;> intro hb hF
          ·cases hF
           exact met' []
          ·refine LR0 ?_
           cases hF
           exact met' []
        ·refine Nif hF ?_ ?_ <;> intro hb hF
         ·refine LR0 ?_
          cases hF
          exact Wz [] hfin
         ·refine LR0 ?_
          cases hF
          exact Wz [] hfin

/- tabularyref.RowFine -/
def R_RowFine (s0:List UInt8):Bool:=
 (decide (0<(s0.length:Int)))&&(decide ((s0.length:Int)≤40))
theorem R_RowFine_ok {s0 r} (hF:R_RowFine s0=r):Pe Tryz.prog 40 S.none [.str s0] (.bool r) S.none:=by
 refine PT 11 [.tmp 2] [4] Tryz.func40 ?_
 intro Q g hfin
 unfold R_RowFine at hF
 refine LR0 ?_
 refine LR0 ?_
 cases hF
 exact Wz [] hfin

/- tabularyref.RowSaid -/
def R_RowSaid_J1 (s0:List UInt8) (v:Unit):Option Bool:=
 lt (R_RowFine s0) fun x=>
 some x
def R_RowSaid_B1 (s0:List UInt8) (v1:Int):Option (Int⊕Bool):=
 if (decide (v1<(s0.length:Int)))=true then
  asrt (0≤v1∧v1<(s0.length:Int)) <|
  asrt ((!(decide (((lget s0 v1).toNat:Int)<((33:UInt8).toNat:Int))))=true→0≤v1∧v1<(s0.length:Int)) <|
  if ((decide (((lget s0 v1).toNat:Int)<((33:UInt8).toNat:Int)))||(decide (((126:UInt8).toNat:Int)<((lget s0 v1).toNat:Int))))=true then
   some (Sum.inr false)
  else
   some (Sum.inl (w64 (v1+1)))
 else
  inrO (R_RowSaid_J1 s0 ())
def R_RowSaid_L1 (s0:List UInt8) (v0:Int):Option Bool:=
 loopO (fun y=>R_RowSaid_B1 s0 y) v0
def R_RowSaid (s0:List UInt8):Option Bool:=
 R_RowSaid_L1 s0 0
theorem R_RowSaid_ok {s0 r} (hF:R_RowSaid s0=some r):Pe Tryz.prog 24 S.none [.str s0] (.bool r) S.none:=by
 refine PT 22 [.tmp 2] [4] Tryz.func24 ?_
 intro Q g hfin
 unfold R_RowSaid at hF
 refine LR0 ?_
 refine LR0 ?_
 refine NmS (fun v=>R_RowSaid_J1 s0 v=some r) (fun Z v=>Z.up [0] [] [] [] [] [] [] []) ?_ ?_
 ·refine Nblk ?_
  unfold R_RowSaid_L1 at hF
  refine Nitr hF [] (fun v1=>⟨[(0,.str s0),(3,.i v1)],[],[],[],[]⟩) ?_
  intro n1 v1 y1 hF ih1 dn1
  unfold R_RowSaid_B1 at hF
  refine LR0 ?_
  refine Nif hF ?_ ?_ <;> intro hb hF
  ·refine Nblk ?_
   obtain ⟨h1,h2,hF⟩:=asrt2 hF
   refine RJ (.u h1 (.a (.u8 (lget s0 v1)) (.g (fun (ga0:(!(decide (((lget s0 v1).toNat:Int)<((33:UInt8).toNat:Int))))=true)=>(idxS_ok (h2 ga0))) .z))) ?_
   refine Nif hF ?_ ?_ <;> intro hb hF
   ·refine LR0 ?_
    have hF:=ret_done hF dn1
    cases hF
    exact Wz [] hfin
   ·refine LR0 ?_
    exact Nrnq [] hF ih1
  ·refine Nexit rfl ?_
   have hF:=inrO_done hF dn1
   exact metQ () [] hF
 ·intro v hF
  unfold R_RowSaid_J1 at hF
  obtain ⟨x,h0,hF⟩:=lS hF
  refine RJ (.b (R_RowFine_ok h0) .z) ?_
  cases hF
  exact Wz [] hfin

/- tabularyref.Digits -/
def R_Digits_S (rec:Int→Option (List UInt8)) (num:Int):Option (List UInt8):=
 if (decide (num<10))=true then
  some ([toU8 (w64 (48+num))]:List UInt8)
 else
  ob (rec (w64 (Int.tdiv num 10))) fun x=>
  ob (rec (Int.tmod num 10)) fun x1=>
  asrt ((x.length:Int)+x1.length≤9223372036854775807) <|
  some (x++x1)
def R_Digits (num:Int):Option (List UInt8):=recO (fun rec (x:Int)=>R_Digits_S rec x) num
theorem R_Digits_ok {num r} (hF:R_Digits num=some r):Pe Tryz.prog 26 S.none [.i num] (.str r) S.none:=by
 have key:∀ (k:Nat) (x:Int) (r:List UInt8),fuelO (fun rec (x:Int)=>R_Digits_S rec x) k x=some r→Pe Tryz.prog 26 S.none [.i x] (.str r) S.none:=by
  intro k
  induction k with
  | zero=>intro x r hF; cases hF
  | succ k ih=>
   intro x r hF
   have hF:R_Digits_S (fuelO (fun rec (x:Int)=>R_Digits_S rec x) k) x=some r:=hF
   generalize fuelO (fun rec (x:Int)=>R_Digits_S rec x) k=rec at ih hF
   revert hF
   generalize x=num
   intro hF
   refine PT 17 [.tmp 2] [9] Tryz.func26 ?_
   intro Q g hfin
   unfold R_Digits_S at hF
   refine LR0 ?_
   refine LR0 ?_
   refine Nif hF ?_ ?_ <;> intro hb hF
   ·refine RJ (.a (.sealed) (.a (.str ([toU8 (w64 (48+num))]:List UInt8)) (.g (u8s_ok ([toU8 (w64 (48+num))]:List UInt8)) .z))) ?_
    cases hF
    exact Wz [] hfin
   ·obtain ⟨x,h0,hF⟩:=oE hF
    obtain ⟨x1,h1,hF⟩:=oE hF
    obtain ⟨h2,hF⟩:=aE hF
    refine RJ (.g (by decide:(10:Int)≠0) (.b (ih (w64 (Int.tdiv num 10)) x h0) (.g (by decide:(10:Int)≠0) (.b (ih (Int.tmod num 10) x1 h1) (.g (cat_ok h2) .z))))) ?_
    cases hF
    exact Wz [] hfin
 obtain ⟨k,hF⟩:=recO_elim hF
 exact key k _ r hF

/- tabularyref.Num -/
def R_Num (num:Int):Bool:=
 (decide (0≤num))&&(decide (num≤1000000000))
theorem R_Num_ok {num r} (hF:R_Num num=r):Pe Tryz.prog 41 S.none [.i num] (.bool r) S.none:=by
 refine PT 9 [.tmp 2] [4] Tryz.func41 ?_
 intro Q g hfin
 unfold R_Num at hF
 refine LR0 ?_
 refine LR0 ?_
 cases hF
 exact Wz [] hfin

/- tabularyref.NumberSaid -/
def R_NumberSaid_J1 (s0:List UInt8) (v:Int):Option Int:=
 ob (if (!(decide (s0=([]:List UInt8))))=true then (R_Digits v) else some default) fun x=>
 lt (R_Num v) fun x1=>
 if (((decide (s0=([]:List UInt8)))||(!decide (x=s0)))||(!x1))=true then
  some (-1)
 else
  some v
def R_NumberSaid_B1 (s0:List UInt8) (v1:Int×Int):Option ((Int×Int)⊕Int):=
 if (decide (v1.2<(s0.length:Int)))=true then
  asrt (0≤v1.2∧v1.2<(s0.length:Int)) <|
  asrt ((!(decide (((lget s0 v1.2).toNat:Int)<((48:UInt8).toNat:Int))))=true→0≤v1.2∧v1.2<(s0.length:Int)) <|
  if (((decide (((lget s0 v1.2).toNat:Int)<((48:UInt8).toNat:Int)))||(decide (((57:UInt8).toNat:Int)<((lget s0 v1.2).toNat:Int))))||(decide (9<v1.2)))=true then
   some (Sum.inr (-1))
  else
   asrt (0≤v1.2∧v1.2<(s0.length:Int)) <|
   lt (w64 ((w64 (v1.1*10))+(w64 ((toU8 (((lget s0 v1.2).toNat:Int) - ((48:UInt8).toNat:Int))).toNat:Int)))) fun v2=>
   some (Sum.inl (v2,w64 (v1.2+1)))
 else
  inrO (R_NumberSaid_J1 s0 v1.1)
def R_NumberSaid_L1 (s0:List UInt8) (v0:Int×Int):Option Int:=
 loopO (fun y=>R_NumberSaid_B1 s0 y) v0
def R_NumberSaid (s0:List UInt8):Option Int:=
 R_NumberSaid_L1 s0 (0,0)
theorem R_NumberSaid_ok {s0 r} (hF:R_NumberSaid s0=some r):Pe Tryz.prog 25 S.none [.str s0] (.i r) S.none:=by
 refine PT 47 [.tmp 2] [3] Tryz.func25 ?_
 intro Q g hfin
 unfold R_NumberSaid at hF
 refine LR0 ?_
 refine LR0 ?_
 refine LR0 ?_
 refine NmQ (fun v=>R_NumberSaid_J1 s0 v=some r) (fun v=>⟨[(0,.str s0),(3,.i v)],[],[],[],[]⟩) ?_ ?_
 ·refine Nblk ?_
  unfold R_NumberSaid_L1 at hF
  refine Nitr hF [] (fun v1=>⟨[(0,.str s0),(3,.i v1.1),(4,.i v1.2)],[],[],[],[]⟩) ?_
  intro n1 v1 y1 hF ih1 dn1
  unfold R_NumberSaid_B1 at hF
  refine LR0 ?_
  refine Nif hF ?_ ?_ <;> intro hb hF
  ·refine Nblk ?_
   obtain ⟨h2,h3,hF⟩:=asrt2 hF
   refine RJ (.u h2 (.a (.u8 (lget s0 v1.2)) (.g (fun (ga0:(!(decide (((lget s0 v1.2).toNat:Int)<((48:UInt8).toNat:Int))))=true)=>(idxS_ok (h3 ga0))) .z))) ?_
   refine Nif hF ?_ ?_ <;> intro hb hF
   ·refine LR0 ?_
    have hF:=ret_done hF dn1
    cases hF
    exact Wz [] hfin
   ·obtain ⟨h4,hF⟩:=aE hF
    refine NRL (w64 ((w64 (v1.1*10))+(w64 ((toU8 (((lget s0 v1.2).toNat:Int) - ((48:UInt8).toNat:Int))).toNat:Int)))) (fun v2:Int=>([(3,.i v2)],[],[],[])) [.u8 (lget s0 v1.2)] [0,3,4] [] [] [] (hc (idxS_ok h4) .nil) (fun v2 hv=>?_)
    have hF:=lt_elim hF hv
    refine LR0 ?_
    exact Nrnq [] hF ih1
  ·refine Nexit rfl ?_
   have hF:=inrO_done hF dn1
   exact metQ v1.1 [] hF
 ·intro v hF
  unfold R_NumberSaid_J1 at hF
  obtain ⟨x,h0,hF⟩:=oE hF
  obtain ⟨x1,h1,hF⟩:=lS hF
  refine RJ (.a (.callB (.str x)) (.g (fun (ga0:(!(decide (s0=([]:List UInt8))))=true)=>(R_Digits_ok (ite_t h0 ga0))) (.a (.callB (.bool x1)) (.g (fun (ga0:(!((decide (s0=([]:List UInt8)))||(!decide (x=s0))))=true)=>(R_Num_ok h1)) .z)))) ?_
  refine Nif hF ?_ ?_ <;> intro hb hF
  ·refine LR0 ?_
   cases hF
   exact Wz [] hfin
  ·refine LR0 ?_
   cases hF
   exact Wz [] hfin

/- tabularyref.ActSaid -/
def R_ActSaid_J1 (x1:List (List UInt8)) (x2:List UInt8×Bool) (v:List Int×List UInt8):Option (Act×Fault):=
 if (decide ((w64 ((x2.1.length:Int)+1))<(x1.length:Int)))=true then
  lt (R_F 1 (w64 ((x2.1.length:Int)+1))) fun x4=>
  some ((⟨0,(⟨0,0,0,0,([]:List UInt8)⟩:Order),0,0,([]:List UInt8)⟩:Act),x4)
 else
  asrt (0≤(0:Int)∧0<(x1.length:Int)) <|
  asrt (0≤(0:Int)∧0<(x1.length:Int)) <|
  ob (
   if (decide ((lget x1 0)=([99,111,109,101]:List UInt8)))=true then
    asrt (0≤(0:Int)∧0<(v.1.length:Int)) <|
    asrt (0≤(0:Int)∧0<(v.1.length:Int)) <|
    some (⟨1,(⟨1,(lget v.1 0),0,0,([]:List UInt8)⟩:Order),0,0,([]:List UInt8)⟩:Act)
   else
    if (decide ((lget x1 0)=([108,111,115,116]:List UInt8)))=true then
     asrt (0≤(0:Int)∧0<(v.1.length:Int)) <|
     asrt (0≤(0:Int)∧0<(v.1.length:Int)) <|
     some (⟨1,(⟨2,(lget v.1 0),0,0,([]:List UInt8)⟩:Order),0,0,([]:List UInt8)⟩:Act)
    else
     if (decide ((lget x1 0)=([111,112,101,110]:List UInt8)))=true then
      asrt (0≤(0:Int)∧0<(v.1.length:Int)) <|
      asrt (0≤(0:Int)∧0<(v.1.length:Int)) <|
      asrt (0≤(1:Int)∧1<(v.1.length:Int)) <|
      asrt (0≤(1:Int)∧1<(v.1.length:Int)) <|
      some (⟨1,(⟨3,(lget v.1 0),(lget v.1 1),0,([]:List UInt8)⟩:Order),0,0,([]:List UInt8)⟩:Act)
     else
      if (decide ((lget x1 0)=([111,112,101,110,101,100]:List UInt8)))=true then
       asrt (0≤(0:Int)∧0<(v.1.length:Int)) <|
       asrt (0≤(0:Int)∧0<(v.1.length:Int)) <|
       asrt (0≤(1:Int)∧1<(v.1.length:Int)) <|
       asrt (0≤(1:Int)∧1<(v.1.length:Int)) <|
       asrt (0≤(2:Int)∧2<(v.1.length:Int)) <|
       asrt (0≤(2:Int)∧2<(v.1.length:Int)) <|
       some (⟨1,(⟨4,(lget v.1 0),(lget v.1 1),(lget v.1 2),([]:List UInt8)⟩:Order),0,0,([]:List UInt8)⟩:Act)
      else
       if (decide ((lget x1 0)=([99,108,111,115,101]:List UInt8)))=true then
        asrt (0≤(0:Int)∧0<(v.1.length:Int)) <|
        asrt (0≤(0:Int)∧0<(v.1.length:Int)) <|
        some (⟨1,(⟨5,(lget v.1 0),0,0,([]:List UInt8)⟩:Order),0,0,([]:List UInt8)⟩:Act)
       else
        if (decide ((lget x1 0)=([99,108,111,115,101,100]:List UInt8)))=true then
         asrt (0≤(0:Int)∧0<(v.1.length:Int)) <|
         asrt (0≤(0:Int)∧0<(v.1.length:Int)) <|
         asrt (0≤(1:Int)∧1<(v.1.length:Int)) <|
         asrt (0≤(1:Int)∧1<(v.1.length:Int)) <|
         asrt (0≤(2:Int)∧2<(v.1.length:Int)) <|
         asrt (0≤(2:Int)∧2<(v.1.length:Int)) <|
         some (⟨1,(⟨6,(lget v.1 0),(lget v.1 1),(lget v.1 2),([]:List UInt8)⟩:Order),0,0,([]:List UInt8)⟩:Act)
        else
         if (decide ((lget x1 0)=([115,112,108,105,116]:List UInt8)))=true then
          asrt (0≤(0:Int)∧0<(v.1.length:Int)) <|
          asrt (0≤(0:Int)∧0<(v.1.length:Int)) <|
          some (⟨1,(⟨7,(lget v.1 0),0,0,v.2⟩:Order),0,0,([]:List UInt8)⟩:Act)
         else
          if (decide ((lget x1 0)=([101,110,100]:List UInt8)))=true then
           asrt (0≤(0:Int)∧0<(v.1.length:Int)) <|
           asrt (0≤(0:Int)∧0<(v.1.length:Int)) <|
           some (⟨2,(⟨0,0,0,0,([]:List UInt8)⟩:Order),(lget v.1 0),0,([]:List UInt8)⟩:Act)
          else
           if (decide ((lget x1 0)=([112,117,116]:List UInt8)))=true then
            asrt (0≤(0:Int)∧0<(v.1.length:Int)) <|
            asrt (0≤(0:Int)∧0<(v.1.length:Int)) <|
            some (⟨3,(⟨0,0,0,0,([]:List UInt8)⟩:Order),(lget v.1 0),0,v.2⟩:Act)
           else
            if (decide ((lget x1 0)=([103,101,116]:List UInt8)))=true then
             asrt (0≤(0:Int)∧0<(v.1.length:Int)) <|
             asrt (0≤(0:Int)∧0<(v.1.length:Int)) <|
             some (⟨4,(⟨0,0,0,0,([]:List UInt8)⟩:Order),(lget v.1 0),0,v.2⟩:Act)
            else
             if (decide ((lget x1 0)=([112,111,115,116]:List UInt8)))=true then
              asrt (0≤(0:Int)∧0<(v.1.length:Int)) <|
              asrt (0≤(0:Int)∧0<(v.1.length:Int)) <|
              some (⟨5,(⟨0,0,0,0,([]:List UInt8)⟩:Order),0,(lget v.1 0),([]:List UInt8)⟩:Act)
             else
              if (decide ((lget x1 0)=([100,114,111,112]:List UInt8)))=true then
               asrt (0≤(0:Int)∧0<(v.1.length:Int)) <|
               asrt (0≤(0:Int)∧0<(v.1.length:Int)) <|
               some (⟨6,(⟨0,0,0,0,([]:List UInt8)⟩:Order),0,(lget v.1 0),([]:List UInt8)⟩:Act)
              else
               if (decide ((lget x1 0)=([102,108,117,115,104]:List UInt8)))=true then
                some (⟨7,(⟨0,0,0,0,([]:List UInt8)⟩:Order),0,0,v.2⟩:Act)
               else
                if (decide ((lget x1 0)=([99,117,116]:List UInt8)))=true then
                 some (⟨7,(⟨0,0,0,0,([]:List UInt8)⟩:Order),0,1,v.2⟩:Act)
                else
                 if (decide ((lget x1 0)=([112,97,99,107]:List UInt8)))=true then
                  some (⟨7,(⟨0,0,0,0,([]:List UInt8)⟩:Order),0,2,v.2⟩:Act)
                 else
                  some (⟨1,(⟨0,0,0,0,([]:List UInt8)⟩:Order),0,0,([]:List UInt8)⟩:Act)) fun (v1:Act)=>
  some (v1,(⟨0,0⟩:Fault))
def R_ActSaid_J2 (v2:List Int×List UInt8×Int) (v3:List Int×List UInt8):Option ((List Int×List UInt8×Int)⊕(Act×Fault)):=
 some (Sum.inl (v3.1,v3.2,w64 (v2.2.2+1)))
def R_ActSaid_B1 (x1:List (List UInt8)) (x2:List UInt8×Bool) (v2:List Int×List UInt8×Int):Option ((List Int×List UInt8×Int)⊕(Act×Fault)):=
 if (decide (v2.2.2<(x2.1.length:Int)))=true then
  if (decide ((x1.length:Int)≤(w64 (v2.2.2+1))))=true then
   lt (R_F 1 (w64 (v2.2.2+1))) fun x5=>
   some (Sum.inr ((⟨0,(⟨0,0,0,0,([]:List UInt8)⟩:Order),0,0,([]:List UInt8)⟩:Act),x5))
  else
   asrt (0≤v2.2.2∧v2.2.2<(x2.1.length:Int)) <|
   if (decide (((lget x2.1 v2.2.2).toNat:Int)=((114:UInt8).toNat:Int)))=true then
    asrt (0≤w64 (v2.2.2+1)∧w64 (v2.2.2+1)<(x1.length:Int)) <|
    asrt (0≤w64 (v2.2.2+1)∧w64 (v2.2.2+1)<(x1.length:Int)) <|
    ob (R_RowSaid (lget x1 (w64 (v2.2.2+1)))) fun x6=>
    if (!x6)=true then
     lt (R_F 1 (w64 (v2.2.2+1))) fun x7=>
     some (Sum.inr ((⟨0,(⟨0,0,0,0,([]:List UInt8)⟩:Order),0,0,([]:List UInt8)⟩:Act),x7))
    else
     asrt (0≤w64 (v2.2.2+1)∧w64 (v2.2.2+1)<(x1.length:Int)) <|
     asrt (0≤w64 (v2.2.2+1)∧w64 (v2.2.2+1)<(x1.length:Int)) <|
     R_ActSaid_J2 v2 (v2.1,(lget x1 (w64 (v2.2.2+1))))
   else
    asrt (0≤w64 (v2.2.2+1)∧w64 (v2.2.2+1)<(x1.length:Int)) <|
    asrt (0≤w64 (v2.2.2+1)∧w64 (v2.2.2+1)<(x1.length:Int)) <|
    ob (R_NumberSaid (lget x1 (w64 (v2.2.2+1)))) fun x8=>
    if (decide (x8<0))=true then
     lt (R_F 1 (w64 (v2.2.2+1))) fun x9=>
     some (Sum.inr ((⟨0,(⟨0,0,0,0,([]:List UInt8)⟩:Order),0,0,([]:List UInt8)⟩:Act),x9))
    else
     asrt (((v2.1++([x8]:List Int)).length:Int)*8≤140737488351232) <|
     R_ActSaid_J2 v2 ((v2.1++([x8]:List Int)),v2.2.1)
 else
  inrO (R_ActSaid_J1 x1 x2 (v2.1,v2.2.1))
def R_ActSaid_L1 (x1:List (List UInt8)) (x2:List UInt8×Bool) (v0:List Int×List UInt8×Int):Option (Act×Fault):=
 loopO (fun y=>R_ActSaid_B1 x1 x2 y) v0
def R_ActSaid (line:List UInt8):Option (Act×Fault):=
 if (decide (200<(line.length:Int)))=true then
  lt (R_F 8 0) fun x=>
  some ((⟨0,(⟨0,0,0,0,([]:List UInt8)⟩:Order),0,0,([]:List UInt8)⟩:Act),x)
 else
  ob (R_SplitAt line (32:UInt8)) fun x1=>
  asrt (0≤(0:Int)∧0<(x1.length:Int)) <|
  asrt (0≤(0:Int)∧0<(x1.length:Int)) <|
  lt (R_Shape (lget x1 0)) fun x2=>
  if (!x2.2)=true then
   lt (R_F 1 0) fun x3=>
   some ((⟨0,(⟨0,0,0,0,([]:List UInt8)⟩:Order),0,0,([]:List UInt8)⟩:Act),x3)
  else
   R_ActSaid_L1 x1 x2 (([]:List Int),([]:List UInt8),0)
theorem R_ActSaid_ok {line r} (hF:R_ActSaid line=some r):Pe Tryz.prog 8 S.none [.str line] (.tup [.agg (c_Act r.1),.agg (c_Fault r.2)]) S.none:=by
 refine PT 207 [.cell 2 25,.cell 3 28] [25,28] Tryz.func8 ?_
 intro Q g hfin
 unfold R_ActSaid at hF
 refine LR0 ?_
 refine LR0 ?_
 refine Nif hF ?_ ?_ <;> intro hb hF
 ·obtain ⟨x,h0,hF⟩:=lS hF
  refine RJ (.b (R_F_ok h0) .z) ?_
  cases hF
  exact Wz [] hfin
 ·obtain ⟨x1,h1,hF⟩:=oE hF
  have p2:=(Pe.ren (R_SplitAt_ok h1) ⟨[],[(25,18)],[],[]⟩)
  refine RJ (.e [] [] p2 .z) ?_
  obtain ⟨h3,h4,hF⟩:=asrt2 hF
  obtain ⟨x2,h5,hF⟩:=lS hF
  refine RJ (.x e_str h3 (.r e_str h4 (.b (R_Shape_ok h5) .z))) ?_
  refine LR0 ?_
  refine Nif hF ?_ ?_ <;> intro hb hF
  ·obtain ⟨x3,h6,hF⟩:=lS hF
   refine RJ (.b (R_F_ok h6) .z) ?_
   cases hF
   exact Wz [] hfin
  ·refine LR0 ?_
   refine LR0 ?_
   refine VR [] [2,3,4,5,7,8,9] [2,3] [18] [] [(2,.ptr 2 0),(3,.ptr 3 0),(4,.row 18 1),(5,.str x2.1),(7,.nils),(8,.str ([]:List UInt8)),(9,.i 0)] [(2,[.i 0,.i 0,.i 0,.i 0,.i 0,.str [],.i 0,.i 0,.str []]),(3,[.i 0,.i 0])] [(18,.z 9 1 1 (x1.map e_str))] [] .nil ?_
   refine NmS (fun v=>R_ActSaid_J1 x1 x2 v=some r) (fun Z v=>Z.up [2,3,4,5,7,8] [2,3] [18,80] [] [(7,.row 80 0),(8,.str v.2)] [] [(80,.z 3 1 0 (v.1.map e_i64))] []) ?_ ?_
   ·refine Nblk ?_
    unfold R_ActSaid_L1 at hF
    refine Wk_nilrow 7 60000 3 1 rfl rfl rfl ?_
    refine Wk_trim (fs:=[2,3,4,5,7,8,9]) (bs:=[2,3]) (rs:=[18,60000]) (ms:=[]) (aa:=[]) (nv:=[]) rfl ?_
    refine Wk_ren' ⟨[],[(60000,80)],[],[]⟩ rfl ?_
    refine Nitr hF [] (fun v2=>⟨[(2,.ptr 2 0),(3,.ptr 3 0),(4,.row 18 1),(5,.str x2.1),(7,.row 80 0),(8,.str v2.2.1),(9,.i v2.2.2)],[(2,[.i 0,.i 0,.i 0,.i 0,.i 0,.str [],.i 0,.i 0,.str []]),(3,[.i 0,.i 0])],[(18,.z 9 1 1 (x1.map e_str)),(80,.z 3 1 0 (v2.1.map e_i64))],[],[]⟩) ?_
    intro n1 v2 y1 hF ih1 dn1
    unfold R_ActSaid_B1 at hF
    refine LR0 ?_
    refine Nif hF ?_ ?_ <;> intro hb hF
    ·refine NmS (fun v3=>R_ActSaid_J2 v2 v3=some y1) (fun Z v3=>Z.up [2,3,4,5,7,8,9] [2,3] [18,80] [] [(8,.str v3.2)] [] [(80,.z 3 1 0 (v3.1.map e_i64))] []) ?_ ?_
     ·refine Nblk ?_
      refine RJ (.l e_str x1 .z) ?_
      refine Nif hF ?_ ?_ <;> intro hb hF
      ·obtain ⟨x5,h44,hF⟩:=lS hF
       refine RJ (.b (R_F_ok h44) .z) ?_
       have hF:=ret_done hF dn1
       cases hF
       exact Wz [] hfin
      ·obtain ⟨h45,hF⟩:=aE hF
       refine RJ (.u h45 .z) ?_
       refine Nif hF ?_ ?_ <;> intro hb hF
       ·obtain ⟨h46,hF⟩:=aE hF
        obtain ⟨h47,hF⟩:=aE hF
        obtain ⟨x6,h48,hF⟩:=oE hF
        refine RJ (.x e_str h46 (.r e_str h47 (.b (R_RowSaid_ok h48) .z))) ?_
        refine Nif hF ?_ ?_ <;> intro hb hF
        ·obtain ⟨x7,h49,hF⟩:=lS hF
         refine RJ (.b (R_F_ok h49) .z) ?_
         have hF:=ret_done hF dn1
         cases hF
         exact Wz [] hfin
        ·obtain ⟨h50,hF⟩:=aE hF
         obtain ⟨h51,hF⟩:=aE hF
         refine RJ (.x e_str h50 (.r e_str h51 .z)) ?_
         refine Nexit rfl ?_
         exact metQ (v2.1,(lget x1 (w64 (v2.2.2+1)))) [] hF
       ·obtain ⟨h52,hF⟩:=aE hF
        obtain ⟨h53,hF⟩:=aE hF
        obtain ⟨x8,h54,hF⟩:=oE hF
        refine RJ (.x e_str h52 (.r e_str h53 (.b (R_NumberSaid_ok h54) .z))) ?_
        refine LR0 ?_
        refine Nif hF ?_ ?_ <;> intro hb hF
        ·obtain ⟨x9,h55,hF⟩:=lS hF
         refine RJ (.b (R_F_ok h55) .z) ?_
         have hF:=ret_done hF dn1
         cases hF
         exact Wz [] hfin
        ·obtain ⟨h56,hF⟩:=aE hF
         refine RJ (.a (.sealed) (.p e_i64 h56 .z)) ?_
         exact metQ ((v2.1++([x8]:List Int)),v2.2.1) [(80,⟨0,true,true,false⟩)] hF
     ·intro v3 hF
      unfold R_ActSaid_J2 at hF
      refine LR0 ?_
      exact Nrnq [] hF ih1
    ·refine Nexit rfl ?_
     have hF:=inrO_done hF dn1
     exact metQ (v2.1,v2.2.1) [] hF
   ·intro v hF
    unfold R_ActSaid_J1 at hF
    refine RJ (.l e_str x1 .z) ?_
    refine Nif hF ?_ ?_ <;> intro hb hF
    ·obtain ⟨x4,h7,hF⟩:=lS hF
     refine RJ (.b (R_F_ok h7) .z) ?_
     cases hF
     exact Wz [] hfin
    ·refine LR0 ?_
     obtain ⟨h8,h9,hF⟩:=asrt2 hF
     refine RJ (.x e_str h8 (.r e_str h9 .z)) ?_
     refine Nblk ?_
     refine LR0 ?_
     obtain ⟨v1,hv,hF⟩:=oE hF
     refine NmT (fun Z=>Z.up [2,3,11] [2,3,11] [] [] [] [(11,(c_Act v1))] [] []) ?_ ?_
     ·have hF:=hv
      refine Nif hF ?_ ?_ <;> intro hb hF
      ·obtain ⟨h10,hF⟩:=aE hF
       obtain ⟨h11,hF⟩:=aE hF
       refine RJ (.x e_i64 h10 (.r e_i64 h11 .z)) ?_
       cases hF
       exact met' []
      ·refine LR0 ?_
       refine Nif hF ?_ ?_ <;> intro hb hF
       ·obtain ⟨h12,hF⟩:=aE hF
        obtain ⟨h13,hF⟩:=aE hF
        refine RJ (.x e_i64 h12 (.r e_i64 h13 .z)) ?_
        cases hF
        exact met' []
       ·refine LR0 ?_
        refine Nif hF ?_ ?_ <;> intro hb hF
        ·obtain ⟨h14,hF⟩:=aE hF
         obtain ⟨h15,h16,hF⟩:=asrt2 hF
         obtain ⟨h17,hF⟩:=aE hF
         refine DJ (.x e_i64 h14 (.r e_i64 h15 (.x e_i64 h16 (.r e_i64 h17 .z)))) ?_
         cases hF
         exact met' []
        ·refine LR0 ?_
         refine Nif hF ?_ ?_ <;> intro hb hF
         ·obtain ⟨h18,hF⟩:=aE hF
          obtain ⟨h19,h20,h21,h22,hF⟩:=asrt4 hF
          obtain ⟨h23,hF⟩:=aE hF
          refine DJ (.x e_i64 h18 (.r e_i64 h19 (.x e_i64 h20 (.r e_i64 h21 (.x e_i64 h22 (.r e_i64 h23 .z)))))) ?_
          cases hF
          exact met' []
         ·refine LR0 ?_
          refine Nif hF ?_ ?_ <;> intro hb hF
          ·obtain ⟨h24,hF⟩:=aE hF
           obtain ⟨h25,hF⟩:=aE hF
           refine RJ (.x e_i64 h24 (.r e_i64 h25 .z)) ?_
           cases hF
           exact met' []
          ·refine LR0 ?_
           refine Nif hF ?_ ?_ <;> intro hb hF
           ·obtain ⟨h26,hF⟩:=aE hF
            obtain ⟨h27,h28,h29,h30,hF⟩:=asrt4 hF
            obtain ⟨h31,hF⟩:=aE hF
            refine DJ (.x e_i64 h26 (.r e_i64 h27 (.x e_i64 h28 (.r e_i64 h29 (.x e_i64 h30 (.r e_i64 h31 .z)))))) ?_
            cases hF
            exact met' []
           ·refine LR0 ?_
            refine Nif hF ?_ ?_ <;> intro hb hF
            ·obtain ⟨h32,hF⟩:=aE hF
             obtain ⟨h33,hF⟩:=aE hF
             refine RJ (.x e_i64 h32 (.r e_i64 h33 .z)) ?_
             cases hF
             exact met' []
            ·refine LR0 ?_
             refine Nif hF ?_ ?_ <;> intro hb hF
             ·obtain ⟨h34,hF⟩:=aE hF
              obtain ⟨h35,hF⟩:=aE hF
              refine RJ (.x e_i64 h34 (.r e_i64 h35 .z)) ?_
              cases hF
              exact met' []
             ·refine LR0 ?_
              refine Nif hF ?_ ?_ <;> intro hb hF
              ·obtain ⟨h36,hF⟩:=aE hF
               obtain ⟨h37,hF⟩:=aE hF
               refine RJ (.x e_i64 h36 (.r e_i64 h37 .z)) ?_
               cases hF
               exact met' []
              ·refine LR0 ?_
               refine Nif hF ?_ ?_ <;> intro hb hF
               ·obtain ⟨h38,hF⟩:=aE hF
                obtain ⟨h39,hF⟩:=aE hF
                refine RJ (.x e_i64 h38 (.r e_i64 h39 .z)) ?_
                cases hF
                exact met' []
               ·refine LR0 ?_
                refine Nif hF ?_ ?_ <;> intro hb hF
                ·obtain ⟨h40,hF⟩:=aE hF
                 obtain ⟨h41,hF⟩:=aE hF
                 refine RJ (.x e_i64 h40 (.r e_i64 h41 .z)) ?_
                 cases hF
                 exact met' []
                ·refine LR0 ?_
                 refine Nif hF ?_ ?_ <;> intro hb hF
                 ·obtain ⟨h42,hF⟩:=aE hF
                  obtain ⟨h43,hF⟩:=aE hF
                  refine RJ (.x e_i64 h42 (.r e_i64 h43 .z)) ?_
                  cases hF
                  exact met' []
                 ·refine LR0 ?_
                  refine Nif hF ?_ ?_ <;> intro hb hF
                  ·refine LR0 ?_
                   cases hF
                   exact met' []
                  ·refine LR0 ?_
                   refine Nif hF ?_ ?_ <;> intro hb hF
                   ·refine LR0 ?_
                    cases hF
                    exact met' []
                   ·refine LR0 ?_
                    refine Nif hF ?_ ?_ <;> intro hb hF
                    ·refine LR0 ?_
                     cases hF
                     exact met' []
                    ·cases hF
                     exact met' []
     ·refine LR0 ?_
      cases hF
      exact Wz [] hfin

/- tabularyref.LineOf -/
def R_LineOf (a0:Act):Option (List UInt8):=
 if (decide (a0.Kind=1))=true then
  lt (([([]:List UInt8),([99,111,109,101]:List UInt8),([108,111,115,116]:List UInt8),([111,112,101,110]:List UInt8),([111,112,101,110,101,100]:List UInt8),([99,108,111,115,101]:List UInt8),([99,108,111,115,101,100]:List UInt8),([115,112,108,105,116]:List UInt8)]:List (List UInt8))) fun (v:List (List UInt8))=>
  if (((((decide (a0.Order.Kind<1))||(decide (7<a0.Order.Kind)))||(decide (a0.Order.ID<0)))||(decide (a0.Order.Host<0)))||(decide (a0.Order.Turn<0)))=true then
   some ([]:List UInt8)
  else
   asrt (0≤a0.Order.Kind∧a0.Order.Kind<(v.length:Int)) <|
   asrt (((lget v a0.Order.Kind).length:Int)+([32]:List UInt8).length≤9223372036854775807) <|
   ob (R_Digits a0.Order.ID) fun x=>
   asrt ((((lget v a0.Order.Kind)++([32]:List UInt8)).length:Int)+x.length≤9223372036854775807) <|
   ob (
    if (((decide (a0.Order.Kind=3))||(decide (a0.Order.Kind=4)))||(decide (a0.Order.Kind=6)))=true then
     asrt (((((lget v a0.Order.Kind)++([32]:List UInt8))++x).length:Int)+([32]:List UInt8).length≤9223372036854775807) <|
     ob (R_Digits a0.Order.Host) fun x1=>
     asrt ((((((lget v a0.Order.Kind)++([32]:List UInt8))++x)++([32]:List UInt8)).length:Int)+x1.length≤9223372036854775807) <|
     lt ((((((lget v a0.Order.Kind)++([32]:List UInt8))++x)++([32]:List UInt8))++x1)) fun v2=>
     some v2
    else
     some (((lget v a0.Order.Kind)++([32]:List UInt8))++x)) fun v1=>
   ob (
    if ((decide (a0.Order.Kind=4))||(decide (a0.Order.Kind=6)))=true then
     asrt ((v1.length:Int)+([32]:List UInt8).length≤9223372036854775807) <|
     ob (R_Digits a0.Order.Turn) fun x2=>
     asrt (((v1++([32]:List UInt8)).length:Int)+x2.length≤9223372036854775807) <|
     some ((v1++([32]:List UInt8))++x2)
    else
     some v1) fun v3=>
   ob (
    if (decide (a0.Order.Kind=7))=true then
     asrt ((v3.length:Int)+([32]:List UInt8).length≤9223372036854775807) <|
     asrt (((v3++([32]:List UInt8)).length:Int)+a0.Order.Row.length≤9223372036854775807) <|
     some ((v3++([32]:List UInt8))++a0.Order.Row)
    else
     some v3) fun v4=>
   some v4
 else
  ob (
   if (decide (a0.Kind=2))=true then
    some (decide (a0.Kind=2))
   else
    if (decide (a0.Kind=3))=true then
     some (decide (a0.Kind=3))
    else
     some (decide (a0.Kind=4))) fun v5=>
  if v5=true then
   if (decide (a0.Host<0))=true then
    some ([]:List UInt8)
   else
    asrt (0≤w64 (a0.Kind - 2)∧w64 (a0.Kind - 2)<(([([101,110,100]:List UInt8),([112,117,116]:List UInt8),([103,101,116]:List UInt8)]:List (List UInt8)).length:Int)) <|
    asrt (((lget ([([101,110,100]:List UInt8),([112,117,116]:List UInt8),([103,101,116]:List UInt8)]:List (List UInt8)) (w64 (a0.Kind - 2))).length:Int)+([32]:List UInt8).length≤9223372036854775807) <|
    ob (R_Digits a0.Host) fun x3=>
    asrt ((((lget ([([101,110,100]:List UInt8),([112,117,116]:List UInt8),([103,101,116]:List UInt8)]:List (List UInt8)) (w64 (a0.Kind - 2)))++([32]:List UInt8)).length:Int)+x3.length≤9223372036854775807) <|
    lt ((((lget ([([101,110,100]:List UInt8),([112,117,116]:List UInt8),([103,101,116]:List UInt8)]:List (List UInt8)) (w64 (a0.Kind - 2)))++([32]:List UInt8))++x3)) fun (v6:List UInt8)=>
    ob (
     if (decide (2<a0.Kind))=true then
      asrt ((v6.length:Int)+([32]:List UInt8).length≤9223372036854775807) <|
      asrt (((v6++([32]:List UInt8)).length:Int)+a0.Row.length≤9223372036854775807) <|
      some ((v6++([32]:List UInt8))++a0.Row)
     else
      some v6) fun v7=>
    some v7
  else
   ob (
    if (decide (a0.Kind=5))=true then
     some (decide (a0.Kind=5))
    else
     some (decide (a0.Kind=6))) fun v8=>
   if v8=true then
    if (decide (a0.N<0))=true then
     some ([]:List UInt8)
    else
     asrt (0≤w64 (a0.Kind - 5)∧w64 (a0.Kind - 5)<(([([112,111,115,116]:List UInt8),([100,114,111,112]:List UInt8)]:List (List UInt8)).length:Int)) <|
     asrt (((lget ([([112,111,115,116]:List UInt8),([100,114,111,112]:List UInt8)]:List (List UInt8)) (w64 (a0.Kind - 5))).length:Int)+([32]:List UInt8).length≤9223372036854775807) <|
     ob (R_Digits a0.N) fun x4=>
     asrt ((((lget ([([112,111,115,116]:List UInt8),([100,114,111,112]:List UInt8)]:List (List UInt8)) (w64 (a0.Kind - 5)))++([32]:List UInt8)).length:Int)+x4.length≤9223372036854775807) <|
     lt ((((lget ([([112,111,115,116]:List UInt8),([100,114,111,112]:List UInt8)]:List (List UInt8)) (w64 (a0.Kind - 5)))++([32]:List UInt8))++x4)) fun (v9:List UInt8)=>
     some v9
   else
    if (decide (a0.Kind=7))=true then
     if ((decide (a0.N<0))||(decide (2<a0.N)))=true then
      some ([]:List UInt8)
     else
      asrt (0≤a0.N∧a0.N<(([([102,108,117,115,104]:List UInt8),([99,117,116]:List UInt8),([112,97,99,107]:List UInt8)]:List (List UInt8)).length:Int)) <|
      asrt (((lget ([([102,108,117,115,104]:List UInt8),([99,117,116]:List UInt8),([112,97,99,107]:List UInt8)]:List (List UInt8)) a0.N).length:Int)+([32]:List UInt8).length≤9223372036854775807) <|
      asrt ((((lget ([([102,108,117,115,104]:List UInt8),([99,117,116]:List UInt8),([112,97,99,107]:List UInt8)]:List (List UInt8)) a0.N)++([32]:List UInt8)).length:Int)+a0.Row.length≤9223372036854775807) <|
      lt ((((lget ([([102,108,117,115,104]:List UInt8),([99,117,116]:List UInt8),([112,97,99,107]:List UInt8)]:List (List UInt8)) a0.N)++([32]:List UInt8))++a0.Row)) fun (v10:List UInt8)=>
      some v10
    else
     some ([]:List UInt8)
theorem R_LineOf_ok {a0 r} (hF:R_LineOf a0=some r):Pe Tryz.prog 9 S.none [.agg (c_Act a0)] (.str r) S.none:=by
 refine PT 152 [.tmp 2] [9] Tryz.func9 ?_
 intro Q g hfin
 unfold R_LineOf at hF
 refine LR0 ?_
 refine LR0 ?_
 refine LR0 ?_
 refine Nblk ?_
 refine LR0 ?_
 refine Nif hF ?_ ?_ <;> intro hb hF
 ·refine NRL (([([]:List UInt8),([99,111,109,101]:List UInt8),([108,111,115,116]:List UInt8),([111,112,101,110]:List UInt8),([111,112,101,110,101,100]:List UInt8),([99,108,111,115,101]:List UInt8),([99,108,111,115,101,100]:List UInt8),([115,112,108,105,116]:List UInt8)]:List (List UInt8))) (fun v:List (List UInt8)=>([(4,.sl 1 (v.map e_str))],[],[],[])) [.sealed] [3,4] [3] [] [] .nil (fun v hv=>?_)
  have hF:=lt_elim hF hv
  refine LR0 ?_
  refine Nif hF ?_ ?_ <;> intro hb hF
  ·refine LR0 ?_
   cases hF
   exact Wz [] hfin
  ·obtain ⟨h0,hF⟩:=aE hF
   obtain ⟨h1,hF⟩:=aE hF
   obtain ⟨x,h2,hF⟩:=oE hF
   obtain ⟨h3,hF⟩:=aE hF
   refine DJ (.i e_str h0 (.g (cat_ok h1) (.b (R_Digits_ok h2) (.g (cat_ok h3) .z)))) ?_
   refine LR0 ?_
   obtain ⟨v1,hv,hF⟩:=oE hF
   refine NmT (fun Z=>Z.up [3,5] [3] [] [] [(5,.str v1)] [] [] []) ?_ ?_
   ·have hF:=hv
    refine Nif hF ?_ ?_ <;> intro hb hF
    ·obtain ⟨h4,hF⟩:=aE hF
     obtain ⟨x1,h5,hF⟩:=oE hF
     obtain ⟨h6,hF⟩:=aE hF
     refine NRL ((((((lget v a0.Order.Kind)++([32]:List UInt8))++x)++([32]:List UInt8))++x1)) (fun v2:List UInt8=>([(5,.str v2)],[],[],[])) [.callB (.str x1)] [3,5] [3] [] [] (hc (cat_ok h4) (hc (R_Digits_ok h5) (hc (cat_ok h6) .nil))) (fun v2 hv=>?_)
     have hF:=lt_elim hF hv
     cases hF
     exact met' []
    ·cases hF
     exact met' []
   ·refine LR0 ?_
    obtain ⟨v3,hv,hF⟩:=oE hF
    refine NmT (fun Z=>Z.up [3,5] [3] [] [] [(5,.str v3)] [] [] []) ?_ ?_
    ·have hF:=hv
     refine Nif hF ?_ ?_ <;> intro hb hF
     ·obtain ⟨h7,hF⟩:=aE hF
      obtain ⟨x2,h8,hF⟩:=oE hF
      obtain ⟨h9,hF⟩:=aE hF
      refine RJ (.g (cat_ok h7) (.b (R_Digits_ok h8) (.g (cat_ok h9) .z))) ?_
      cases hF
      exact met' []
     ·cases hF
      exact met' []
    ·refine LR0 ?_
     obtain ⟨v4,hv,hF⟩:=oE hF
     refine Nmeet (⟨[(5,.str v4)],[],[],[],[]⟩:S) ?_ ?_
     ·have hF:=hv
      refine Nif hF ?_ ?_ <;> intro hb hF
      ·obtain ⟨h10,hF⟩:=aE hF
       obtain ⟨h11,hF⟩:=aE hF
       refine RJ (.g (cat_ok h10) (.g (cat_ok h11) .z)) ?_
       cases hF
       exact met' []
      ·cases hF
       exact met' []
     ·refine LR0 ?_
      cases hF
      exact Wz [] hfin
 ·refine LR0 ?_
  obtain ⟨v5,hv,hF⟩:=oE hF
  refine NmT (fun Z=>Z.up [1,10,89] [1] [] [] [(89,.bool v5)] [] [] []) ?_ ?_
  ·have hF:=hv
   refine Nif hF ?_ ?_ <;> intro hb hF
   ·cases hF
    exact met' []
   ·refine LR0 ?_
    refine Nif hF ?_ ?_ <;> intro hb hF
    ·cases hF
     exact met' []
    ·refine LR0 ?_
     cases hF
     exact met' []
  ·refine Nif hF ?_ ?_ <;> intro hb hF
   ·refine LR0 ?_
    refine Nif hF ?_ ?_ <;> intro hb hF
    ·refine LR0 ?_
     cases hF
     exact Wz [] hfin
    ·obtain ⟨h12,hF⟩:=aE hF
     obtain ⟨h13,hF⟩:=aE hF
     obtain ⟨x3,h14,hF⟩:=oE hF
     obtain ⟨h15,hF⟩:=aE hF
     refine NDL ((((lget ([([101,110,100]:List UInt8),([112,117,116]:List UInt8),([103,101,116]:List UInt8)]:List (List UInt8)) (w64 (a0.Kind - 2)))++([32]:List UInt8))++x3)) (fun v6:List UInt8=>([(6,.str v6)],[],[],[])) [.sealed,.av (e_str (lget ([([101,110,100]:List UInt8),([112,117,116]:List UInt8),([103,101,116]:List UInt8)]:List (List UInt8)) (w64 (a0.Kind - 2)))),.callB (.str x3)] [1,6] [1] [] [] (hc (idx_ok e_str h12) (hc (cat_ok h13) (hc (R_Digits_ok h14) (hc (cat_ok h15) .nil)))) (fun v6 hv=>?_)
     have hF:=lt_elim hF hv
     refine LR0 ?_
     obtain ⟨v7,hv,hF⟩:=oE hF
     refine Nmeet (⟨[(6,.str v7)],[],[],[],[]⟩:S) ?_ ?_
     ·have hF:=hv
      refine Nif hF ?_ ?_ <;> intro hb hF
      ·obtain ⟨h16,hF⟩:=aE hF
       obtain ⟨h17,hF⟩:=aE hF
       refine RJ (.g (cat_ok h16) (.g (cat_ok h17) .z)) ?_
       cases hF
       exact met' []
      ·cases hF
       exact met' []
     ·refine LR0 ?_
      cases hF
      exact Wz [] hfin
   ·refine LR0 ?_
    obtain ⟨v8,hv,hF⟩:=oE hF
    refine NmT (fun Z=>Z.up [1,10,116] [1] [] [] [(116,.bool v8)] [] [] []) ?_ ?_
    ·have hF:=hv
     refine Nif hF ?_ ?_ <;> intro hb hF
     ·cases hF
      exact met' []
     ·refine LR0 ?_
      cases hF
      exact met' []
    ·refine Nif hF ?_ ?_ <;> intro hb hF
     ·refine LR0 ?_
      refine Nif hF ?_ ?_ <;> intro hb hF
      ·refine LR0 ?_
       cases hF
       exact Wz [] hfin
      ·obtain ⟨h18,hF⟩:=aE hF
       obtain ⟨h19,hF⟩:=aE hF
       obtain ⟨x4,h20,hF⟩:=oE hF
       obtain ⟨h21,hF⟩:=aE hF
       refine NDL ((((lget ([([112,111,115,116]:List UInt8),([100,114,111,112]:List UInt8)]:List (List UInt8)) (w64 (a0.Kind - 5)))++([32]:List UInt8))++x4)) (fun v9:List UInt8=>([(2,.str v9)],[],[],[])) [.sealed,.av (e_str (lget ([([112,111,115,116]:List UInt8),([100,114,111,112]:List UInt8)]:List (List UInt8)) (w64 (a0.Kind - 5)))),.callB (.str x4)] [2] [] [] [] (hc (idx_ok e_str h18) (hc (cat_ok h19) (hc (R_Digits_ok h20) (hc (cat_ok h21) .nil)))) (fun v9 hv=>?_)
       have hF:=lt_elim hF hv
       cases hF
       exact Wz [] hfin
     ·refine LR0 ?_
      refine Nif hF ?_ ?_ <;> intro hb hF
      ·refine LR0 ?_
       refine Nif hF ?_ ?_ <;> intro hb hF
       ·refine LR0 ?_
        cases hF
        exact Wz [] hfin
       ·obtain ⟨h22,hF⟩:=aE hF
        obtain ⟨h23,h24,hF⟩:=asrt2 hF
        refine NDL ((((lget ([([102,108,117,115,104]:List UInt8),([99,117,116]:List UInt8),([112,97,99,107]:List UInt8)]:List (List UInt8)) a0.N)++([32]:List UInt8))++a0.Row)) (fun v10:List UInt8=>([(2,.str v10)],[],[],[])) [.sealed,.av (e_str (lget ([([102,108,117,115,104]:List UInt8),([99,117,116]:List UInt8),([112,97,99,107]:List UInt8)]:List (List UInt8)) a0.N))] [2] [] [] [] (hc (idx_ok e_str h22) (hc (cat_ok h23) (hc (cat_ok h24) .nil))) (fun v10 hv=>?_)
        have hF:=lt_elim hF hv
        cases hF
        exact Wz [] hfin
      ·refine LR0 ?_
       cases hF
       exact Wz [] hfin

/- tabularylaw.DeskLines -/
def law_DeskLines (line:List UInt8) (a0:Act):Option Bool:=
 ob (law_deskBegun) fun x=>
 if (!x)=true then
  some false
 else
  if (((decide (2000<(line.length:Int)))||(decide (2000<(a0.Row.length:Int))))||(decide (2000<(a0.Order.Row.length:Int))))=true then
   some true
  else
   ob (desk_Read line) fun x1=>
   ob (desk_Write a0) fun x2=>
   ob (R_ActSaid line) fun x3=>
   if ((!(decide (x1.1.Kind=x3.1.Kind)&&(decide (x1.1.Order.Kind=x3.1.Order.Kind)&&(decide (x1.1.Order.ID=x3.1.Order.ID)&&(decide (x1.1.Order.Host=x3.1.Order.Host)&&(decide (x1.1.Order.Turn=x3.1.Order.Turn)&&(decide (x1.1.Order.Row=x3.1.Order.Row)&&(decide (x1.1.Host=x3.1.Host)&&(decide (x1.1.N=x3.1.N)&&(decide (x1.1.Row=x3.1.Row)&&true))))))))))||(!(decide (x1.2.Code=x3.2.Code)&&(decide (x1.2.At=x3.2.At)&&true))))=true then
    some false
   else
    ob (R_LineOf a0) fun x4=>
    ob (R_ActSaid x4) fun x5=>
    if ((!decide (x5.2.Code=0))||(!(decide (x5.1.Kind=a0.Kind)&&(decide (x5.1.Order.Kind=a0.Order.Kind)&&(decide (x5.1.Order.ID=a0.Order.ID)&&(decide (x5.1.Order.Host=a0.Order.Host)&&(decide (x5.1.Order.Turn=a0.Order.Turn)&&(decide (x5.1.Order.Row=a0.Order.Row)&&(decide (x5.1.Host=a0.Host)&&(decide (x5.1.N=a0.N)&&(decide (x5.1.Row=a0.Row)&&true)))))))))))=true then
     lt (R_F 5 0) fun x6=>
     lt ((decide (x2.2.Code=x6.Code)&&(decide (x2.2.At=x6.At)&&true))&&(decide (x2.1=([]:List UInt8)))) fun v=>
     some v
    else
     some ((decide (x2.2.Code=0))&&(decide (x2.1=x4)))
theorem law_DeskLines_ok {line a0 r} (hF:law_DeskLines line a0=some r):Pe Tryz.prog 3 S.none [.str line,.agg (c_Act a0)] (.bool r) S.none:=by
 refine PT 83 [.tmp 4] [4] Tryz.func3 ?_
 intro Q g hfin
 unfold law_DeskLines at hF
 refine LR0 ?_
 obtain ⟨x,h0,hF⟩:=oE hF
 refine RJ (.b (law_deskBegun_ok  x h0) .z) ?_
 refine Nif hF ?_ ?_ <;> intro hb hF
 ·refine LR0 ?_
  cases hF
  exact Wz [] hfin
 ·refine LR0 ?_
  refine Nif hF ?_ ?_ <;> intro hb hF
  ·refine LR0 ?_
   cases hF
   exact Wz [] hfin
  ·obtain ⟨x1,h1,hF⟩:=oE hF
   refine RJ (.b (desk_Read_ok h1) .z) ?_
   obtain ⟨x2,h2,hF⟩:=oE hF
   refine RJ (.b (desk_Write_ok h2) .z) ?_
   obtain ⟨x3,h3,hF⟩:=oE hF
   refine RJ (.b (R_ActSaid_ok h3) .z) ?_
   refine LR0 ?_
   refine Nif hF ?_ ?_ <;> intro hb hF
   ·refine LR0 ?_
    cases hF
    exact Wz [] hfin
   ·obtain ⟨x4,h4,hF⟩:=oE hF
    refine RJ (.b (R_LineOf_ok h4) .z) ?_
    obtain ⟨x5,h5,hF⟩:=oE hF
    refine RJ (.b (R_ActSaid_ok h5) .z) ?_
    refine LR0 ?_
    refine Nif hF ?_ ?_ <;> intro hb hF
    ·obtain ⟨x6,h6,hF⟩:=lS hF
     refine NDL ((decide (x2.2.Code=x6.Code)&&(decide (x2.2.At=x6.At)&&true))&&(decide (x2.1=([]:List UInt8)))) (fun v:Bool=>([(4,.bool v)],[],[],[])) [.callB (.agg (c_Fault x6))] [4] [] [] [] (hc (R_F_ok h6) .nil) (fun v hv=>?_)
     have hF:=lt_elim hF hv
     cases hF
     exact Wz [] hfin
    ·refine LR0 ?_
     cases hF
     exact Wz [] hfin

/- tabularylaw.DeskBack -/
def law_DeskBack_J1 (a0:Act) (v:Unit):Option Bool:=
 ob (desk_Write a0) fun x2=>
 if (!decide (x2.2.Code=0))=true then
  some (decide (x2.1=([]:List UInt8)))
 else
  ob (desk_Read x2.1) fun x3=>
  lt ((decide (x3.2.Code=0))&&(decide (x3.1.Kind=a0.Kind)&&(decide (x3.1.Order.Kind=a0.Order.Kind)&&(decide (x3.1.Order.ID=a0.Order.ID)&&(decide (x3.1.Order.Host=a0.Order.Host)&&(decide (x3.1.Order.Turn=a0.Order.Turn)&&(decide (x3.1.Order.Row=a0.Order.Row)&&(decide (x3.1.Host=a0.Host)&&(decide (x3.1.N=a0.N)&&(decide (x3.1.Row=a0.Row)&&true)))))))))) fun v1=>
  some v1
def law_DeskBack (line:List UInt8) (a0:Act):Option Bool:=
 ob (law_deskBegun) fun x=>
 if (!x)=true then
  some false
 else
  ob (desk_Read line) fun x1=>
  if (decide (x1.2.Code=0))=true then
   ob (desk_Write x1.1) fun x4=>
   if ((!decide (x4.2.Code=0))||(!decide (x4.1=line)))=true then
    some false
   else
    law_DeskBack_J1 a0 ()
  else
   if (!(decide (x1.1.Kind=0)&&(decide (x1.1.Order.Kind=0)&&(decide (x1.1.Order.ID=0)&&(decide (x1.1.Order.Host=0)&&(decide (x1.1.Order.Turn=0)&&(decide (x1.1.Order.Row=[])&&(decide (x1.1.Host=0)&&(decide (x1.1.N=0)&&(decide (x1.1.Row=[])&&true))))))))))=true then
    some false
   else
    law_DeskBack_J1 a0 ()
theorem law_DeskBack_ok {line a0 r} (hF:law_DeskBack line a0=some r):Pe Tryz.prog 4 S.none [.str line,.agg (c_Act a0)] (.bool r) S.none:=by
 refine PT 61 [.tmp 4] [4] Tryz.func4 ?_
 intro Q g hfin
 unfold law_DeskBack at hF
 refine LR0 ?_
 obtain ⟨x,h0,hF⟩:=oE hF
 refine RJ (.b (law_deskBegun_ok  x h0) .z) ?_
 refine Nif hF ?_ ?_ <;> intro hb hF
 ·refine LR0 ?_
  cases hF
  exact Wz [] hfin
 ·obtain ⟨x1,h1,hF⟩:=oE hF
  refine RJ (.b (desk_Read_ok h1) .z) ?_
  refine LR0 ?_
  refine NmS (fun v=>law_DeskBack_J1 a0 v=some r) (fun Z v=>Z.up [3,6] [3,6] [] [] [] [] [] []) ?_ ?_
  ·refine Nif hF ?_ ?_ <;> intro hb hF
   ·obtain ⟨x4,h4,hF⟩:=oE hF
    refine RJ (.b (desk_Write_ok h4) .z) ?_
    refine LR0 ?_
    refine Nif hF ?_ ?_ <;> intro hb hF
    ·refine LR0 ?_
     cases hF
     exact Wz [] hfin
    ·exact metQ () [] hF
   ·refine LR0 ?_
    refine Nif hF ?_ ?_ <;> intro hb hF
    ·refine LR0 ?_
     cases hF
     exact Wz [] hfin
    ·exact metQ () [] hF
  ·intro v hF
   unfold law_DeskBack_J1 at hF
   obtain ⟨x2,h2,hF⟩:=oE hF
   refine RJ (.b (desk_Write_ok h2) .z) ?_
   refine LR0 ?_
   refine Nif hF ?_ ?_ <;> intro hb hF
   ·refine LR0 ?_
    cases hF
    exact Wz [] hfin
   ·obtain ⟨x3,h3,hF⟩:=oE hF
    refine RJ (.b (desk_Read_ok h3) .z) ?_
    refine NRL ((decide (x3.2.Code=0))&&(decide (x3.1.Kind=a0.Kind)&&(decide (x3.1.Order.Kind=a0.Order.Kind)&&(decide (x3.1.Order.ID=a0.Order.ID)&&(decide (x3.1.Order.Host=a0.Order.Host)&&(decide (x3.1.Order.Turn=a0.Order.Turn)&&(decide (x3.1.Order.Row=a0.Order.Row)&&(decide (x3.1.Host=a0.Host)&&(decide (x3.1.N=a0.N)&&(decide (x3.1.Row=a0.Row)&&true)))))))))) (fun v1:Bool=>([(4,.bool v1)],[],[],[])) [] [4] [] [] [] .nil (fun v1 hv=>?_)
    have hF:=lt_elim hF hv
    cases hF
    exact Wz [] hfin

end
end G
end Go.Proofs.YtcifgljlmieblaaGreatDoor
