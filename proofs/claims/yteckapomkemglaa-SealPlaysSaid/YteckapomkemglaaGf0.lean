/- The program's functions as plain functions, and that they are these. Written by a program (dec2.py). -/
import Derived.Test.YteckapomkemglaaTys
namespace Go.Proofs.Yteckapomkemglaa
open Go Go.Dm
set_option linter.unusedVariables false
set_option linter.unusedSimpArgs false
set_option maxRecDepth 100000
namespace G
noncomputable section
/- seal.fault -/
def seal_fault (code at0 : Int) : Fault :=
 (⟨code, at0⟩ : Fault)
theorem seal_fault_ok {code at0 r} (hF : seal_fault code at0 = r) : Pe Try.prog 29 S.none [.i code, .i at0] (.agg (c_Fault r)) S.none := by
 refine PT 8 [.cell 4 29] [29] Try.func29 ?_
 intro Q g hfin
 unfold seal_fault at hF
 refine LR0 ?_
 refine LR0 ?_
 cases hF
 exact Wz [] hfin

/- seal.long$1 -/
def seal_long_1 (s0 : List UInt8) : Bool :=
 decide (200 < (s0.length : Int))
theorem seal_long_1_ok {s0 r} (hF : seal_long_1 s0 = r) : Pe Try.prog 42 S.none [.str s0] (.bool r) S.none := by
 refine PT 6 [.tmp 2] [4] Try.func42 ?_
 intro Q g hfin
 unfold seal_long_1 at hF
 refine LR0 ?_
 refine LR0 ?_
 cases hF
 exact Wz [] hfin

/- slices.IndexFunc[[]string,string] -/
def slices_IndexFunc_string_string_J1 (v : Unit) : Option Int :=
 some (-1)
def slices_IndexFunc_string_string_B1 (s0 : List (List UInt8)) (v1 : Int) : Option (Int ⊕ Int) :=
 if (decide (v1 < (s0.length : Int))) = true then
  asrt (0 ≤ v1 ∧ v1 < (s0.length : Int)) <|
  lt (seal_long_1 (lget s0 v1)) fun x =>
  if x = true then
   some (Sum.inr v1)
  else
   some (Sum.inl (w64 (v1 + 1)))
 else
  inrO (slices_IndexFunc_string_string_J1 ())
def slices_IndexFunc_string_string_L1 (s0 : List (List UInt8)) (v0 : Int) : Option Int :=
 loopO (fun y => slices_IndexFunc_string_string_B1 s0 y) v0
def slices_IndexFunc_string_string (s0 : List (List UInt8)) : Option Int :=
 slices_IndexFunc_string_string_L1 s0 0
theorem slices_IndexFunc_string_string_ok {s0 r} (hF : slices_IndexFunc_string_string s0 = some r) : Pe Try.prog 41 S.none [.sl 1 (s0.map e_str), .fn 42 []] (.i r) S.none := by
 refine PT 19 [.tmp 4] [3] Try.func41 ?_
 intro Q g hfin
 unfold slices_IndexFunc_string_string at hF
 refine LR0 ?_
 refine RJ (.l e_str s0 .z) ?_
 refine NmQ (fun v => slices_IndexFunc_string_string_J1 v = some r) (fun v => (.w [])) ?_ ?_
 ·refine Nblk ?_
  unfold slices_IndexFunc_string_string_L1 at hF
  refine Nits hF [] (fun Z v1 => Z.up [0, 1, 7, 8] [] [] [] [(8, .i v1)] [] [] []) ?_
  intro n1 v1 y1 hF ih1 dn1
  unfold slices_IndexFunc_string_string_B1 at hF
  refine LR0 ?_
  refine Nif hF ?_ ?_ <;> intro hb hF
  ·refine Nblk ?_
   refine LR0 ?_
   obtain ⟨h0, hF⟩ := aE hF
   obtain ⟨x, h1, hF⟩ := lS hF
   refine RJ (.i e_str h0 (.b (seal_long_1_ok h1) .z)) ?_
   refine Nif hF ?_ ?_ <;> intro hb hF
   ·refine LR0 ?_
    have hF := ret_done hF dn1
    cases hF
    exact Wz [] hfin
   ·refine LR0 ?_
    exact Nrnq [] hF ih1
  ·refine Nexit rfl ?_
   have hF := inrO_done hF dn1
   exact metQ () [] hF
 ·intro v hF
  unfold slices_IndexFunc_string_string_J1 at hF
  refine LR0 ?_
  cases hF
  exact Wz [] hfin

/- seal.long -/
def seal_long (l : List (List UInt8)) : Option Int :=
 ob (slices_IndexFunc_string_string l) fun x =>
 some x
theorem seal_long_ok {l r} (hF : seal_long l = some r) : Pe Try.prog 30 S.none [.sl 1 (l.map e_str)] (.i r) S.none := by
 refine PT 5 [.tmp 2] [3] Try.func30 ?_
 intro Q g hfin
 unfold seal_long at hF
 refine LR0 ?_
 obtain ⟨x, h0, hF⟩ := oE hF
 refine RJ (.b (slices_IndexFunc_string_string_ok h0) .z) ?_
 cases hF
 exact Wz [] hfin

/- seal.number -/
def seal_number (num : Int) : Bool :=
 (decide (0 ≤ num)) && (decide (num ≤ 1000000000))
theorem seal_number_ok {num r} (hF : seal_number num = r) : Pe Try.prog 28 S.none [.i num] (.bool r) S.none := by
 refine PT 9 [.tmp 2] [4] Try.func28 ?_
 intro Q g hfin
 unfold seal_number at hF
 refine LR0 ?_
 refine LR0 ?_
 cases hF
 exact Wz [] hfin

/- seal.Check -/
def seal_Check (c : Copy) : Option Fault :=
 lt (seal_number c.Epoch) fun x =>
 lt (seal_number c.Ended) fun x1 =>
 if ((!x) || (!x1)) = true then
  lt (seal_fault 3 (-1)) fun x2 =>
  some x2
 else
  if ((decide (c.Epoch < c.Ended)) || ((decide (0 < c.Ended)) && (!c.Closed))) = true then
   lt (seal_fault 11 (-1)) fun x3 =>
   some x3
  else
   if (decide (100 < (c.Recs.length : Int))) = true then
    lt (seal_fault 2 (-1)) fun x4 =>
    some x4
   else
    ob (seal_long c.Recs) fun x5 =>
    if (decide (0 ≤ x5)) = true then
     lt (seal_fault 8 x5) fun x6 =>
     some x6
    else
     some (⟨0, 0⟩ : Fault)
theorem seal_Check_ok {c r} (hF : seal_Check c = some r) : Pe Try.prog 10 S.none [.agg (c_Copy c)] (.agg (c_Fault r)) S.none := by
 refine PT 47 [.cell 2 29] [29] Try.func10 ?_
 intro Q g hfin
 unfold seal_Check at hF
 refine LR0 ?_
 refine Nblk ?_
 obtain ⟨x, h0, hF⟩ := lS hF
 obtain ⟨x1, h1, hF⟩ := lS hF
 refine RJ (.b (seal_number_ok h0) (.a (.callB (.bool x1)) (.g (fun (ga0 : (!(!x)) = true) => (seal_number_ok h1)) .z))) ?_
 refine Nif hF ?_ ?_ <;> intro hb hF
 ·obtain ⟨x2, h2, hF⟩ := lS hF
  refine RJ (.b (seal_fault_ok h2) .z) ?_
  cases hF
  exact Wz [] hfin
 ·refine LR0 ?_
  refine Nif hF ?_ ?_ <;> intro hb hF
  ·obtain ⟨x3, h3, hF⟩ := lS hF
   refine RJ (.b (seal_fault_ok h3) .z) ?_
   cases hF
   exact Wz [] hfin
  ·refine RJ (.l e_str c.Recs .z) ?_
   refine Nif hF ?_ ?_ <;> intro hb hF
   ·obtain ⟨x4, h4, hF⟩ := lS hF
    refine RJ (.b (seal_fault_ok h4) .z) ?_
    cases hF
    exact Wz [] hfin
   ·obtain ⟨x5, h5, hF⟩ := oE hF
    refine RJ (.b (seal_long_ok h5) .z) ?_
    refine LR0 ?_
    refine Nif hF ?_ ?_ <;> intro hb hF
    ·obtain ⟨x6, h6, hF⟩ := lS hF
     refine RJ (.b (seal_fault_ok h6) .z) ?_
     cases hF
     exact Wz [] hfin
    ·refine LR0 ?_
     cases hF
     exact Wz [] hfin

/- seal.may -/
def seal_may (c : Copy) (epoch : Int) : Option Fault :=
 ob (seal_Check c) fun x =>
 if (!decide (x.Code = 0)) = true then
  some x
 else
  if ((decide (epoch < 1)) || (decide (1000000000 < epoch))) = true then
   lt (seal_fault 3 (-1)) fun x1 =>
   some x1
  else
   some (⟨0, 0⟩ : Fault)
theorem seal_may_ok {c epoch r} (hF : seal_may c epoch = some r) : Pe Try.prog 31 S.none [.agg (c_Copy c), .i epoch] (.agg (c_Fault r)) S.none := by
 refine PT 20 [.cell 4 29] [29] Try.func31 ?_
 intro Q g hfin
 unfold seal_may at hF
 refine LR0 ?_
 obtain ⟨x, h0, hF⟩ := oE hF
 refine RJ (.b (seal_Check_ok h0) .z) ?_
 refine LR0 ?_
 refine Nif hF ?_ ?_ <;> intro hb hF
 ·refine LR0 ?_
  cases hF
  exact Wz [] hfin
 ·refine LR0 ?_
  refine Nif hF ?_ ?_ <;> intro hb hF
  ·obtain ⟨x1, h1, hF⟩ := lS hF
   refine RJ (.b (seal_fault_ok h1) .z) ?_
   cases hF
   exact Wz [] hfin
  ·refine LR0 ?_
   cases hF
   exact Wz [] hfin

/- seal.stale -/
def seal_stale (c : Copy) (epoch : Int) : Fault :=
 if (decide (epoch < c.Epoch)) = true then
  lt (seal_fault 12 (-1)) fun x =>
  x
 else
  (⟨0, 0⟩ : Fault)
theorem seal_stale_ok {c epoch r} (hF : seal_stale c epoch = r) : Pe Try.prog 32 S.none [.agg (c_Copy c), .i epoch] (.agg (c_Fault r)) S.none := by
 refine PT 11 [.cell 4 29] [29] Try.func32 ?_
 intro Q g hfin
 unfold seal_stale at hF
 refine LR0 ?_
 refine LR0 ?_
 refine Nif hF ?_ ?_ <;> intro hb hF
 ·obtain ⟨x, h0, hF⟩ := lS hF
  refine RJ (.b (seal_fault_ok h0) .z) ?_
  cases hF
  exact Wz [] hfin
 ·refine LR0 ?_
  cases hF
  exact Wz [] hfin

/- slices.Clone[[]string,string] -/
def slices_Clone_string_string (s0 : List (List UInt8)) : Option (List (List UInt8)) :=
 ubO (decide (s0.length = 0)) (
  some ([] : List (List UInt8))) (
  asrt (((([] : List (List UInt8)) ++ s0).length : Int) * 16 ≤ 140737488351232) <|
  some (([] : List (List UInt8)) ++ s0))
theorem slices_Clone_string_string_ok {s0 r} (hF : slices_Clone_string_string s0 = some r) : Pe Try.prog 34 (.w []) [.sl 1 (s0.map e_str)] (.row 5 0) ⟨[], [], [(5, .o 9 1 0 (r.map e_str))], [], []⟩ := by
 refine PT 8 [.tmp 2] [22] Try.func34 ?_
 intro Q g hfin
 unfold slices_Clone_string_string at hF
 refine LR0 ?_
 refine NR [.bo (decide (s0.length = 0))] [0, 4] [] [] [(0, .sl 1 (s0.map e_str)), (4, .ub (decide (s0.length = 0)) true)] (hc (ubn_ok e_str s0) .nil) ?_
 refine Wk_ub 4 rfl fun b hb1 hb2 => ?_
 refine Nsplit rfl (fun hb => ?_) (fun hb => ?_)
 ·have hb := hb1 hb
  have hF := (ubO_elim hF).1 hb
  refine NR [] [2] [] [] [(2, .nils)] .nil ?_
  cases hF
  refine Wk_nilrow 2 60000 9 1 rfl rfl rfl ?_
  refine Wk_ren' ⟨[], [(60000, 5)], [], []⟩ rfl ?_
  exact Wz [(5, ⟨0, true, false, false⟩)] hfin
 ·have hF := (ubO_elim hF).2
  obtain ⟨h0, hF⟩ := aE hF
  refine RJ (.p e_str h0 .z) ?_
  cases hF
  exact Wz [(5, ⟨0, true, true, false⟩)] hfin

/- seal.own -/
def seal_own (c : Copy) (epoch : Int) : Option (Int × Bool × List (List UInt8) × Int) :=
 ob (slices_Clone_string_string c.Recs) fun x =>
 some (epoch, c.Closed, x, c.Ended)
theorem seal_own_ok {c epoch r} (hF : seal_own c epoch = some r) : Pe Try.prog 33 (.w []) [.agg (c_Copy c), .i epoch] (.agg [.i r.1, .bool r.2.1, .row 8 0, .i r.2.2.2]) ⟨[], [], [(8, .o 9 1 0 (r.2.2.1.map e_str))], [], []⟩ := by
 refine PT 12 [.cell 4 24] [24] Try.func33 ?_
 intro Q g hfin
 unfold seal_own at hF
 refine LR0 ?_
 obtain ⟨x, h0, hF⟩ := oE hF
 have p1 := (Pe.ren (slices_Clone_string_string_ok h0) ⟨[], [(5, 8)], [], []⟩)
 refine RJ (.e [] [] p1 .z) ?_
 refine LR0 ?_
 cases hF
 exact Wz [] hfin

/- seal.Append -/
def seal_Append (c : Copy) (epoch at0 : Int) (rec0 : List UInt8) : Option (Int × Bool × List (List UInt8) × Int × Fault) :=
 ob (seal_may c epoch) fun x =>
 ob (
  if (decide (x.Code = 0)) = true then
   lt (seal_stale c epoch) fun x1 =>
   some x1
  else
   some x) fun v =>
 ob (
  if (!decide (v.Code = 0)) = true then
   some v
  else
   if c.Closed = true then
    lt (seal_fault 11 (-2)) fun x2 =>
    some x2
   else
    if (decide (200 < (rec0.length : Int))) = true then
     lt (seal_fault 8 (-2)) fun x3 =>
     some x3
    else
     if ((decide (at0 < 0)) || (decide ((c.Recs.length : Int) < at0))) = true then
      lt (seal_fault 3 (-2)) fun x4 =>
      some x4
     else
      asrt ((decide (at0 < (c.Recs.length : Int))) = true → 0 ≤ at0 ∧ at0 < (c.Recs.length : Int)) <|
      if ((decide (at0 < (c.Recs.length : Int))) && (!decide ((lget c.Recs at0) = rec0))) = true then
       lt (seal_fault 7 (-2)) fun x5 =>
       some x5
      else
       if (decide (at0 = 100)) = true then
        lt (seal_fault 2 (-2)) fun x6 =>
        some x6
       else
        some v) fun (v1 : Fault) =>
 if (!decide (v1.Code = 0)) = true then
  some (0, false, ([] : List (List UInt8)), 0, v1)
 else
  ob (seal_own c epoch) fun x7 =>
  ob (
   if (decide (at0 = (c.Recs.length : Int))) = true then
    asrt (((x7.2.2.1 ++ ([rec0] : List (List UInt8))).length : Int) * 16 ≤ 140737488351232) <|
    some (x7.2.2.1 ++ ([rec0] : List (List UInt8)))
   else
    some x7.2.2.1) fun v2 =>
  some (x7.1, x7.2.1, v2, x7.2.2.2, v1)
theorem seal_Append_ok {c epoch at0 rec0 r} (hF : seal_Append c epoch at0 rec0 = some r) : Pe Try.prog 11 (.w []) [.agg (c_Copy c), .i epoch, .i at0, .str rec0] (.tup [.agg [.i r.1, .bool r.2.1, .row 71 0, .i r.2.2.2.1], .agg (c_Fault r.2.2.2.2)]) ⟨[], [], [(71, .o 9 1 0 (r.2.2.1.map e_str))], [], []⟩ := by
 refine PT 83 [.cell 8 24, .cell 9 29] [24, 29] Try.func11 ?_
 intro Q g hfin
 unfold seal_Append at hF
 refine LR0 ?_
 obtain ⟨x, h0, hF⟩ := oE hF
 refine RJ (.b (seal_may_ok h0) .z) ?_
 refine LR0 ?_
 obtain ⟨v, hv, hF⟩ := oE hF
 refine NmT (fun Z => Z.up [1, 2, 3, 4, 8, 9, 10] [4, 8, 9, 10] [] [] [] [(10, (c_Fault v))] [] []) ?_ ?_
 ·have hF := hv
  refine Nif hF ?_ ?_ <;> intro hb hF
  ·obtain ⟨x1, h1, hF⟩ := lS hF
   refine RJ (.b (seal_stale_ok h1) .z) ?_
   cases hF
   exact met' []
  ·cases hF
   exact met' []
 ·refine RJ (.l e_str c.Recs .z) ?_
  refine Nblk ?_
  refine LR0 ?_
  obtain ⟨v1, hv, hF⟩ := oE hF
  refine NmT (fun Z => Z.up [1, 2, 3, 4, 8, 9, 10, 11] [4, 8, 9, 10] [] [] [] [(10, (c_Fault v1))] [] []) ?_ ?_
  ·have hF := hv
   refine Nif hF ?_ ?_ <;> intro hb hF
   ·cases hF
    exact met' []
   ·refine LR0 ?_
    refine Nif hF ?_ ?_ <;> intro hb hF
    ·obtain ⟨x2, h2, hF⟩ := lS hF
     refine RJ (.b (seal_fault_ok h2) .z) ?_
     cases hF
     exact met' []
    ·refine LR0 ?_
     refine Nif hF ?_ ?_ <;> intro hb hF
     ·obtain ⟨x3, h3, hF⟩ := lS hF
      refine RJ (.b (seal_fault_ok h3) .z) ?_
      cases hF
      exact met' []
     ·refine LR0 ?_
      refine Nif hF ?_ ?_ <;> intro hb hF
      ·obtain ⟨x4, h4, hF⟩ := lS hF
       refine RJ (.b (seal_fault_ok h4) .z) ?_
       cases hF
       exact met' []
      ·obtain ⟨h5, hF⟩ := aE hF
       refine RJ (.a (.av (e_str (lget c.Recs at0))) (.g (fun (ga0 : (decide (at0 < (c.Recs.length : Int))) = true) => (idx_ok e_str (h5 ga0))) .z)) ?_
       refine Nif hF ?_ ?_ <;> intro hb hF
       ·obtain ⟨x5, h6, hF⟩ := lS hF
        refine RJ (.b (seal_fault_ok h6) .z) ?_
        cases hF
        exact met' []
       ·refine LR0 ?_
        refine Nif hF ?_ ?_ <;> intro hb hF
        ·obtain ⟨x6, h7, hF⟩ := lS hF
         refine RJ (.b (seal_fault_ok h7) .z) ?_
         cases hF
         exact met' []
        ·cases hF
         exact met' []
  ·refine LR0 ?_
   refine Nif hF ?_ ?_ <;> intro hb hF
   ·refine VD [] [8, 9] [8, 9] [] [] [(8, .ptr 8 0), (9, .ptr 9 0)] [(8, [.i 0, .bool false, .nils, .i 0]), (9, (c_Fault v1))] [] [] .nil ?_
    cases hF
    refine Wk_nilrowB 8 2 60000 9 1 rfl rfl rfl rfl rfl ?_
    refine Wk_ren' ⟨[], [(60000, 71)], [], []⟩ rfl ?_
    exact Wz [(71, ⟨0, true, false, false⟩)] hfin
   ·obtain ⟨x7, h8, hF⟩ := oE hF
    have p9 := (Pe.ren (seal_own_ok h8) ⟨[], [(8, 71)], [], []⟩)
    refine RJ (.e [] [] p9 .z) ?_
    refine LR0 ?_
    obtain ⟨v2, hv, hF⟩ := oE hF
    refine NmT (fun Z => Z.up [4, 8, 9, 10] [4, 8, 9, 10] [71] [] [] [] [(71, .o 9 1 0 (v2.map e_str))] []) ?_ ?_
    ·have hF := hv
     refine Nif hF ?_ ?_ <;> intro hb hF
     ·obtain ⟨h10, hF⟩ := aE hF
      refine RJ (.a (.sealed) (.p e_str h10 .z)) ?_
      cases hF
      exact met' [(71, ⟨0, true, true, false⟩)]
     ·cases hF
      exact met' []
    ·refine LD0 ?_
     cases hF
     exact Wz [] hfin

/- slices.Index[[]int,int] -/
def slices_Index_int_int_J1 (v1 : Unit) : Option Int :=
 some (-1)
def slices_Index_int_int_B1 (s0 : List Int) (v v2 : Int) : Option (Int ⊕ Int) :=
 if (decide (v2 < (s0.length : Int))) = true then
  asrt (0 ≤ v2 ∧ v2 < (s0.length : Int)) <|
  if (decide (v = (lget s0 v2))) = true then
   some (Sum.inr v2)
  else
   some (Sum.inl (w64 (v2 + 1)))
 else
  inrO (slices_Index_int_int_J1 ())
def slices_Index_int_int_L1 (s0 : List Int) (v v0 : Int) : Option Int :=
 loopO (fun y => slices_Index_int_int_B1 s0 v y) v0
def slices_Index_int_int (s0 : List Int) (v : Int) : Option Int :=
 slices_Index_int_int_L1 s0 v 0
theorem slices_Index_int_int_ok {s0 v r} (hF : slices_Index_int_int s0 v = some r) : Pe Try.prog 50 S.none [.sl 1 (s0.map e_i64), .i v] (.i r) S.none := by
 refine PT 19 [.tmp 4] [3] Try.func50 ?_
 intro Q g hfin
 unfold slices_Index_int_int at hF
 refine LR0 ?_
 refine RJ (.l e_i64 s0 .z) ?_
 refine NmQ (fun v1 => slices_Index_int_int_J1 v1 = some r) (fun v1 => (.w [])) ?_ ?_
 ·refine Nblk ?_
  unfold slices_Index_int_int_L1 at hF
  refine Nits hF [] (fun Z v2 => Z.up [0, 1, 7, 8] [] [] [] [(8, .i v2)] [] [] []) ?_
  intro n1 v2 y1 hF ih1 dn1
  unfold slices_Index_int_int_B1 at hF
  refine LR0 ?_
  refine Nif hF ?_ ?_ <;> intro hb hF
  ·refine Nblk ?_
   refine LR0 ?_
   obtain ⟨h0, hF⟩ := aE hF
   refine RJ (.i e_i64 h0 .z) ?_
   refine Nif hF ?_ ?_ <;> intro hb hF
   ·refine LR0 ?_
    have hF := ret_done hF dn1
    cases hF
    exact Wz [] hfin
   ·refine LR0 ?_
    exact Nrnq [] hF ih1
  ·refine Nexit rfl ?_
   have hF := inrO_done hF dn1
   exact metQ () [] hF
 ·intro v1 hF
  unfold slices_Index_int_int_J1 at hF
  refine LR0 ?_
  cases hF
  exact Wz [] hfin

/- slices.Contains[[]int,int] -/
def slices_Contains_int_int (s0 : List Int) (v : Int) : Option Bool :=
 ob (slices_Index_int_int s0 v) fun x =>
 some (decide (0 ≤ x))
theorem slices_Contains_int_int_ok {s0 v r} (hF : slices_Contains_int_int s0 v = some r) : Pe Try.prog 46 S.none [.sl 1 (s0.map e_i64), .i v] (.bool r) S.none := by
 refine PT 9 [.tmp 4] [4] Try.func46 ?_
 intro Q g hfin
 unfold slices_Contains_int_int at hF
 refine LR0 ?_
 obtain ⟨x, h0, hF⟩ := oE hF
 refine RJ (.b (slices_Index_int_int_ok h0) .z) ?_
 cases hF
 exact Wz [] hfin

/- seal.once -/
def seal_once_v1 (num : Int) (row : List Int) : Option (List Int) :=
 ob (slices_Contains_int_int row num) fun x =>
 if x = true then
  some row
 else
  asrt (((row ++ ([num] : List Int)).length : Int) * 8 ≤ 140737488351232) <|
  some (row ++ ([num] : List Int))
theorem seal_once_v1_ok (rk rc : Nat) (rn : Bool) {num row r} (hF : seal_once_v1 num row = some r) : Pe Try.prog 43 (.w [(100000, .q 3 1 0 rk rc rn (row.map e_i64))]) [.row 100000 0, .i num] (.row 100000 1) (.w [(100000, .q 3 1 1 rk rc rn (r.map e_i64))]) := by
 refine PT 13 [.tmp 4] [54] Try.func43 ?_
 intro Q g hfin
 unfold seal_once_v1 at hF
 refine LR0 ?_
 obtain ⟨x, h0, hF⟩ := oE hF
 refine RJ (.b (slices_Contains_int_int_ok h0) .z) ?_
 refine Nif hF ?_ ?_ <;> intro hb hF
 ·refine LR0 ?_
  cases hF
  exact Wz [(100000, ⟨1, true, true, false⟩)] hfin
 ·obtain ⟨h1, hF⟩ := aE hF
  refine RJ (.a (.sealed) (.p e_i64 h1 .z)) ?_
  cases hF
  exact Wz [] hfin

/- (*seal.vault).does$1 -/
def seal_vault_does_1 (hh : Heal) (box : Deed) : Bool :=
 decide (hh.Epoch = box.N)
theorem seal_vault_does_1_ok {hh box r} (hF : seal_vault_does_1 hh box = r) : Pe Try.prog 45 ⟨[], [(100000, (c_Deed box))], [], [], []⟩ [.agg (c_Heal hh), .ptr 100000 0] (.bool r) ⟨[], [(100000, (c_Deed box))], [], [], []⟩ := by
 refine PT 9 [.tmp 3] [4] Try.func45 ?_
 intro Q g hfin
 unfold seal_vault_does_1 at hF
 refine LR0 ?_
 refine LR0 ?_
 cases hF
 exact Wz [] hfin

/- slices.IndexFunc[[]api.Heal,api.Heal] -/
def slices_IndexFunc_api_Heal_api_Heal_J1 (v : Unit) : Option Int :=
 some (-1)
def slices_IndexFunc_api_Heal_api_Heal_B1 (s0 : List Heal) (box : Deed) (v1 : Int) : Option (Int ⊕ Int) :=
 if (decide (v1 < (s0.length : Int))) = true then
  asrt (0 ≤ v1 ∧ v1 < (s0.length : Int)) <|
  lt (seal_vault_does_1 (⟨(lget s0 v1).Epoch, (lget s0 v1).Heard, (lget s0 v1).Said, (lget s0 v1).Has, (lget s0 v1).Recs, (lget s0 v1).Ends⟩ : Heal) box) fun x =>
  if x = true then
   some (Sum.inr v1)
  else
   some (Sum.inl (w64 (v1 + 1)))
 else
  inrO (slices_IndexFunc_api_Heal_api_Heal_J1 ())
def slices_IndexFunc_api_Heal_api_Heal_L1 (s0 : List Heal) (box : Deed) (v0 : Int) : Option Int :=
 loopO (fun y => slices_IndexFunc_api_Heal_api_Heal_B1 s0 box y) v0
def slices_IndexFunc_api_Heal_api_Heal (s0 : List Heal) (box : Deed) : Option Int :=
 slices_IndexFunc_api_Heal_api_Heal_L1 s0 box 0
theorem slices_IndexFunc_api_Heal_api_Heal_ok {s0 box r} (hF : slices_IndexFunc_api_Heal_api_Heal s0 box = some r) : Pe Try.prog 49 ⟨[], [(100000, (c_Deed box))], [], [], []⟩ [.sl 6 (s0.map e_Heal), .fn 45 [.ptr 100000 0]] (.i r) ⟨[], [(100000, (c_Deed box))], [], [], []⟩ := by
 refine PT 19 [.tmp 4] [3] Try.func49 ?_
 intro Q g hfin
 unfold slices_IndexFunc_api_Heal_api_Heal at hF
 refine LR0 ?_
 refine RJ (.l e_Heal s0 .z) ?_
 refine NmS (fun v => slices_IndexFunc_api_Heal_api_Heal_J1 v = some r) (fun Z v => Z.up [] [100000] [] [] [] [] [] []) ?_ ?_
 ·refine Nblk ?_
  unfold slices_IndexFunc_api_Heal_api_Heal_L1 at hF
  refine Nits hF [] (fun Z v1 => Z.up [0, 1, 7, 8] [100000] [] [] [(8, .i v1)] [] [] []) ?_
  intro n1 v1 y1 hF ih1 dn1
  unfold slices_IndexFunc_api_Heal_api_Heal_B1 at hF
  refine LR0 ?_
  refine Nif hF ?_ ?_ <;> intro hb hF
  ·refine Nblk ?_
   refine LR0 ?_
   obtain ⟨h0, hF⟩ := aE hF
   obtain ⟨x, h1, hF⟩ := lS hF
   refine RJ (.i e_Heal h0 (.q [100000] [] (Pe.ren (seal_vault_does_1_ok h1) ⟨[], [], [], []⟩) .z)) ?_
   refine Nif hF ?_ ?_ <;> intro hb hF
   ·refine LR0 ?_
    have hF := ret_done hF dn1
    cases hF
    exact Wz [] hfin
   ·refine LR0 ?_
    exact Nrnq [] hF ih1
  ·refine Nexit rfl ?_
   have hF := inrO_done hF dn1
   exact metQ () [] hF
 ·intro v hF
  unfold slices_IndexFunc_api_Heal_api_Heal_J1 at hF
  refine LR0 ?_
  cases hF
  exact Wz [] hfin

/- slices.ContainsFunc[[]api.Heal,api.Heal] -/
def slices_ContainsFunc_api_Heal_api_Heal (s0 : List Heal) (box : Deed) : Option Bool :=
 ob (slices_IndexFunc_api_Heal_api_Heal s0 box) fun x =>
 some (decide (0 ≤ x))
theorem slices_ContainsFunc_api_Heal_api_Heal_ok {s0 box r} (hF : slices_ContainsFunc_api_Heal_api_Heal s0 box = some r) : Pe Try.prog 44 ⟨[], [(100000, (c_Deed box))], [], [], []⟩ [.sl 6 (s0.map e_Heal), .fn 45 [.ptr 100000 0]] (.bool r) ⟨[], [(100000, (c_Deed box))], [], [], []⟩ := by
 refine PT 9 [.tmp 4] [4] Try.func44 ?_
 intro Q g hfin
 unfold slices_ContainsFunc_api_Heal_api_Heal at hF
 refine LR0 ?_
 obtain ⟨x, h0, hF⟩ := oE hF
 refine RJ (.q [100000] [] (Pe.ren (slices_IndexFunc_api_Heal_api_Heal_ok h0) ⟨[], [], [], []⟩) .z) ?_
 cases hF
 exact Wz [] hfin

/- seal.Close -/
def seal_Close (c : Copy) (epoch : Int) : Option (Int × Bool × List (List UInt8) × Int × Fault) :=
 ob (seal_may c epoch) fun x =>
 ob (
  if (decide (x.Code = 0)) = true then
   lt (seal_stale c epoch) fun x1 =>
   some x1
  else
   some x) fun v =>
 if (!decide (v.Code = 0)) = true then
  some (0, false, ([] : List (List UInt8)), 0, v)
 else
  ob (seal_own c epoch) fun x2 =>
  some (x2.1, true, x2.2.2.1, x2.2.2.2, v)
theorem seal_Close_ok {c epoch r} (hF : seal_Close c epoch = some r) : Pe Try.prog 12 (.w []) [.agg (c_Copy c), .i epoch] (.tup [.agg [.i r.1, .bool r.2.1, .row 23 0, .i r.2.2.2.1], .agg (c_Fault r.2.2.2.2)]) ⟨[], [], [(23, .o 9 1 0 (r.2.2.1.map e_str))], [], []⟩ := by
 refine PT 27 [.cell 4 24, .cell 5 29] [24, 29] Try.func12 ?_
 intro Q g hfin
 unfold seal_Close at hF
 refine LR0 ?_
 obtain ⟨x, h0, hF⟩ := oE hF
 refine RJ (.b (seal_may_ok h0) .z) ?_
 refine LR0 ?_
 obtain ⟨v, hv, hF⟩ := oE hF
 refine NmT (fun Z => Z.up [1, 2, 4, 5, 6] [2, 4, 5, 6] [] [] [] [(6, (c_Fault v))] [] []) ?_ ?_
 ·have hF := hv
  refine Nif hF ?_ ?_ <;> intro hb hF
  ·obtain ⟨x1, h1, hF⟩ := lS hF
   refine RJ (.b (seal_stale_ok h1) .z) ?_
   cases hF
   exact met' []
  ·cases hF
   exact met' []
 ·refine LR0 ?_
  refine Nif hF ?_ ?_ <;> intro hb hF
  ·refine VD [] [4, 5] [4, 5] [] [] [(4, .ptr 4 0), (5, .ptr 5 0)] [(4, [.i 0, .bool false, .nils, .i 0]), (5, (c_Fault v))] [] [] .nil ?_
   cases hF
   refine Wk_nilrowB 4 2 60000 9 1 rfl rfl rfl rfl rfl ?_
   refine Wk_ren' ⟨[], [(60000, 23)], [], []⟩ rfl ?_
   exact Wz [(23, ⟨0, true, false, false⟩)] hfin
  ·obtain ⟨x2, h2, hF⟩ := oE hF
   have p3 := (Pe.ren (seal_own_ok h2) ⟨[], [(8, 23)], [], []⟩)
   refine RJ (.e [] [] p3 .z) ?_
   refine LR0 ?_
   refine LD0 ?_
   cases hF
   exact Wz [] hfin

/- seal.Choose -/
def seal_Choose_J2 (v1 : Copy) : Option (List (List UInt8) × Fault) :=
 ob (slices_Clone_string_string v1.Recs) fun x3 =>
 some (x3, (⟨0, 0⟩ : Fault))
def seal_Choose_B1 (said : List Copy) (v2 : Copy × Int) : Option ((Copy × Int) ⊕ (List (List UInt8) × Fault)) :=
 if (decide (v2.2 < ((ldrop said 1).length : Int))) = true then
  asrt (0 ≤ v2.2 ∧ v2.2 < ((ldrop said 1).length : Int)) <|
  ob (
   if ((decide (v2.1.Ended < ((lget (ldrop said 1) v2.2).Ended))) || (((decide (v2.1.Ended = 0)) && (decide (((lget (ldrop said 1) v2.2).Ended) = 0))) && (decide ((v2.1.Recs.length : Int) < (((lget (ldrop said 1) v2.2).Recs).length : Int))))) = true then
    some (⟨(lget (ldrop said 1) v2.2).Epoch, (lget (ldrop said 1) v2.2).Closed, (lget (ldrop said 1) v2.2).Recs, (lget (ldrop said 1) v2.2).Ended⟩ : Copy)
   else
    some v2.1) fun v3 =>
  some (Sum.inl (v3, w64 (v2.2 + 1)))
 else
  inrO (seal_Choose_J2 v2.1)
def seal_Choose_L1 (said : List Copy) (v0 : Copy × Int) : Option (List (List UInt8) × Fault) :=
 loopO (fun y => seal_Choose_B1 said y) v0
def seal_Choose_J1 (num : Int) (said : List Copy) (v : Unit) : Option (List (List UInt8) × Fault) :=
 if (decide ((w64 (2 * (said.length : Int))) ≤ num)) = true then
  lt (seal_fault 6 (-1)) fun x2 =>
  some (([] : List (List UInt8)), x2)
 else
  asrt (0 ≤ (0 : Int) ∧ 0 < (said.length : Int)) <|
  asrt (0 ≤ (1 : Int) ∧ (1 : Int) ≤ (said.length : Int)) <|
  seal_Choose_L1 said ((⟨(lget said 0).Epoch, (lget said 0).Closed, (lget said 0).Recs, (lget said 0).Ended⟩ : Copy), 0)
def seal_Choose_B2 (num : Int) (said : List Copy) (v4 : Int) : Option (Int ⊕ (List (List UInt8) × Fault)) :=
 if (decide (v4 < (said.length : Int))) = true then
  asrt (0 ≤ v4 ∧ v4 < (said.length : Int)) <|
  ob (seal_Check (⟨(lget said v4).Epoch, (lget said v4).Closed, (lget said v4).Recs, (lget said v4).Ended⟩ : Copy)) fun x4 =>
  if (!decide (x4.Code = 0)) = true then
   lt (seal_fault x4.Code v4) fun x5 =>
   some (Sum.inr (([] : List (List UInt8)), x5))
  else
   if (!((lget said v4).Closed)) = true then
    lt (seal_fault 11 v4) fun x6 =>
    some (Sum.inr (([] : List (List UInt8)), x6))
   else
    some (Sum.inl (w64 (v4 + 1)))
 else
  inrO (seal_Choose_J1 num said ())
def seal_Choose_L2 (num : Int) (said : List Copy) (v0 : Int) : Option (List (List UInt8) × Fault) :=
 loopO (fun y => seal_Choose_B2 num said y) v0
def seal_Choose (num : Int) (said : List Copy) : Option (List (List UInt8) × Fault) :=
 if ((decide (num < 1)) || (decide (7 < num))) = true then
  lt (seal_fault 3 (-1)) fun x =>
  some (([] : List (List UInt8)), x)
 else
  if (decide (num < (said.length : Int))) = true then
   lt (seal_fault 2 (-1)) fun x1 =>
   some (([] : List (List UInt8)), x1)
  else
   seal_Choose_L2 num said 0
theorem seal_Choose_ok {num said r} (hF : seal_Choose num said = some r) : Pe Try.prog 20 (.w []) [.i num, .sl 4 (said.map e_Copy)] (.tup [.row 90 0, .agg (c_Fault r.2)]) ⟨[], [], [(90, .o 9 1 0 (r.1.map e_str))], [], []⟩ := by
 refine PT 92 [.tmp 4, .cell 5 29] [22, 29] Try.func20 ?_
 intro Q g hfin
 unfold seal_Choose at hF
 refine LR0 ?_
 refine LR0 ?_
 refine Nif hF ?_ ?_ <;> intro hb hF
 ·obtain ⟨x, h0, hF⟩ := lS hF
  refine VR [.callB (.agg (c_Fault x))] [4, 5] [5] [] [] [(4, .nils), (5, .ptr 5 0)] [(5, (c_Fault x))] [] [] (hc (seal_fault_ok h0) .nil) ?_
  cases hF
  refine Wk_nilrow 4 60000 9 1 rfl rfl rfl ?_
  refine Wk_ren' ⟨[], [(60000, 90)], [], []⟩ rfl ?_
  exact Wz [(90, ⟨0, true, false, false⟩)] hfin
 ·refine RJ (.l e_Copy said .z) ?_
  refine Nif hF ?_ ?_ <;> intro hb hF
  ·obtain ⟨x1, h1, hF⟩ := lS hF
   refine VR [.callB (.agg (c_Fault x1))] [4, 5] [5] [] [] [(4, .nils), (5, .ptr 5 0)] [(5, (c_Fault x1))] [] [] (hc (seal_fault_ok h1) .nil) ?_
   cases hF
   refine Wk_nilrow 4 60001 9 1 rfl rfl rfl ?_
   refine Wk_ren' ⟨[], [(60001, 90)], [], []⟩ rfl ?_
   exact Wz [(90, ⟨0, true, false, false⟩)] hfin
  ·refine RJ (.l e_Copy said .z) ?_
   refine NmS (fun v => seal_Choose_J1 num said v = some r) (fun Z v => Z.up [0, 1, 5] [5] [] [] [] [] [] []) ?_ ?_
   ·refine Nblk ?_
    unfold seal_Choose_L2 at hF
    refine Nits hF [] (fun Z v4 => Z.up [0, 1, 5, 24, 25, 26] [5] [] [] [(26, .i v4)] [] [] []) ?_
    intro n1 v4 y1 hF ih1 dn1
    unfold seal_Choose_B2 at hF
    refine LR0 ?_
    refine Nif hF ?_ ?_ <;> intro hb hF
    ·refine Nblk ?_
     obtain ⟨h8, hF⟩ := aE hF
     refine RJ (.i e_Copy h8 .z) ?_
     obtain ⟨x4, h9, hF⟩ := oE hF
     refine RJ (.b (seal_Check_ok h9) .z) ?_
     refine LR0 ?_
     refine Nif hF ?_ ?_ <;> intro hb hF
     ·obtain ⟨x5, h10, hF⟩ := lS hF
      refine VR [.callB (.agg (c_Fault x5))] [4, 5] [5] [] [] [(4, .nils), (5, .ptr 5 0)] [(5, (c_Fault x5))] [] [] (hc (seal_fault_ok h10) .nil) ?_
      have hF := ret_done hF dn1
      cases hF
      refine Wk_nilrow 4 60003 9 1 rfl rfl rfl ?_
      refine Wk_ren' ⟨[], [(60003, 90)], [], []⟩ rfl ?_
      exact Wz [(90, ⟨0, true, false, false⟩)] hfin
     ·refine LR0 ?_
      refine Nif hF ?_ ?_ <;> intro hb hF
      ·obtain ⟨x6, h11, hF⟩ := lS hF
       refine VR [.callB (.agg (c_Fault x6))] [4, 5] [5] [] [] [(4, .nils), (5, .ptr 5 0)] [(5, (c_Fault x6))] [] [] (hc (seal_fault_ok h11) .nil) ?_
       have hF := ret_done hF dn1
       cases hF
       refine Wk_nilrow 4 60004 9 1 rfl rfl rfl ?_
       refine Wk_ren' ⟨[], [(60004, 90)], [], []⟩ rfl ?_
       exact Wz [(90, ⟨0, true, false, false⟩)] hfin
      ·refine LR0 ?_
       exact Nrnq [] hF ih1
    ·refine Nexit rfl ?_
     have hF := inrO_done hF dn1
     exact metQ () [] hF
   ·intro v hF
    unfold seal_Choose_J1 at hF
    refine RJ (.l e_Copy said .z) ?_
    refine Nif hF ?_ ?_ <;> intro hb hF
    ·obtain ⟨x2, h2, hF⟩ := lS hF
     refine VR [.callB (.agg (c_Fault x2))] [4, 5] [5] [] [] [(4, .nils), (5, .ptr 5 0)] [(5, (c_Fault x2))] [] [] (hc (seal_fault_ok h2) .nil) ?_
     cases hF
     refine Wk_nilrow 4 60002 9 1 rfl rfl rfl ?_
     refine Wk_ren' ⟨[], [(60002, 90)], [], []⟩ rfl ?_
     exact Wz [(90, ⟨0, true, false, false⟩)] hfin
    ·obtain ⟨h3, hF⟩ := aE hF
     refine RJ (.i e_Copy h3 .z) ?_
     obtain ⟨h4, hF⟩ := aE hF
     refine RJ (.s10 e_Copy h4 (.l e_Copy (ldrop said 1) .z)) ?_
     refine NmS (fun v1 => seal_Choose_J2 v1 = some r) (fun Z v1 => Z.up [5, 9] [5, 9] [] [] [] [(9, (c_Copy v1))] [] []) ?_ ?_
     ·refine Nblk ?_
      unfold seal_Choose_L1 at hF
      refine Nits hF [] (fun Z v2 => Z.up [5, 9, 56, 57, 58] [5, 9] [] [] [(58, .i v2.2)] [(9, (c_Copy v2.1))] [] []) ?_
      intro n1 v2 y1 hF ih1 dn1
      unfold seal_Choose_B1 at hF
      refine LR0 ?_
      refine Nif hF ?_ ?_ <;> intro hb hF
      ·refine Nblk ?_
       obtain ⟨h7, hF⟩ := aE hF
       refine RJ (.i e_Copy h7 .z) ?_
       refine RJ (.a (.nat (((lget (ldrop said 1) v2.2).Recs).length : Int)) (.g (fun (_ : ((decide (v2.1.Ended = 0)) && (decide (((lget (ldrop said 1) v2.2).Ended) = 0))) = true) (_ : (!(decide (v2.1.Ended < ((lget (ldrop said 1) v2.2).Ended)))) = true) => (len_ok e_str ((lget (ldrop said 1) v2.2).Recs))) (.a (.nat (v2.1.Recs.length : Int)) (.g (fun (_ : ((decide (v2.1.Ended = 0)) && (decide (((lget (ldrop said 1) v2.2).Ended) = 0))) = true) (_ : (!(decide (v2.1.Ended < ((lget (ldrop said 1) v2.2).Ended)))) = true) => (len_ok e_str v2.1.Recs)) .z)))) ?_
       obtain ⟨v3, hv, hF⟩ := oE hF
       refine NmT (fun Z => Z.up [5, 9, 56, 57, 58] [5, 9] [] [] [] [(9, (c_Copy v3))] [] []) ?_ ?_
       ·have hF := hv
        refine Nif hF ?_ ?_ <;> intro hb hF
        ·refine LR0 ?_
         cases hF
         exact met' []
        ·cases hF
         exact met' []
       ·refine LR0 ?_
        exact Nrnq [] hF ih1
      ·refine Nexit rfl ?_
       have hF := inrO_done hF dn1
       exact metQ v2.1 [] hF
     ·intro v1 hF
      unfold seal_Choose_J2 at hF
      obtain ⟨x3, h5, hF⟩ := oE hF
      have p6 := (Pe.ren (slices_Clone_string_string_ok h5) ⟨[], [(5, 90)], [], []⟩)
      refine RJ (.e [] [] p6 .z) ?_
      cases hF
      exact Wz [] hfin

/- seal.End -/
def seal_End (c : Copy) (epoch : Int) (recs : List (List UInt8)) : Option (Int × Bool × List (List UInt8) × Int × Fault) :=
 ob (seal_may c epoch) fun x =>
 ob (
  if ((decide (x.Code = 0)) && (decide (100 < (recs.length : Int)))) = true then
   lt (seal_fault 2 (-2)) fun x1 =>
   some x1
  else
   some x) fun (v : Fault) =>
 ob (seal_long recs) fun x2 =>
 ob (
  if ((decide (v.Code = 0)) && (decide (0 ≤ x2))) = true then
   lt (seal_fault 8 x2) fun x3 =>
   some x3
  else
   some v) fun v1 =>
 ob (
  if (decide (v1.Code = 0)) = true then
   lt (seal_stale c epoch) fun x4 =>
   some x4
  else
   some v1) fun v2 =>
 if (!decide (v2.Code = 0)) = true then
  some (0, false, ([] : List (List UInt8)), 0, v2)
 else
  ob (slices_Clone_string_string recs) fun x5 =>
  some (epoch, true, x5, epoch, v2)
theorem seal_End_ok {c epoch recs r} (hF : seal_End c epoch recs = some r) : Pe Try.prog 13 (.w []) [.agg (c_Copy c), .i epoch, .sl 1 (recs.map e_str)] (.tup [.agg [.i r.1, .bool r.2.1, .row 46 0, .i r.2.2.2.1], .agg (c_Fault r.2.2.2.2)]) ⟨[], [], [(46, .o 9 1 0 (r.2.2.1.map e_str))], [], []⟩ := by
 refine PT 50 [.cell 6 24, .cell 7 29] [24, 29] Try.func13 ?_
 intro Q g hfin
 unfold seal_End at hF
 refine LR0 ?_
 obtain ⟨x, h0, hF⟩ := oE hF
 refine RJ (.b (seal_may_ok h0) .z) ?_
 refine RJ (.a (.nat (recs.length : Int)) (.g (fun (_ : (decide (x.Code = 0)) = true) => (len_ok e_str recs)) .z)) ?_
 obtain ⟨v, hv, hF⟩ := oE hF
 refine NmT (fun Z => Z.up [1, 2, 3, 6, 7, 8] [3, 6, 7, 8] [] [] [] [(8, (c_Fault v))] [] []) ?_ ?_
 ·have hF := hv
  refine Nif hF ?_ ?_ <;> intro hb hF
  ·obtain ⟨x1, h1, hF⟩ := lS hF
   refine RJ (.b (seal_fault_ok h1) .z) ?_
   cases hF
   exact met' []
  ·cases hF
   exact met' []
 ·obtain ⟨x2, h2, hF⟩ := oE hF
  refine RJ (.b (seal_long_ok h2) .z) ?_
  refine LR0 ?_
  obtain ⟨v1, hv, hF⟩ := oE hF
  refine NmT (fun Z => Z.up [1, 2, 3, 6, 7, 8] [3, 6, 7, 8] [] [] [] [(8, (c_Fault v1))] [] []) ?_ ?_
  ·have hF := hv
   refine Nif hF ?_ ?_ <;> intro hb hF
   ·obtain ⟨x3, h3, hF⟩ := lS hF
    refine RJ (.b (seal_fault_ok h3) .z) ?_
    cases hF
    exact met' []
   ·cases hF
    exact met' []
  ·refine LR0 ?_
   obtain ⟨v2, hv, hF⟩ := oE hF
   refine NmT (fun Z => Z.up [1, 2, 6, 7, 8] [6, 7, 8] [] [] [] [(8, (c_Fault v2))] [] []) ?_ ?_
   ·have hF := hv
    refine Nif hF ?_ ?_ <;> intro hb hF
    ·obtain ⟨x4, h4, hF⟩ := lS hF
     refine RJ (.b (seal_stale_ok h4) .z) ?_
     cases hF
     exact met' []
    ·cases hF
     exact met' []
   ·refine LR0 ?_
    refine Nif hF ?_ ?_ <;> intro hb hF
    ·refine VD [] [6, 7] [6, 7] [] [] [(6, .ptr 6 0), (7, .ptr 7 0)] [(6, [.i 0, .bool false, .nils, .i 0]), (7, (c_Fault v2))] [] [] .nil ?_
     cases hF
     refine Wk_nilrowB 6 2 60000 9 1 rfl rfl rfl rfl rfl ?_
     refine Wk_ren' ⟨[], [(60000, 46)], [], []⟩ rfl ?_
     exact Wz [(46, ⟨0, true, false, false⟩)] hfin
    ·obtain ⟨x5, h5, hF⟩ := oE hF
     have p6 := (Pe.ren (slices_Clone_string_string_ok h5) ⟨[], [(5, 46)], [], []⟩)
     refine DJ (.e [] [] p6 .z) ?_
     cases hF
     exact Wz [] hfin

/- (*seal.vault).does -/
def seal_vault_does_v1_J2 (box : List (List UInt8)) (v2 : List Copy × List (List UInt8) × List (List Int) × List Heal) : Option (Int × List Copy × List (List UInt8) × List (List Int) × List Heal × List (List UInt8)) :=
 some (0, v2.1, v2.2.1, v2.2.2.1, v2.2.2.2, box)
def seal_vault_does_v1_J1 (d : Deed) (box : List (List UInt8)) (row : List Copy) (row1 : List (List UInt8)) (row2 : List (List Int)) (row3 : List Heal) (v : Bool × Int) (v1 : Bool × Bool × Int) : Option (Int × List Copy × List (List UInt8) × List (List Int) × List Heal × List (List UInt8)) :=
 if (decide (d.Kind = 0)) = true then
  if (decide ((row1.length : Int) = (box.length : Int))) = true then
   some (6, row, row1, row2, row3, box)
  else
   asrt (0 ≤ (row1.length : Int) ∧ (row1.length : Int) < (box.length : Int)) <|
   asrt (((row1 ++ ([(lget box (row1.length : Int))] : List (List UInt8))).length : Int) * 16 ≤ 140737488351232) <|
   asrt (((row2 ++ [([] : List Int)]).length : Int) * 24 ≤ 140737488351232) <|
   seal_vault_does_v1_J2 box (row, (row1 ++ ([(lget box (row1.length : Int))] : List (List UInt8))), (row2 ++ [([] : List Int)]), row3)
 else
  if (decide (d.Kind = 1)) = true then
   if ((decide (d.N < 0)) || (decide ((row1.length : Int) ≤ d.N))) = true then
    some (3, row, row1, row2, row3, box)
   else
    asrt (v1.1 = true) <|
    asrt (0 ≤ v.2 ∧ v.2 < (row.length : Int)) <|
    asrt (0 ≤ d.N ∧ d.N < (row1.length : Int)) <|
    asrt (0 ≤ d.N ∧ d.N < (row1.length : Int)) <|
    ob (seal_Append (⟨(lget row v.2).Epoch, (lget row v.2).Closed, (lget row v.2).Recs, (lget row v.2).Ended⟩ : Copy) 1 d.N (lget row1 d.N)) fun x =>
    if (decide (x.2.2.2.2.Code = 0)) = true then
     asrt (0 ≤ d.N ∧ d.N < (row2.length : Int)) <|
     asrt (0 ≤ d.N ∧ d.N < (row2.length : Int)) <|
     ob (seal_once_v1 d.Who (lget row2 d.N)) fun x1 =>
     asrt (0 ≤ v.2 ∧ v.2 < (row.length : Int)) <|
     asrt (0 ≤ d.N ∧ d.N < (row2.length : Int)) <|
     asrt (0 ≤ d.N ∧ d.N < (row2.length : Int)) <|
     seal_vault_does_v1_J2 box ((lset row v.2 (⟨x.1, x.2.1, x.2.2.1, x.2.2.2.1⟩ : Copy)), row1, (lset row2 d.N x1), row3)
    else
     seal_vault_does_v1_J2 box (row, row1, row2, row3)
  else
   if (decide (d.Kind = 2)) = true then
    if ((decide (d.N < 2)) || (decide (1000000000 < d.N))) = true then
     some (3, row, row1, row2, row3, box)
    else
     ob (slices_ContainsFunc_api_Heal_api_Heal row3 d) fun x2 =>
     if x2 = true then
      some (10, row, row1, row2, row3, box)
     else
      if (decide ((row3.length : Int) = 20)) = true then
       some (9, row, row1, row2, row3, box)
      else
       asrt (((row3 ++ [(⟨d.N, ([] : List Int), ([] : List Copy), false, ([] : List (List UInt8)), ([] : List Int)⟩ : Heal)]).length : Int) * 112 ≤ 140737488351232) <|
       lt ((row3 ++ [(⟨d.N, ([] : List Int), ([] : List Copy), false, ([] : List (List UInt8)), ([] : List Int)⟩ : Heal)])) fun v3 =>
       seal_vault_does_v1_J2 box (row, row1, row2, v3)
   else
    if (decide (d.Kind = 3)) = true then
     asrt (v1.1 = true) <|
     asrt (v1.2.1 = true) <|
     asrt (0 ≤ v.2 ∧ v.2 < (row.length : Int)) <|
     asrt (0 ≤ v1.2.2 ∧ v1.2.2 < (row3.length : Int)) <|
     ob (seal_Close (⟨(lget row v.2).Epoch, (lget row v.2).Closed, (lget row v.2).Recs, (lget row v.2).Ended⟩ : Copy) ((lget row3 v1.2.2).Epoch)) fun x3 =>
     if (decide (x3.2.2.2.2.Code = 0)) = true then
      asrt (0 ≤ v.2 ∧ v.2 < (row.length : Int)) <|
      asrt (0 ≤ v1.2.2 ∧ v1.2.2 < (row3.length : Int)) <|
      asrt ((!((lget row3 v1.2.2).Has)) = true → 0 ≤ v1.2.2 ∧ v1.2.2 < (row3.length : Int)) <|
      ob (if (!((lget row3 v1.2.2).Has)) = true then (slices_Contains_int_int ((lget row3 v1.2.2).Heard) d.Who) else some default) fun x4 =>
      if ((!((lget row3 v1.2.2).Has)) && (!x4)) = true then
       asrt (0 ≤ v1.2.2 ∧ v1.2.2 < (row3.length : Int)) <|
       asrt (((((lget row3 v1.2.2).Heard) ++ ([d.Who] : List Int)).length : Int) * 8 ≤ 140737488351232) <|
       asrt (0 ≤ v1.2.2 ∧ v1.2.2 < (row3.length : Int)) <|
       ob (seal_own (⟨x3.1, x3.2.1, x3.2.2.1, x3.2.2.2.1⟩ : Copy) x3.1) fun x5 =>
       asrt (((((lget row3 v1.2.2).Said) ++ [(⟨x5.1, x5.2.1, x5.2.2.1, x5.2.2.2⟩ : Copy)]).length : Int) * 48 ≤ 140737488351232) <|
       asrt (0 ≤ v1.2.2 ∧ v1.2.2 < (row3.length : Int)) <|
       asrt (0 ≤ v1.2.2 ∧ v1.2.2 < (row3.length : Int)) <|
       lt ((((lget row3 v1.2.2).Said) ++ [(⟨x5.1, x5.2.1, x5.2.2.1, x5.2.2.2⟩ : Copy)])) fun v4 =>
       lt ((lset row3 v1.2.2 (⟨(lget row3 v1.2.2).Epoch, (((lget row3 v1.2.2).Heard) ++ ([d.Who] : List Int)), v4, (lget row3 v1.2.2).Has, (lget row3 v1.2.2).Recs, (lget row3 v1.2.2).Ends⟩ : Heal))) fun v5 =>
       seal_vault_does_v1_J2 box ((lset row v.2 (⟨x3.1, x3.2.1, x3.2.2.1, x3.2.2.2.1⟩ : Copy)), row1, row2, v5)
      else
       seal_vault_does_v1_J2 box ((lset row v.2 (⟨x3.1, x3.2.1, x3.2.2.1, x3.2.2.2.1⟩ : Copy)), row1, row2, row3)
     else
      seal_vault_does_v1_J2 box (row, row1, row2, row3)
    else
     if (decide (d.Kind = 4)) = true then
      asrt (v1.2.1 = true) <|
      asrt (0 ≤ v1.2.2 ∧ v1.2.2 < (row3.length : Int)) <|
      ob (seal_Choose (row.length : Int) ((lget row3 v1.2.2).Said)) fun x6 =>
      asrt ((decide (x6.2.Code = 0)) = true → 0 ≤ v1.2.2 ∧ v1.2.2 < (row3.length : Int)) <|
      if ((decide (x6.2.Code = 0)) && (!((lget row3 v1.2.2).Has))) = true then
       asrt (0 ≤ v1.2.2 ∧ v1.2.2 < (row3.length : Int)) <|
       asrt (0 ≤ v1.2.2 ∧ v1.2.2 < ((lset row3 v1.2.2 (⟨(lget row3 v1.2.2).Epoch, (lget row3 v1.2.2).Heard, (lget row3 v1.2.2).Said, true, (lget row3 v1.2.2).Recs, (lget row3 v1.2.2).Ends⟩ : Heal)).length : Int)) <|
       lt ((lset (lset row3 v1.2.2 (⟨(lget row3 v1.2.2).Epoch, (lget row3 v1.2.2).Heard, (lget row3 v1.2.2).Said, true, (lget row3 v1.2.2).Recs, (lget row3 v1.2.2).Ends⟩ : Heal)) v1.2.2 (⟨(lget (lset row3 v1.2.2 (⟨(lget row3 v1.2.2).Epoch, (lget row3 v1.2.2).Heard, (lget row3 v1.2.2).Said, true, (lget row3 v1.2.2).Recs, (lget row3 v1.2.2).Ends⟩ : Heal)) v1.2.2).Epoch, (lget (lset row3 v1.2.2 (⟨(lget row3 v1.2.2).Epoch, (lget row3 v1.2.2).Heard, (lget row3 v1.2.2).Said, true, (lget row3 v1.2.2).Recs, (lget row3 v1.2.2).Ends⟩ : Heal)) v1.2.2).Heard, (lget (lset row3 v1.2.2 (⟨(lget row3 v1.2.2).Epoch, (lget row3 v1.2.2).Heard, (lget row3 v1.2.2).Said, true, (lget row3 v1.2.2).Recs, (lget row3 v1.2.2).Ends⟩ : Heal)) v1.2.2).Said, (lget (lset row3 v1.2.2 (⟨(lget row3 v1.2.2).Epoch, (lget row3 v1.2.2).Heard, (lget row3 v1.2.2).Said, true, (lget row3 v1.2.2).Recs, (lget row3 v1.2.2).Ends⟩ : Heal)) v1.2.2).Has, x6.1, (lget (lset row3 v1.2.2 (⟨(lget row3 v1.2.2).Epoch, (lget row3 v1.2.2).Heard, (lget row3 v1.2.2).Said, true, (lget row3 v1.2.2).Recs, (lget row3 v1.2.2).Ends⟩ : Heal)) v1.2.2).Ends⟩ : Heal))) fun v6 =>
       seal_vault_does_v1_J2 box (row, row1, row2, v6)
      else
       seal_vault_does_v1_J2 box (row, row1, row2, row3)
     else
      if (decide (d.Kind = 5)) = true then
       asrt (v1.2.1 = true) <|
       asrt (0 ≤ v1.2.2 ∧ v1.2.2 < (row3.length : Int)) <|
       if (!((lget row3 v1.2.2).Has)) = true then
        seal_vault_does_v1_J2 box (row, row1, row2, row3)
       else
        asrt (v1.1 = true) <|
        asrt (0 ≤ v.2 ∧ v.2 < (row.length : Int)) <|
        asrt (0 ≤ v1.2.2 ∧ v1.2.2 < (row3.length : Int)) <|
        asrt (0 ≤ v1.2.2 ∧ v1.2.2 < (row3.length : Int)) <|
        ob (seal_End (⟨(lget row v.2).Epoch, (lget row v.2).Closed, (lget row v.2).Recs, (lget row v.2).Ended⟩ : Copy) ((lget row3 v1.2.2).Epoch) ((lget row3 v1.2.2).Recs)) fun x7 =>
        if (decide (x7.2.2.2.2.Code = 0)) = true then
         asrt (0 ≤ v1.2.2 ∧ v1.2.2 < (row3.length : Int)) <|
         ob (seal_once_v1 d.Who ((lget row3 v1.2.2).Ends)) fun x8 =>
         asrt (0 ≤ v.2 ∧ v.2 < (row.length : Int)) <|
         asrt (0 ≤ v1.2.2 ∧ v1.2.2 < (row3.length : Int)) <|
         lt ((lset row3 v1.2.2 (⟨(lget row3 v1.2.2).Epoch, (lget row3 v1.2.2).Heard, (lget row3 v1.2.2).Said, (lget row3 v1.2.2).Has, (lget row3 v1.2.2).Recs, x8⟩ : Heal))) fun v7 =>
         seal_vault_does_v1_J2 box ((lset row v.2 (⟨x7.1, x7.2.1, x7.2.2.1, x7.2.2.2.1⟩ : Copy)), row1, row2, v7)
        else
         seal_vault_does_v1_J2 box (row, row1, row2, row3)
      else
       seal_vault_does_v1_J2 box (row, row1, row2, row3)
def seal_vault_does_v1 (d : Deed) (box : List (List UInt8)) (row : List Copy) (row1 : List (List UInt8)) (row2 : List (List Int)) (row3 : List Heal) : Option (Int × List Copy × List (List UInt8) × List (List Int) × List Heal × List (List UInt8)) :=
 if ((decide (d.Kind < 0)) || (decide (5 < d.Kind))) = true then
  some (4, row, row1, row2, row3, box)
 else
  if ((decide ((Int.tmod d.Kind 2) = 1)) && ((decide (d.Who < 0)) || (decide ((row.length : Int) ≤ d.Who)))) = true then
   some (3, row, row1, row2, row3, box)
  else
   ob (
    if (decide ((Int.tmod d.Kind 2) = 1)) = true then
     asrt (0 ≤ d.Who ∧ d.Who < (row.length : Int)) <|
     some (true, d.Who)
    else
     some (false, default)) fun v =>
   if (decide (2 < d.Kind)) = true then
    if ((decide (d.N < 0)) || (decide ((row3.length : Int) ≤ d.N))) = true then
     some (3, row, row1, row2, row3, box)
    else
     asrt (0 ≤ d.N ∧ d.N < (row3.length : Int)) <|
     seal_vault_does_v1_J1 d box row row1 row2 row3 v (v.1, true, d.N)
   else
    seal_vault_does_v1_J1 d box row row1 row2 row3 v (v.1, false, default)
theorem seal_vault_does_v1_ok (rk rc : Nat) (rn : Bool) (rk1 rc1 : Nat) (rn1 : Bool) (rk2 rc2 : Nat) (rn2 : Bool) (rk3 rc3 : Nat) (rn3 : Bool) {d box row row1 row2 row3 r} (hF : seal_vault_does_v1 d box row row1 row2 row3 = some r) : Pe Try.prog 38 ⟨[], [(100000, [.row 100000 0, .row 100001 0, .row 100002 0, .row 100003 0, .sl 1 (box.map e_str)])], [(100000, .q 24 4 0 0 rc rn (row.map e_Copy)), (100001, .q 9 1 0 rk1 rc1 rn1 (row1.map e_str)), (100002, ⟨54, 1, 0, 0, rc2, rn2, 2, [], (row2.map o_L_i64)⟩), (100003, ⟨58, 6, 0, 0, rc3, rn3, 2, [], (row3.map o_Heal)⟩)], [], []⟩ [.ptr 100000 0, .agg (c_Deed d)] (.i r.1) ⟨[], [(100000, [.row 100000 0, .row 100001 1, .row 100002 1, .row 100003 1, .sl 1 (r.2.2.2.2.2.map e_str)])], [(100000, .q 24 4 0 0 rc rn (r.2.1.map e_Copy)), (100001, .q 9 1 1 rk1 rc1 rn1 (r.2.2.1.map e_str)), (100002, ⟨54, 1, 1, 0, rc2, rn2, 2, [], (r.2.2.2.1.map o_L_i64)⟩), (100003, ⟨58, 6, 1, 0, rc3, rn3, 2, [], (r.2.2.2.2.1.map o_Heal)⟩)], [], []⟩ := by
 refine PT 357 [.tmp 4] [3] Try.func38 ?_
 intro Q g hfin
 unfold seal_vault_does_v1 at hF
 refine LR0 ?_
 refine LR0 ?_
 refine Nif hF ?_ ?_ <;> intro hb hF
 ·refine LR0 ?_
  cases hF
  exact Wz [(100001, ⟨1, true, true, false⟩), (100002, ⟨1, true, true, false⟩), (100003, ⟨1, true, true, false⟩)] hfin
 ·refine DJ (.g (by decide : (2 : Int) ≠ 0) (.a (.nat (row.length : Int)) (.g (fun (_ : (!(decide (d.Who < 0))) = true) (_ : (decide ((Int.tmod d.Kind 2) = 1)) = true) => (len_ok e_Copy row)) .z))) ?_
  refine Nif hF ?_ ?_ <;> intro hb hF
  ·refine LR0 ?_
   cases hF
   exact Wz [(100001, ⟨1, true, true, false⟩), (100002, ⟨1, true, true, false⟩), (100003, ⟨1, true, true, false⟩)] hfin
  ·refine LR0 ?_
   refine LR0 ?_
   refine VR [] [0, 3, 5, 6, 47] [3, 100000] [100000, 100001, 100002, 100003] [] [(0, .ptr 100000 0), (3, .ptr 3 0), (5, .nilp), (6, .nilp), (47, .bool (decide ((Int.tmod d.Kind 2) = 1)))] [(3, (c_Deed d)), (100000, [.row 100000 0, .row 100001 0, .row 100002 0, .row 100003 0, .sl 1 (box.map e_str)])] [(100000, .q 24 4 0 0 rc rn (row.map e_Copy)), (100001, .q 9 1 0 rk1 rc1 rn1 (row1.map e_str)), (100002, ⟨54, 1, 0, 0, rc2, rn2, 2, [], (row2.map o_L_i64)⟩), (100003, ⟨58, 6, 0, 0, rc3, rn3, 2, [], (row3.map o_Heal)⟩)] [] (hc (by decide : (2 : Int) ≠ 0) .nil) ?_
   obtain ⟨v, hv, hF⟩ := oE hF
   refine NmT (fun Z => Z.up [0, 3, 5, 6] [3, 100000] [100000, 100001, 100002, 100003] [] [(5, .popt v.1 (.ep 100000 0 v.2.toNat 0))] [] [] []) ?_ ?_
   ·have hF := hv
    refine Nif hF ?_ ?_ <;> intro hb hF
    ·obtain ⟨h0, hF⟩ := aE hF
     refine VD [] [0, 3, 5, 6] [3, 100000] [100000, 100001, 100002, 100003] [] [(0, .ptr 100000 0), (3, .ptr 3 0), (5, .ep 100000 0 d.Who.toNat 0), (6, .nilp)] [(3, (c_Deed d)), (100000, [.row 100000 0, .row 100001 0, .row 100002 0, .row 100003 0, .sl 1 (box.map e_str)])] [(100000, .q 24 4 0 0 rc rn (row.map e_Copy)), (100001, .q 9 1 0 rk1 rc1 rn1 (row1.map e_str)), (100002, ⟨54, 1, 0, 0, rc2, rn2, 2, [], (row2.map o_L_i64)⟩), (100003, ⟨58, 6, 0, 0, rc3, rn3, 2, [], (row3.map o_Heal)⟩)] [] (hc (ixr_ok e_Copy h0) .nil) ?_
     refine Wk_coe 5 (.popt true (.ep 100000 0 d.Who.toNat 0)) rfl (.cell rfl (CoeS.popT _)) ?_
     cases hF
     exact met' []
    ·refine Wk_coe 5 (.popt false (.ep 100000 0 ((default : Int).toNat) 0)) rfl (.cell rfl (CoeS.popF _)) ?_
     cases hF
     exact met' []
   ·refine VR [] [0, 3, 5, 6, 58] [3, 100000] [100000, 100001, 100002, 100003] [] [(0, .ptr 100000 0), (3, .ptr 3 0), (5, .popt v.1 (.ep 100000 0 v.2.toNat 0)), (6, .nilp), (58, .bool (decide (2 < d.Kind)))] [(3, (c_Deed d)), (100000, [.row 100000 0, .row 100001 0, .row 100002 0, .row 100003 0, .sl 1 (box.map e_str)])] [(100000, .q 24 4 0 0 rc rn (row.map e_Copy)), (100001, .q 9 1 0 rk1 rc1 rn1 (row1.map e_str)), (100002, ⟨54, 1, 0, 0, rc2, rn2, 2, [], (row2.map o_L_i64)⟩), (100003, ⟨58, 6, 0, 0, rc3, rn3, 2, [], (row3.map o_Heal)⟩)] [] .nil ?_
    refine NmS (fun v1 => seal_vault_does_v1_J1 d box row row1 row2 row3 v v1 = some r) (fun Z v1 => Z.up [0, 3, 5, 6] [3, 100000] [100000, 100001, 100002, 100003] [] [(5, .popt v1.1 (.ep 100000 0 v.2.toNat 0)), (6, .popt v1.2.1 (.ep 100003 0 v1.2.2.toNat 0))] [] [] []) ?_ ?_
    ·refine Nif hF ?_ ?_ <;> intro hb hF
     ·refine DJ (.a (.nat (row3.length : Int)) (.g (fun (_ : (!(decide (d.N < 0))) = true) => (len_ok o_Heal row3)) .z)) ?_
      refine Nif hF ?_ ?_ <;> intro hb hF
      ·refine LR0 ?_
       cases hF
       exact Wz [(100001, ⟨1, true, true, false⟩), (100002, ⟨1, true, true, false⟩), (100003, ⟨1, true, true, false⟩)] hfin
      ·obtain ⟨h60, hF⟩ := aE hF
       refine VD [] [0, 3, 5, 6] [3, 100000] [100000, 100001, 100002, 100003] [] [(0, .ptr 100000 0), (3, .ptr 3 0), (5, .popt v.1 (.ep 100000 0 v.2.toNat 0)), (6, .ep 100003 0 d.N.toNat 0)] [(3, (c_Deed d)), (100000, [.row 100000 0, .row 100001 0, .row 100002 0, .row 100003 0, .sl 1 (box.map e_str)])] [(100000, .q 24 4 0 0 rc rn (row.map e_Copy)), (100001, .q 9 1 0 rk1 rc1 rn1 (row1.map e_str)), (100002, ⟨54, 1, 0, 0, rc2, rn2, 2, [], (row2.map o_L_i64)⟩), (100003, ⟨58, 6, 0, 0, rc3, rn3, 2, [], (row3.map o_Heal)⟩)] [] (hc (ixr_ok o_Heal h60) .nil) ?_
       refine Wk_coe 6 (.popt true (.ep 100003 0 d.N.toNat 0)) rfl (.cell rfl (CoeS.popT _)) ?_
       exact metQ (v.1, true, d.N) [] hF
     ·refine Wk_coe 6 (.popt false (.ep 100003 0 ((default : Int).toNat) 0)) rfl (.cell rfl (CoeS.popF _)) ?_
      exact metQ (v.1, false, default) [] hF
    ·intro v1 hF
     unfold seal_vault_does_v1_J1 at hF
     refine LR0 ?_
     refine NmQ (fun v2 => seal_vault_does_v1_J2 box v2 = some r) (fun v2 => ⟨[], [(100000, [.row 100000 0, .row 100001 1, .row 100002 1, .row 100003 1, .sl 1 (box.map e_str)])], [(100000, .q 24 4 0 0 rc rn (v2.1.map e_Copy)), (100001, .q 9 1 1 rk1 rc1 rn1 (v2.2.1.map e_str)), (100002, ⟨54, 1, 1, 0, rc2, rn2, 2, [], (v2.2.2.1.map o_L_i64)⟩), (100003, ⟨58, 6, 1, 0, rc3, rn3, 2, [], (v2.2.2.2.map o_Heal)⟩)], [], []⟩) ?_ ?_
     ·refine Nblk ?_
      refine LR0 ?_
      refine Nif hF ?_ ?_ <;> intro hb hF
      ·refine RJ (.l e_str row1 .z) ?_
       refine RJ (.l e_str box .z) ?_
       refine Nif hF ?_ ?_ <;> intro hb hF
       ·refine LR0 ?_
        cases hF
        exact Wz [(100001, ⟨1, true, true, false⟩), (100002, ⟨1, true, true, false⟩), (100003, ⟨1, true, true, false⟩)] hfin
       ·obtain ⟨h1, hF⟩ := aE hF
        obtain ⟨h2, h3, hF⟩ := asrt2 hF
        refine L_raise 100002 (hk := ?_)
        refine DJ (.i e_str h1 (.a (.sealed) (.p e_str h2 (.a (.rows) (.a (.xs (row2.map o_L_i64 ++ [.nils])) (.g (rfl : (row2.map o_L_i64 ++ [.nils]) = (row2.map o_L_i64 ++ [.nils])) (.g (opB o_L_i64 (.nils) h3) .z))))))) ?_
        refine L_close 100002 row2.length [(0, 3, 1)] [] (u := .nils) (zs := ((row2 ++ [([] : List Int)]).map o_L_i64)) (.cons (opA o_L_i64 row2 (.nils)) (.cons (clA o_L_i64 (.nils) (rfl : (row2 ++ [([] : List Int)]) = (row2 ++ [([] : List Int)]))) (.cons (stl (f := o_L_i64) (fun _ => rfl) (row2 ++ [([] : List Int)])) .nil))) (hk := ?_)
        exact metQ (row, (row1 ++ ([(lget box (row1.length : Int))] : List (List UInt8))), (row2 ++ [([] : List Int)]), row3) [(100003, ⟨1, true, true, false⟩)] hF
      ·refine LR0 ?_
       refine Nif hF ?_ ?_ <;> intro hb hF
       ·refine VD [.nat (row1.length : Int)] [0, 3, 5, 142] [3, 100000] [100000, 100001, 100002, 100003] [] [(0, .ptr 100000 0), (3, .ptr 3 0), (5, .popt v1.1 (.ep 100000 0 v.2.toNat 0)), (142, .bool ((decide (d.N < 0)) || (decide ((row1.length : Int) ≤ d.N))))] [(3, (c_Deed d)), (100000, [.row 100000 0, .row 100001 0, .row 100002 0, .row 100003 0, .sl 1 (box.map e_str)])] [(100000, .q 24 4 0 0 rc rn (row.map e_Copy)), (100001, .q 9 1 0 rk1 rc1 rn1 (row1.map e_str)), (100002, ⟨54, 1, 0, 0, rc2, rn2, 2, [], (row2.map o_L_i64)⟩), (100003, ⟨58, 6, 0, 0, rc3, rn3, 2, [], (row3.map o_Heal)⟩)] [] (hc (fun (_ : (!(decide (d.N < 0))) = true) => (len_ok e_str row1)) .nil) ?_
        refine Nif hF ?_ ?_ <;> intro hb hF
        ·refine LR0 ?_
         cases hF
         exact Wz [(100001, ⟨1, true, true, false⟩), (100002, ⟨1, true, true, false⟩), (100003, ⟨1, true, true, false⟩)] hfin
        ·obtain ⟨h4, hF⟩ := aE hF
         refine Wk_coe 5 (.ep 100000 0 v.2.toNat 0) rfl (.cell rfl (CoeS.unp h4)) ?_
         obtain ⟨h5, h6, hF⟩ := asrt2 hF
         obtain ⟨h7, hF⟩ := aE hF
         obtain ⟨x, h8, hF⟩ := oE hF
         have p9 := (Pe.ren (seal_Append_ok h8) ⟨[], [(71, 158)], [], []⟩)
         refine DJ (.r e_Copy h5 (.x e_str h6 (.r e_str h7 (.e [] [] p9 .z)))) ?_
         refine LR0 ?_
         refine Nif hF ?_ ?_ <;> intro hb hF
         ·obtain ⟨h10, hF⟩ := aE hF
          obtain ⟨h11, hF⟩ := aE hF
          obtain ⟨x1, h12, hF⟩ := oE hF
          have p13 := (Pe.ren (seal_once_v1_ok (((lget row2 d.N).map e_i64).length) 0 false h12) ⟨[], [(100000, 80019)], [], []⟩)
          obtain ⟨h14, h15, hF⟩ := asrt2 hF
          obtain ⟨h16, hF⟩ := aE hF
          refine L_open 100002 d.N.toNat [(80019, 0)] (u := o_L_i64 (lget row2 d.N)) (.cons (ldr_ok o_L_i64 h11) .nil) (hk := ?_)
          refine DJ (.g (opX o_L_i64 (.row 80019 0) d.N.toNat h10) (.a (.av (.row 80019 0)) (.g (opL o_L_i64 (.row 80019 0) h11) (.e [] [80019] p13 (.w e_Copy h14 (⟨x.1, x.2.1, x.2.2.1, x.2.2.2.1⟩ : Copy) (.g (opX o_L_i64 (.row 80019 0) d.N.toNat h15) (.a (.rows) (.a (.av (.row 80019 0)) (.a (.xs ((row2.map o_L_i64).set d.N.toNat (.row 80019 1))) (.g (opL o_L_i64 (.row 80019 0) h16) (.g (opS o_L_i64 row2 d.N (.row 80019 0) (.row 80019 1)) (.g (Nat.zero_le d.N.toNat) .z)))))))))))) ?_
          refine L_close 100002 d.N.toNat [(0, 3, 1)] [] (u := .row 80019 1) (zs := ((lset row2 d.N x1).map o_L_i64)) (.cons (opL o_L_i64 (.row 80019 1) h11) (.cons (clS o_L_i64 (.row 80019 1) (rfl : (lset row2 d.N x1) = (lset row2 d.N x1))) (.cons (stl (f := o_L_i64) (fun _ => rfl) (lset row2 d.N x1)) .nil))) (hk := ?_)
          exact metQ ((lset row v.2 (⟨x.1, x.2.1, x.2.2.1, x.2.2.2.1⟩ : Copy)), row1, (lset row2 d.N x1), row3) [(100001, ⟨1, true, true, false⟩), (100002, ⟨1, true, true, false⟩), (100003, ⟨1, true, true, false⟩)] hF
         ·exact metQ (row, row1, row2, row3) [(100001, ⟨1, true, true, false⟩), (100002, ⟨1, true, true, false⟩), (100003, ⟨1, true, true, false⟩)] hF
       ·refine LR0 ?_
        refine Nif hF ?_ ?_ <;> intro hb hF
        ·refine Nblk ?_
         refine LR0 ?_
         refine Nif hF ?_ ?_ <;> intro hb hF
         ·refine LR0 ?_
          cases hF
          exact Wz [(100001, ⟨1, true, true, false⟩), (100002, ⟨1, true, true, false⟩), (100003, ⟨1, true, true, false⟩)] hfin
         ·obtain ⟨x2, h17, hF⟩ := oE hF
          refine RJ (.a (.callQ [3] (row3.map e_Heal) (.bool x2)) (.g (okcL (f := o_Heal) (fun _ => rfl) row3) (.g (frzL (f := o_Heal) (g := e_Heal) (fun _ => rfl) row3) (.g (Pe.ren (slices_ContainsFunc_api_Heal_api_Heal_ok h17) ⟨[(100000, 3)], [], [], []⟩) .z)))) ?_
          refine Nif hF ?_ ?_ <;> intro hb hF
          ·refine LR0 ?_
           cases hF
           exact Wz [(100001, ⟨1, true, true, false⟩), (100002, ⟨1, true, true, false⟩), (100003, ⟨1, true, true, false⟩)] hfin
          ·refine RJ (.l o_Heal row3 .z) ?_
           refine Nif hF ?_ ?_ <;> intro hb hF
           ·refine LR0 ?_
            cases hF
            exact Wz [(100001, ⟨1, true, true, false⟩), (100002, ⟨1, true, true, false⟩), (100003, ⟨1, true, true, false⟩)] hfin
           ·obtain ⟨h18, hF⟩ := aE hF
            refine L_raise 100003 (hk := ?_)
            refine DJ (.a (.rows) (.a (.xs (row3.map o_Heal ++ [.agg [.i d.N, .nils, .nils, .bool false, .nils, .nils]])) (.g (rfl : (row3.map o_Heal ++ [.agg [.i d.N, .nils, .nils, .bool false, .nils, .nils]]) = (row3.map o_Heal ++ [.agg [.i d.N, .nils, .nils, .bool false, .nils, .nils]])) (.g (opB o_Heal (.agg [.i d.N, .nils, .nils, .bool false, .nils, .nils]) h18) .z)))) ?_
            obtain ⟨v3, h19, hF⟩ := lS hF
            refine L_close 100003 row3.length [(1, 3, 1), (2, 24, 4), (5, 3, 1)] [(4, 1)] (u := .agg [.i d.N, .nils, .nils, .bool false, .nils, .nils]) (zs := (v3.map o_Heal)) (.cons (opA o_Heal row3 (.agg [.i d.N, .nils, .nils, .bool false, .nils, .nils])) (.cons (clA o_Heal (.agg [.i d.N, .nils, .nils, .bool false, .nils, .nils]) h19) (.cons (stl (f := o_Heal) (fun _ => rfl) v3) .nil))) (hk := ?_)
            exact metQ (row, row1, row2, v3) [(100001, ⟨1, true, true, false⟩), (100002, ⟨1, true, true, false⟩)] hF
        ·refine VR [] [0, 3, 5, 6, 82, 228] [3, 100000] [100000, 100001, 100002, 100003] [] [(0, .ptr 100000 0), (3, .ptr 3 0), (5, .popt v1.1 (.ep 100000 0 v.2.toNat 0)), (6, .popt v1.2.1 (.ep 100003 0 v1.2.2.toNat 0)), (82, .i d.Kind), (228, .bool (decide (d.Kind = 3)))] [(3, (c_Deed d)), (100000, [.row 100000 0, .row 100001 0, .row 100002 0, .row 100003 0, .sl 1 (box.map e_str)])] [(100000, .q 24 4 0 0 rc rn (row.map e_Copy)), (100001, .q 9 1 0 rk1 rc1 rn1 (row1.map e_str)), (100002, ⟨54, 1, 0, 0, rc2, rn2, 2, [], (row2.map o_L_i64)⟩), (100003, ⟨58, 6, 0, 0, rc3, rn3, 2, [], (row3.map o_Heal)⟩)] [] .nil ?_
         refine Nif hF ?_ ?_ <;> intro hb hF
         ·obtain ⟨h20, hF⟩ := aE hF
          refine Wk_coe 5 (.ep 100000 0 v.2.toNat 0) rfl (.cell rfl (CoeS.unp h20)) ?_
          obtain ⟨h21, hF⟩ := aE hF
          refine Wk_coe 6 (.ep 100003 0 v1.2.2.toNat 0) rfl (.cell rfl (CoeS.unp h21)) ?_
          obtain ⟨h22, h23, hF⟩ := asrt2 hF
          obtain ⟨x3, h24, hF⟩ := oE hF
          have p25 := (Pe.ren (seal_Close_ok h24) ⟨[], [(23, 238)], [], []⟩)
          refine DJ (.r e_Copy h22 (.r o_Heal h23 (.e [] [] p25 .z))) ?_
          refine LR0 ?_
          refine Nif hF ?_ ?_ <;> intro hb hF
          ·obtain ⟨h26, hF⟩ := aE hF
           refine RJ (.w e_Copy h26 (⟨x3.1, x3.2.1, x3.2.2.1, x3.2.2.2.1⟩ : Copy) .z) ?_
           obtain ⟨h27, h28, hF⟩ := asrt2 hF
           obtain ⟨x4, h29, hF⟩ := oE hF
           refine L_open 100003 v1.2.2.toNat [(80020, 1)] (u := o_Heal (lget row3 v1.2.2)) (.cons (ldr_ok o_Heal h27) .nil) (hk := ?_)
           refine DJ (.a (.av (.agg [.i ((lget row3 v1.2.2).Epoch), .row 80020 0, .own 24 4 (((lget row3 v1.2.2).Said).map e_Copy).length (((lget row3 v1.2.2).Said).map e_Copy), .bool ((lget row3 v1.2.2).Has), .sl 1 (((lget row3 v1.2.2).Recs).map e_str), .own 3 1 (((lget row3 v1.2.2).Ends).map e_i64).length (((lget row3 v1.2.2).Ends).map e_i64)])) (.g (opL o_Heal (.agg [.i ((lget row3 v1.2.2).Epoch), .row 80020 0, .own 24 4 (((lget row3 v1.2.2).Said).map e_Copy).length (((lget row3 v1.2.2).Said).map e_Copy), .bool ((lget row3 v1.2.2).Has), .sl 1 (((lget row3 v1.2.2).Recs).map e_str), .own 3 1 (((lget row3 v1.2.2).Ends).map e_i64).length (((lget row3 v1.2.2).Ends).map e_i64)]) h27) (.a (.av (.agg [.i ((lget row3 v1.2.2).Epoch), .row 80020 0, .own 24 4 (((lget row3 v1.2.2).Said).map e_Copy).length (((lget row3 v1.2.2).Said).map e_Copy), .bool ((lget row3 v1.2.2).Has), .sl 1 (((lget row3 v1.2.2).Recs).map e_str), .own 3 1 (((lget row3 v1.2.2).Ends).map e_i64).length (((lget row3 v1.2.2).Ends).map e_i64)])) (.g (fun (ga0 : (!((lget row3 v1.2.2).Has)) = true) => (opL o_Heal (.agg [.i ((lget row3 v1.2.2).Epoch), .row 80020 0, .own 24 4 (((lget row3 v1.2.2).Said).map e_Copy).length (((lget row3 v1.2.2).Said).map e_Copy), .bool ((lget row3 v1.2.2).Has), .sl 1 (((lget row3 v1.2.2).Recs).map e_str), .own 3 1 (((lget row3 v1.2.2).Ends).map e_i64).length (((lget row3 v1.2.2).Ends).map e_i64)]) (h28 ga0))) (.a (.callB (.bool x4)) (.g (fun (ga0 : (!((lget row3 v1.2.2).Has)) = true) => (slices_Contains_int_int_ok (ite_t h29 ga0))) .z)))))) ?_
           refine L_close 100003 v1.2.2.toNat [(1, 3, 1), (2, 24, 4), (5, 3, 1)] [(4, 1)] (u := .agg [.i ((lget row3 v1.2.2).Epoch), .row 80020 0, .own 24 4 (((lget row3 v1.2.2).Said).map e_Copy).length (((lget row3 v1.2.2).Said).map e_Copy), .bool ((lget row3 v1.2.2).Has), .sl 1 (((lget row3 v1.2.2).Recs).map e_str), .own 3 1 (((lget row3 v1.2.2).Ends).map e_i64).length (((lget row3 v1.2.2).Ends).map e_i64)]) (zs := (row3.map o_Heal)) (.cons (opL o_Heal (.agg [.i ((lget row3 v1.2.2).Epoch), .row 80020 0, .own 24 4 (((lget row3 v1.2.2).Said).map e_Copy).length (((lget row3 v1.2.2).Said).map e_Copy), .bool ((lget row3 v1.2.2).Has), .sl 1 (((lget row3 v1.2.2).Recs).map e_str), .own 3 1 (((lget row3 v1.2.2).Ends).map e_i64).length (((lget row3 v1.2.2).Ends).map e_i64)]) h27) (.cons (clU o_Heal (.agg [.i ((lget row3 v1.2.2).Epoch), .row 80020 0, .own 24 4 (((lget row3 v1.2.2).Said).map e_Copy).length (((lget row3 v1.2.2).Said).map e_Copy), .bool ((lget row3 v1.2.2).Has), .sl 1 (((lget row3 v1.2.2).Recs).map e_str), .own 3 1 (((lget row3 v1.2.2).Ends).map e_i64).length (((lget row3 v1.2.2).Ends).map e_i64)]) h27) (.cons (stl (f := o_Heal) (fun _ => rfl) row3) .nil))) (hk := ?_)
           refine Nif hF ?_ ?_ <;> intro hb hF
           ·obtain ⟨h30, hF⟩ := aE hF
            obtain ⟨h31, h32, hF⟩ := asrt2 hF
            obtain ⟨x5, h33, hF⟩ := oE hF
            have p34 := (Pe.ren (seal_own_ok h33) ⟨[], [(8, 279)], [], []⟩)
            obtain ⟨h35, h36, hF⟩ := asrt2 hF
            obtain ⟨h37, hF⟩ := aE hF
            refine L_open 100003 v1.2.2.toNat [(80021, 1), (80022, 2)] (u := o_Heal (lget row3 v1.2.2)) (.cons (ldr_ok o_Heal h30) .nil) (hk := ?_)
            obtain ⟨v4, hv, hF⟩ := lS hF
            refine DJ (.a (.av (.agg [.i ((lget row3 v1.2.2).Epoch), .row 80021 0, .row 80022 0, .bool ((lget row3 v1.2.2).Has), .sl 1 (((lget row3 v1.2.2).Recs).map e_str), .own 3 1 (((lget row3 v1.2.2).Ends).map e_i64).length (((lget row3 v1.2.2).Ends).map e_i64)])) (.g (opL o_Heal (.agg [.i ((lget row3 v1.2.2).Epoch), .row 80021 0, .row 80022 0, .bool ((lget row3 v1.2.2).Has), .sl 1 (((lget row3 v1.2.2).Recs).map e_str), .own 3 1 (((lget row3 v1.2.2).Ends).map e_i64).length (((lget row3 v1.2.2).Ends).map e_i64)]) h30) (.a (.sealed) (.p e_i64 h31 (.a (.av (.agg [.i ((lget row3 v1.2.2).Epoch), .row 80021 0, .row 80022 0, .bool ((lget row3 v1.2.2).Has), .sl 1 (((lget row3 v1.2.2).Recs).map e_str), .own 3 1 (((lget row3 v1.2.2).Ends).map e_i64).length (((lget row3 v1.2.2).Ends).map e_i64)])) (.g (opL o_Heal (.agg [.i ((lget row3 v1.2.2).Epoch), .row 80021 0, .row 80022 0, .bool ((lget row3 v1.2.2).Has), .sl 1 (((lget row3 v1.2.2).Recs).map e_str), .own 3 1 (((lget row3 v1.2.2).Ends).map e_i64).length (((lget row3 v1.2.2).Ends).map e_i64)]) h32) (.e [] [] p34 (.a (.sealed) (.pN e_Copy hv h35 (.a (.rows) (.a (.av (.agg [.i ((lget row3 v1.2.2).Epoch), .row 80021 0, .row 80022 0, .bool ((lget row3 v1.2.2).Has), .sl 1 (((lget row3 v1.2.2).Recs).map e_str), .own 3 1 (((lget row3 v1.2.2).Ends).map e_i64).length (((lget row3 v1.2.2).Ends).map e_i64)])) (.a (.xs ((row3.map o_Heal).set v1.2.2.toNat (.agg [.i ((lget row3 v1.2.2).Epoch), .row 80021 1, .row 80022 0, .bool ((lget row3 v1.2.2).Has), .sl 1 (((lget row3 v1.2.2).Recs).map e_str), .own 3 1 (((lget row3 v1.2.2).Ends).map e_i64).length (((lget row3 v1.2.2).Ends).map e_i64)]))) (.g (opL o_Heal (.agg [.i ((lget row3 v1.2.2).Epoch), .row 80021 0, .row 80022 0, .bool ((lget row3 v1.2.2).Has), .sl 1 (((lget row3 v1.2.2).Recs).map e_str), .own 3 1 (((lget row3 v1.2.2).Ends).map e_i64).length (((lget row3 v1.2.2).Ends).map e_i64)]) h36) (.g (opS o_Heal row3 v1.2.2 (.agg [.i ((lget row3 v1.2.2).Epoch), .row 80021 0, .row 80022 0, .bool ((lget row3 v1.2.2).Has), .sl 1 (((lget row3 v1.2.2).Recs).map e_str), .own 3 1 (((lget row3 v1.2.2).Ends).map e_i64).length (((lget row3 v1.2.2).Ends).map e_i64)]) (.agg [.i ((lget row3 v1.2.2).Epoch), .row 80021 1, .row 80022 0, .bool ((lget row3 v1.2.2).Has), .sl 1 (((lget row3 v1.2.2).Recs).map e_str), .own 3 1 (((lget row3 v1.2.2).Ends).map e_i64).length (((lget row3 v1.2.2).Ends).map e_i64)])) (.g (Nat.zero_le v1.2.2.toNat) (.a (.rows) (.a (.av (.agg [.i ((lget row3 v1.2.2).Epoch), .row 80021 1, .row 80022 0, .bool ((lget row3 v1.2.2).Has), .sl 1 (((lget row3 v1.2.2).Recs).map e_str), .own 3 1 (((lget row3 v1.2.2).Ends).map e_i64).length (((lget row3 v1.2.2).Ends).map e_i64)])) (.a (.xs ((row3.map o_Heal).set v1.2.2.toNat (.agg [.i ((lget row3 v1.2.2).Epoch), .row 80021 1, .row 80022 1, .bool ((lget row3 v1.2.2).Has), .sl 1 (((lget row3 v1.2.2).Recs).map e_str), .own 3 1 (((lget row3 v1.2.2).Ends).map e_i64).length (((lget row3 v1.2.2).Ends).map e_i64)]))) (.g (opL o_Heal (.agg [.i ((lget row3 v1.2.2).Epoch), .row 80021 1, .row 80022 0, .bool ((lget row3 v1.2.2).Has), .sl 1 (((lget row3 v1.2.2).Recs).map e_str), .own 3 1 (((lget row3 v1.2.2).Ends).map e_i64).length (((lget row3 v1.2.2).Ends).map e_i64)]) h37) (.g (opS o_Heal row3 v1.2.2 (.agg [.i ((lget row3 v1.2.2).Epoch), .row 80021 1, .row 80022 0, .bool ((lget row3 v1.2.2).Has), .sl 1 (((lget row3 v1.2.2).Recs).map e_str), .own 3 1 (((lget row3 v1.2.2).Ends).map e_i64).length (((lget row3 v1.2.2).Ends).map e_i64)]) (.agg [.i ((lget row3 v1.2.2).Epoch), .row 80021 1, .row 80022 1, .bool ((lget row3 v1.2.2).Has), .sl 1 (((lget row3 v1.2.2).Recs).map e_str), .own 3 1 (((lget row3 v1.2.2).Ends).map e_i64).length (((lget row3 v1.2.2).Ends).map e_i64)])) (.g (Nat.zero_le v1.2.2.toNat) .z))))))))))))))))))))) ?_
            obtain ⟨v5, h38, hF⟩ := lS hF
            refine L_close 100003 v1.2.2.toNat [(1, 3, 1), (2, 24, 4), (5, 3, 1)] [(4, 1)] (u := .agg [.i ((lget row3 v1.2.2).Epoch), .row 80021 1, .row 80022 1, .bool ((lget row3 v1.2.2).Has), .sl 1 (((lget row3 v1.2.2).Recs).map e_str), .own 3 1 (((lget row3 v1.2.2).Ends).map e_i64).length (((lget row3 v1.2.2).Ends).map e_i64)]) (zs := (v5.map o_Heal)) (.cons (opL o_Heal (.agg [.i ((lget row3 v1.2.2).Epoch), .row 80021 1, .row 80022 1, .bool ((lget row3 v1.2.2).Has), .sl 1 (((lget row3 v1.2.2).Recs).map e_str), .own 3 1 (((lget row3 v1.2.2).Ends).map e_i64).length (((lget row3 v1.2.2).Ends).map e_i64)]) h30) (.cons (clS o_Heal (.agg [.i ((lget row3 v1.2.2).Epoch), .row 80021 1, .row 80022 1, .bool ((lget row3 v1.2.2).Has), .sl 1 (((lget row3 v1.2.2).Recs).map e_str), .own 3 1 (((lget row3 v1.2.2).Ends).map e_i64).length (((lget row3 v1.2.2).Ends).map e_i64)]) h38) (.cons (stl (f := o_Heal) (fun _ => rfl) v5) .nil))) (hk := ?_)
            exact metQ ((lset row v.2 (⟨x3.1, x3.2.1, x3.2.2.1, x3.2.2.2.1⟩ : Copy)), row1, row2, v5) [(100001, ⟨1, true, true, false⟩), (100002, ⟨1, true, true, false⟩), (100003, ⟨1, true, true, false⟩)] hF
           ·exact metQ ((lset row v.2 (⟨x3.1, x3.2.1, x3.2.2.1, x3.2.2.2.1⟩ : Copy)), row1, row2, row3) [(100001, ⟨1, true, true, false⟩), (100002, ⟨1, true, true, false⟩), (100003, ⟨1, true, true, false⟩)] hF
          ·exact metQ (row, row1, row2, row3) [(100001, ⟨1, true, true, false⟩), (100002, ⟨1, true, true, false⟩), (100003, ⟨1, true, true, false⟩)] hF
         ·refine VR [] [0, 3, 5, 6, 82, 286] [3, 100000] [100000, 100001, 100002, 100003] [] [(0, .ptr 100000 0), (3, .ptr 3 0), (5, .popt v1.1 (.ep 100000 0 v.2.toNat 0)), (6, .popt v1.2.1 (.ep 100003 0 v1.2.2.toNat 0)), (82, .i d.Kind), (286, .bool (decide (d.Kind = 4)))] [(3, (c_Deed d)), (100000, [.row 100000 0, .row 100001 0, .row 100002 0, .row 100003 0, .sl 1 (box.map e_str)])] [(100000, .q 24 4 0 0 rc rn (row.map e_Copy)), (100001, .q 9 1 0 rk1 rc1 rn1 (row1.map e_str)), (100002, ⟨54, 1, 0, 0, rc2, rn2, 2, [], (row2.map o_L_i64)⟩), (100003, ⟨58, 6, 0, 0, rc3, rn3, 2, [], (row3.map o_Heal)⟩)] [] .nil ?_
          refine Nif hF ?_ ?_ <;> intro hb hF
          ·obtain ⟨h39, hF⟩ := aE hF
           refine Wk_coe 6 (.ep 100003 0 v1.2.2.toNat 0) rfl (.cell rfl (CoeS.unp h39)) ?_
           obtain ⟨h40, hF⟩ := aE hF
           obtain ⟨x6, h41, hF⟩ := oE hF
           have p42 := (Pe.ren (seal_Choose_ok h41) ⟨[], [(90, 299)], [], []⟩)
           refine L_open 100003 v1.2.2.toNat [(80023, 2)] (u := o_Heal (lget row3 v1.2.2)) (.cons (ldr_ok o_Heal h40) .nil) (hk := ?_)
           refine DJ (.l e_Copy row (.a (.av (.agg [.i ((lget row3 v1.2.2).Epoch), .own 3 1 (((lget row3 v1.2.2).Heard).map e_i64).length (((lget row3 v1.2.2).Heard).map e_i64), .row 80023 0, .bool ((lget row3 v1.2.2).Has), .sl 1 (((lget row3 v1.2.2).Recs).map e_str), .own 3 1 (((lget row3 v1.2.2).Ends).map e_i64).length (((lget row3 v1.2.2).Ends).map e_i64)])) (.g (opL o_Heal (.agg [.i ((lget row3 v1.2.2).Epoch), .own 3 1 (((lget row3 v1.2.2).Heard).map e_i64).length (((lget row3 v1.2.2).Heard).map e_i64), .row 80023 0, .bool ((lget row3 v1.2.2).Has), .sl 1 (((lget row3 v1.2.2).Recs).map e_str), .own 3 1 (((lget row3 v1.2.2).Ends).map e_i64).length (((lget row3 v1.2.2).Ends).map e_i64)]) h40) (.e [] [] p42 .z)))) ?_
           refine L_close 100003 v1.2.2.toNat [(1, 3, 1), (2, 24, 4), (5, 3, 1)] [(4, 1)] (u := .agg [.i ((lget row3 v1.2.2).Epoch), .own 3 1 (((lget row3 v1.2.2).Heard).map e_i64).length (((lget row3 v1.2.2).Heard).map e_i64), .row 80023 0, .bool ((lget row3 v1.2.2).Has), .sl 1 (((lget row3 v1.2.2).Recs).map e_str), .own 3 1 (((lget row3 v1.2.2).Ends).map e_i64).length (((lget row3 v1.2.2).Ends).map e_i64)]) (zs := (row3.map o_Heal)) (.cons (opL o_Heal (.agg [.i ((lget row3 v1.2.2).Epoch), .own 3 1 (((lget row3 v1.2.2).Heard).map e_i64).length (((lget row3 v1.2.2).Heard).map e_i64), .row 80023 0, .bool ((lget row3 v1.2.2).Has), .sl 1 (((lget row3 v1.2.2).Recs).map e_str), .own 3 1 (((lget row3 v1.2.2).Ends).map e_i64).length (((lget row3 v1.2.2).Ends).map e_i64)]) h40) (.cons (clU o_Heal (.agg [.i ((lget row3 v1.2.2).Epoch), .own 3 1 (((lget row3 v1.2.2).Heard).map e_i64).length (((lget row3 v1.2.2).Heard).map e_i64), .row 80023 0, .bool ((lget row3 v1.2.2).Has), .sl 1 (((lget row3 v1.2.2).Recs).map e_str), .own 3 1 (((lget row3 v1.2.2).Ends).map e_i64).length (((lget row3 v1.2.2).Ends).map e_i64)]) h40) (.cons (stl (f := o_Heal) (fun _ => rfl) row3) .nil))) (hk := ?_)
           obtain ⟨h43, hF⟩ := aE hF
           refine RJ (.a (.av (o_Heal (lget row3 v1.2.2))) (.g (fun (ga0 : (decide (x6.2.Code = 0)) = true) => (ldr_ok o_Heal (h43 ga0))) .z)) ?_
           refine Nif hF ?_ ?_ <;> intro hb hF
           ·obtain ⟨h44, hF⟩ := aE hF
            obtain ⟨h45, hF⟩ := aE hF
            refine NRL ((lset (lset row3 v1.2.2 (⟨(lget row3 v1.2.2).Epoch, (lget row3 v1.2.2).Heard, (lget row3 v1.2.2).Said, true, (lget row3 v1.2.2).Recs, (lget row3 v1.2.2).Ends⟩ : Heal)) v1.2.2 (⟨(lget (lset row3 v1.2.2 (⟨(lget row3 v1.2.2).Epoch, (lget row3 v1.2.2).Heard, (lget row3 v1.2.2).Said, true, (lget row3 v1.2.2).Recs, (lget row3 v1.2.2).Ends⟩ : Heal)) v1.2.2).Epoch, (lget (lset row3 v1.2.2 (⟨(lget row3 v1.2.2).Epoch, (lget row3 v1.2.2).Heard, (lget row3 v1.2.2).Said, true, (lget row3 v1.2.2).Recs, (lget row3 v1.2.2).Ends⟩ : Heal)) v1.2.2).Heard, (lget (lset row3 v1.2.2 (⟨(lget row3 v1.2.2).Epoch, (lget row3 v1.2.2).Heard, (lget row3 v1.2.2).Said, true, (lget row3 v1.2.2).Recs, (lget row3 v1.2.2).Ends⟩ : Heal)) v1.2.2).Said, (lget (lset row3 v1.2.2 (⟨(lget row3 v1.2.2).Epoch, (lget row3 v1.2.2).Heard, (lget row3 v1.2.2).Said, true, (lget row3 v1.2.2).Recs, (lget row3 v1.2.2).Ends⟩ : Heal)) v1.2.2).Has, x6.1, (lget (lset row3 v1.2.2 (⟨(lget row3 v1.2.2).Epoch, (lget row3 v1.2.2).Heard, (lget row3 v1.2.2).Said, true, (lget row3 v1.2.2).Recs, (lget row3 v1.2.2).Ends⟩ : Heal)) v1.2.2).Ends⟩ : Heal))) (fun v6 : List Heal => ([], [], [(100003, ⟨58, 6, 0, 0, rc3, rn3, 2, [], (v6.map o_Heal)⟩)], [])) [.av (o_Heal (lget row3 v1.2.2)), .xs ((lset row3 v1.2.2 (⟨(lget row3 v1.2.2).Epoch, (lget row3 v1.2.2).Heard, (lget row3 v1.2.2).Said, true, (lget row3 v1.2.2).Recs, (lget row3 v1.2.2).Ends⟩ : Heal)).map o_Heal), .av (o_Heal (lget (lset row3 v1.2.2 (⟨(lget row3 v1.2.2).Epoch, (lget row3 v1.2.2).Heard, (lget row3 v1.2.2).Said, true, (lget row3 v1.2.2).Recs, (lget row3 v1.2.2).Ends⟩ : Heal)) v1.2.2)), .xs ((lset (lset row3 v1.2.2 (⟨(lget row3 v1.2.2).Epoch, (lget row3 v1.2.2).Heard, (lget row3 v1.2.2).Said, true, (lget row3 v1.2.2).Recs, (lget row3 v1.2.2).Ends⟩ : Heal)) v1.2.2 (⟨(lget (lset row3 v1.2.2 (⟨(lget row3 v1.2.2).Epoch, (lget row3 v1.2.2).Heard, (lget row3 v1.2.2).Said, true, (lget row3 v1.2.2).Recs, (lget row3 v1.2.2).Ends⟩ : Heal)) v1.2.2).Epoch, (lget (lset row3 v1.2.2 (⟨(lget row3 v1.2.2).Epoch, (lget row3 v1.2.2).Heard, (lget row3 v1.2.2).Said, true, (lget row3 v1.2.2).Recs, (lget row3 v1.2.2).Ends⟩ : Heal)) v1.2.2).Heard, (lget (lset row3 v1.2.2 (⟨(lget row3 v1.2.2).Epoch, (lget row3 v1.2.2).Heard, (lget row3 v1.2.2).Said, true, (lget row3 v1.2.2).Recs, (lget row3 v1.2.2).Ends⟩ : Heal)) v1.2.2).Said, (lget (lset row3 v1.2.2 (⟨(lget row3 v1.2.2).Epoch, (lget row3 v1.2.2).Heard, (lget row3 v1.2.2).Said, true, (lget row3 v1.2.2).Recs, (lget row3 v1.2.2).Ends⟩ : Heal)) v1.2.2).Has, x6.1, (lget (lset row3 v1.2.2 (⟨(lget row3 v1.2.2).Epoch, (lget row3 v1.2.2).Heard, (lget row3 v1.2.2).Said, true, (lget row3 v1.2.2).Recs, (lget row3 v1.2.2).Ends⟩ : Heal)) v1.2.2).Ends⟩ : Heal)).map o_Heal)] [] [100000] [100000, 100001, 100002, 100003] [] (hc (ldr_ok o_Heal h44) (hc (set_ok o_Heal row3 v1.2.2 (⟨(lget row3 v1.2.2).Epoch, (lget row3 v1.2.2).Heard, (lget row3 v1.2.2).Said, true, (lget row3 v1.2.2).Recs, (lget row3 v1.2.2).Ends⟩ : Heal)) (hc (Nat.zero_le v1.2.2.toNat) (hc (ldr_ok o_Heal h45) (hc (set_ok o_Heal (lset row3 v1.2.2 (⟨(lget row3 v1.2.2).Epoch, (lget row3 v1.2.2).Heard, (lget row3 v1.2.2).Said, true, (lget row3 v1.2.2).Recs, (lget row3 v1.2.2).Ends⟩ : Heal)) v1.2.2 (⟨(lget (lset row3 v1.2.2 (⟨(lget row3 v1.2.2).Epoch, (lget row3 v1.2.2).Heard, (lget row3 v1.2.2).Said, true, (lget row3 v1.2.2).Recs, (lget row3 v1.2.2).Ends⟩ : Heal)) v1.2.2).Epoch, (lget (lset row3 v1.2.2 (⟨(lget row3 v1.2.2).Epoch, (lget row3 v1.2.2).Heard, (lget row3 v1.2.2).Said, true, (lget row3 v1.2.2).Recs, (lget row3 v1.2.2).Ends⟩ : Heal)) v1.2.2).Heard, (lget (lset row3 v1.2.2 (⟨(lget row3 v1.2.2).Epoch, (lget row3 v1.2.2).Heard, (lget row3 v1.2.2).Said, true, (lget row3 v1.2.2).Recs, (lget row3 v1.2.2).Ends⟩ : Heal)) v1.2.2).Said, (lget (lset row3 v1.2.2 (⟨(lget row3 v1.2.2).Epoch, (lget row3 v1.2.2).Heard, (lget row3 v1.2.2).Said, true, (lget row3 v1.2.2).Recs, (lget row3 v1.2.2).Ends⟩ : Heal)) v1.2.2).Has, x6.1, (lget (lset row3 v1.2.2 (⟨(lget row3 v1.2.2).Epoch, (lget row3 v1.2.2).Heard, (lget row3 v1.2.2).Said, true, (lget row3 v1.2.2).Recs, (lget row3 v1.2.2).Ends⟩ : Heal)) v1.2.2).Ends⟩ : Heal)) (hc (Nat.zero_le v1.2.2.toNat) .nil)))))) (fun v6 hv => ?_)
            have hF := lt_elim hF hv
            exact metQ (row, row1, row2, v6) [(100001, ⟨1, true, true, false⟩), (100002, ⟨1, true, true, false⟩), (100003, ⟨1, true, true, false⟩)] hF
           ·exact metQ (row, row1, row2, row3) [(100001, ⟨1, true, true, false⟩), (100002, ⟨1, true, true, false⟩), (100003, ⟨1, true, true, false⟩)] hF
          ·refine VR [] [3, 5, 6, 319] [3, 100000] [100000, 100001, 100002, 100003] [] [(3, .ptr 3 0), (5, .popt v1.1 (.ep 100000 0 v.2.toNat 0)), (6, .popt v1.2.1 (.ep 100003 0 v1.2.2.toNat 0)), (319, .bool (decide (d.Kind = 5)))] [(3, (c_Deed d)), (100000, [.row 100000 0, .row 100001 0, .row 100002 0, .row 100003 0, .sl 1 (box.map e_str)])] [(100000, .q 24 4 0 0 rc rn (row.map e_Copy)), (100001, .q 9 1 0 rk1 rc1 rn1 (row1.map e_str)), (100002, ⟨54, 1, 0, 0, rc2, rn2, 2, [], (row2.map o_L_i64)⟩), (100003, ⟨58, 6, 0, 0, rc3, rn3, 2, [], (row3.map o_Heal)⟩)] [] .nil ?_
           refine Nif hF ?_ ?_ <;> intro hb hF
           ·obtain ⟨h46, hF⟩ := aE hF
            refine Wk_coe 6 (.ep 100003 0 v1.2.2.toNat 0) rfl (.cell rfl (CoeS.unp h46)) ?_
            obtain ⟨h47, hF⟩ := aE hF
            refine VR [.av (o_Heal (lget row3 v1.2.2))] [3, 5, 6, 325] [3, 100000] [100000, 100001, 100002, 100003] [] [(3, .ptr 3 0), (5, .popt v1.1 (.ep 100000 0 v.2.toNat 0)), (6, .ep 100003 0 v1.2.2.toNat 0), (325, .bool (!((lget row3 v1.2.2).Has)))] [(3, (c_Deed d)), (100000, [.row 100000 0, .row 100001 0, .row 100002 0, .row 100003 0, .sl 1 (box.map e_str)])] [(100000, .q 24 4 0 0 rc rn (row.map e_Copy)), (100001, .q 9 1 0 rk1 rc1 rn1 (row1.map e_str)), (100002, ⟨54, 1, 0, 0, rc2, rn2, 2, [], (row2.map o_L_i64)⟩), (100003, ⟨58, 6, 0, 0, rc3, rn3, 2, [], (row3.map o_Heal)⟩)] [] (hc (ldr_ok o_Heal h47) .nil) ?_
            refine Nif hF ?_ ?_ <;> intro hb hF
            ·refine Nexit rfl ?_
             exact metQ (row, row1, row2, row3) [(100001, ⟨1, true, true, false⟩), (100002, ⟨1, true, true, false⟩), (100003, ⟨1, true, true, false⟩)] hF
            ·obtain ⟨h48, hF⟩ := aE hF
             refine Wk_coe 5 (.ep 100000 0 v.2.toNat 0) rfl (.cell rfl (CoeS.unp h48)) ?_
             obtain ⟨h49, h50, hF⟩ := asrt2 hF
             obtain ⟨h51, hF⟩ := aE hF
             obtain ⟨x7, h52, hF⟩ := oE hF
             have p53 := (Pe.ren (seal_End_ok h52) ⟨[], [(46, 338)], [], []⟩)
             refine DJ (.r e_Copy h49 (.r o_Heal h50 (.r o_Heal h51 (.e [] [] p53 .z)))) ?_
             refine LR0 ?_
             refine Nif hF ?_ ?_ <;> intro hb hF
             ·obtain ⟨h54, hF⟩ := aE hF
              obtain ⟨x8, h55, hF⟩ := oE hF
              have p56 := (Pe.ren (seal_once_v1_ok ((((lget row3 v1.2.2).Ends).map e_i64).length) 0 false h55) ⟨[], [(100000, 80024)], [], []⟩)
              obtain ⟨h57, h58, hF⟩ := asrt2 hF
              refine L_open 100003 v1.2.2.toNat [(80024, 5)] (u := o_Heal (lget row3 v1.2.2)) (.cons (ldr_ok o_Heal h54) .nil) (hk := ?_)
              refine DJ (.a (.av (.agg [.i ((lget row3 v1.2.2).Epoch), .own 3 1 (((lget row3 v1.2.2).Heard).map e_i64).length (((lget row3 v1.2.2).Heard).map e_i64), .own 24 4 (((lget row3 v1.2.2).Said).map e_Copy).length (((lget row3 v1.2.2).Said).map e_Copy), .bool ((lget row3 v1.2.2).Has), .sl 1 (((lget row3 v1.2.2).Recs).map e_str), .row 80024 0])) (.g (opL o_Heal (.agg [.i ((lget row3 v1.2.2).Epoch), .own 3 1 (((lget row3 v1.2.2).Heard).map e_i64).length (((lget row3 v1.2.2).Heard).map e_i64), .own 24 4 (((lget row3 v1.2.2).Said).map e_Copy).length (((lget row3 v1.2.2).Said).map e_Copy), .bool ((lget row3 v1.2.2).Has), .sl 1 (((lget row3 v1.2.2).Recs).map e_str), .row 80024 0]) h54) (.e [] [80024] p56 (.w e_Copy h57 (⟨x7.1, x7.2.1, x7.2.2.1, x7.2.2.2.1⟩ : Copy) (.a (.rows) (.a (.av (.agg [.i ((lget row3 v1.2.2).Epoch), .own 3 1 (((lget row3 v1.2.2).Heard).map e_i64).length (((lget row3 v1.2.2).Heard).map e_i64), .own 24 4 (((lget row3 v1.2.2).Said).map e_Copy).length (((lget row3 v1.2.2).Said).map e_Copy), .bool ((lget row3 v1.2.2).Has), .sl 1 (((lget row3 v1.2.2).Recs).map e_str), .row 80024 0])) (.a (.xs ((row3.map o_Heal).set v1.2.2.toNat (.agg [.i ((lget row3 v1.2.2).Epoch), .own 3 1 (((lget row3 v1.2.2).Heard).map e_i64).length (((lget row3 v1.2.2).Heard).map e_i64), .own 24 4 (((lget row3 v1.2.2).Said).map e_Copy).length (((lget row3 v1.2.2).Said).map e_Copy), .bool ((lget row3 v1.2.2).Has), .sl 1 (((lget row3 v1.2.2).Recs).map e_str), .row 80024 1]))) (.g (opL o_Heal (.agg [.i ((lget row3 v1.2.2).Epoch), .own 3 1 (((lget row3 v1.2.2).Heard).map e_i64).length (((lget row3 v1.2.2).Heard).map e_i64), .own 24 4 (((lget row3 v1.2.2).Said).map e_Copy).length (((lget row3 v1.2.2).Said).map e_Copy), .bool ((lget row3 v1.2.2).Has), .sl 1 (((lget row3 v1.2.2).Recs).map e_str), .row 80024 0]) h58) (.g (opS o_Heal row3 v1.2.2 (.agg [.i ((lget row3 v1.2.2).Epoch), .own 3 1 (((lget row3 v1.2.2).Heard).map e_i64).length (((lget row3 v1.2.2).Heard).map e_i64), .own 24 4 (((lget row3 v1.2.2).Said).map e_Copy).length (((lget row3 v1.2.2).Said).map e_Copy), .bool ((lget row3 v1.2.2).Has), .sl 1 (((lget row3 v1.2.2).Recs).map e_str), .row 80024 0]) (.agg [.i ((lget row3 v1.2.2).Epoch), .own 3 1 (((lget row3 v1.2.2).Heard).map e_i64).length (((lget row3 v1.2.2).Heard).map e_i64), .own 24 4 (((lget row3 v1.2.2).Said).map e_Copy).length (((lget row3 v1.2.2).Said).map e_Copy), .bool ((lget row3 v1.2.2).Has), .sl 1 (((lget row3 v1.2.2).Recs).map e_str), .row 80024 1])) (.g (Nat.zero_le v1.2.2.toNat) .z)))))))))) ?_
              obtain ⟨v7, h59, hF⟩ := lS hF
              refine L_close 100003 v1.2.2.toNat [(1, 3, 1), (2, 24, 4), (5, 3, 1)] [(4, 1)] (u := .agg [.i ((lget row3 v1.2.2).Epoch), .own 3 1 (((lget row3 v1.2.2).Heard).map e_i64).length (((lget row3 v1.2.2).Heard).map e_i64), .own 24 4 (((lget row3 v1.2.2).Said).map e_Copy).length (((lget row3 v1.2.2).Said).map e_Copy), .bool ((lget row3 v1.2.2).Has), .sl 1 (((lget row3 v1.2.2).Recs).map e_str), .row 80024 1]) (zs := (v7.map o_Heal)) (.cons (opL o_Heal (.agg [.i ((lget row3 v1.2.2).Epoch), .own 3 1 (((lget row3 v1.2.2).Heard).map e_i64).length (((lget row3 v1.2.2).Heard).map e_i64), .own 24 4 (((lget row3 v1.2.2).Said).map e_Copy).length (((lget row3 v1.2.2).Said).map e_Copy), .bool ((lget row3 v1.2.2).Has), .sl 1 (((lget row3 v1.2.2).Recs).map e_str), .row 80024 1]) h54) (.cons (clS o_Heal (.agg [.i ((lget row3 v1.2.2).Epoch), .own 3 1 (((lget row3 v1.2.2).Heard).map e_i64).length (((lget row3 v1.2.2).Heard).map e_i64), .own 24 4 (((lget row3 v1.2.2).Said).map e_Copy).length (((lget row3 v1.2.2).Said).map e_Copy), .bool ((lget row3 v1.2.2).Has), .sl 1 (((lget row3 v1.2.2).Recs).map e_str), .row 80024 1]) h59) (.cons (stl (f := o_Heal) (fun _ => rfl) v7) .nil))) (hk := ?_)
              exact metQ ((lset row v.2 (⟨x7.1, x7.2.1, x7.2.2.1, x7.2.2.2.1⟩ : Copy)), row1, row2, v7) [(100001, ⟨1, true, true, false⟩), (100002, ⟨1, true, true, false⟩), (100003, ⟨1, true, true, false⟩)] hF
             ·exact metQ (row, row1, row2, row3) [(100001, ⟨1, true, true, false⟩), (100002, ⟨1, true, true, false⟩), (100003, ⟨1, true, true, false⟩)] hF
           ·exact metQ (row, row1, row2, row3) [(100001, ⟨1, true, true, false⟩), (100002, ⟨1, true, true, false⟩), (100003, ⟨1, true, true, false⟩)] hF
     ·intro v2 hF
      unfold seal_vault_does_v1_J2 at hF
      refine LR0 ?_
      cases hF
      exact Wz [] hfin

/- seal.Play -/
def seal_Play_J1 (v1 : List Copy × List (List UInt8) × List (List Int) × List Heal × List (List UInt8)) : Option (List Copy × List (List UInt8) × List (List Int) × List Heal × Fault) :=
 some (v1.1, v1.2.1, v1.2.2.1, v1.2.2.2.1, (⟨0, 0⟩ : Fault))
def seal_Play_B1 (deeds : List Deed) (v2 : List Copy × List (List UInt8) × List (List Int) × List Heal × List (List UInt8) × Int) : Option ((List Copy × List (List UInt8) × List (List Int) × List Heal × List (List UInt8) × Int) ⊕ (List Copy × List (List UInt8) × List (List Int) × List Heal × Fault)) :=
 if (decide (v2.2.2.2.2.2 < (deeds.length : Int))) = true then
  asrt (0 ≤ v2.2.2.2.2.2 ∧ v2.2.2.2.2.2 < (deeds.length : Int)) <|
  ob (seal_vault_does_v1 (⟨(lget deeds v2.2.2.2.2.2).Kind, (lget deeds v2.2.2.2.2.2).Who, (lget deeds v2.2.2.2.2.2).N⟩ : Deed) v2.2.2.2.2.1 v2.1 v2.2.1 v2.2.2.1 v2.2.2.2.1) fun x5 =>
  if (!decide (x5.1 = 0)) = true then
   lt (seal_fault x5.1 v2.2.2.2.2.2) fun x6 =>
   some (Sum.inr (([] : List Copy), ([] : List (List UInt8)), ([] : List (List Int)), ([] : List Heal), x6))
  else
   some (Sum.inl (x5.2.1, x5.2.2.1, x5.2.2.2.1, x5.2.2.2.2.1, x5.2.2.2.2.2, w64 (v2.2.2.2.2.2 + 1)))
 else
  inrO (seal_Play_J1 (v2.1, v2.2.1, v2.2.2.1, v2.2.2.2.1, v2.2.2.2.2.1))
def seal_Play_L1 (deeds : List Deed) (v0 : List Copy × List (List UInt8) × List (List Int) × List Heal × List (List UInt8) × Int) : Option (List Copy × List (List UInt8) × List (List Int) × List Heal × Fault) :=
 loopO (fun y => seal_Play_B1 deeds y) v0
def seal_Play (num : Int) (recs : List (List UInt8)) (deeds : List Deed) : Option (List Copy × List (List UInt8) × List (List Int) × List Heal × Fault) :=
 if ((decide (num < 1)) || (decide (7 < num))) = true then
  lt (seal_fault 3 (-1)) fun x =>
  some (([] : List Copy), ([] : List (List UInt8)), ([] : List (List Int)), ([] : List Heal), x)
 else
  if (decide (2000 < (deeds.length : Int))) = true then
   lt (seal_fault 2 (-1)) fun x1 =>
   some (([] : List Copy), ([] : List (List UInt8)), ([] : List (List Int)), ([] : List Heal), x1)
  else
   if (decide (100 < (recs.length : Int))) = true then
    lt (seal_fault 2 (-2)) fun x2 =>
    some (([] : List Copy), ([] : List (List UInt8)), ([] : List (List Int)), ([] : List Heal), x2)
   else
    ob (seal_long recs) fun x3 =>
    if (decide (0 ≤ x3)) = true then
     lt (seal_fault 8 (-2)) fun x4 =>
     some (([] : List Copy), ([] : List (List UInt8)), ([] : List (List Int)), ([] : List Heal), x4)
    else
     asrt (0 ≤ (num : Int) ∧ num ≤ num ∧ num * 48 ≤ 140737488351232) <|
     lt ((List.replicate num.toNat ((⟨0, false, ([] : List (List UInt8)), 0⟩ : Copy) : Copy))) fun (v : List Copy) =>
     seal_Play_L1 deeds (v, ([] : List (List UInt8)), ([] : List (List Int)), ([] : List Heal), recs, 0)
theorem seal_Play_ok {num recs deeds r} (hF : seal_Play num recs deeds = some r) : Pe Try.prog 22 (.w []) [.i num, .sl 1 (recs.map e_str), .sl 3 (deeds.map e_Deed)] (.tup [.agg [.row 42 0, .row 53 0, .row 60002 0, .row 60003 0], .agg (c_Fault r.2.2.2.2)]) ⟨[], [], [(42, .o 24 4 0 (r.1.map e_Copy)), (53, .z 9 1 0 (r.2.1.map e_str)), (60002, ⟨54, 1, 0, 0, 0, true, 2, [], (r.2.2.1.map o_L_i64)⟩), (60003, ⟨58, 6, 0, 0, 0, true, 2, [], (r.2.2.2.1.map o_Heal)⟩)], [], []⟩ := by
 refine PT 64 [.cell 6 46, .cell 7 29] [46, 29] Try.func22 ?_
 intro Q g hfin
 unfold seal_Play at hF
 refine VR [] [0, 1, 2, 6, 7] [6, 7] [] [] [(0, .i num), (1, .sl 1 (recs.map e_str)), (2, .sl 3 (deeds.map e_Deed)), (6, .ptr 6 0), (7, .ptr 7 0)] [(6, [.nils, .nils, .nils, .nils]), (7, [.i 0, .i 0])] [] [] .nil ?_
 refine Wk_nilrowBP 2 6 2 60000 54 1 rfl rfl rfl rfl rfl ?_
 refine Wk_nilrowBP 2 6 3 60001 58 6 rfl rfl rfl rfl rfl ?_
 refine Nblk ?_
 refine LR0 ?_
 refine Nif hF ?_ ?_ <;> intro hb hF
 ·obtain ⟨x, h0, hF⟩ := lS hF
  refine VR [.callB (.agg (c_Fault x))] [6, 7] [6, 7] [] [] [(6, .ptr 6 0), (7, .ptr 7 0)] [(6, [.nils, .nils, .nils, .nils]), (7, (c_Fault x))] [] [] (hc (seal_fault_ok h0) .nil) ?_
  refine Wk_nilrowBP 2 6 2 60002 54 1 rfl rfl rfl rfl rfl ?_
  refine Wk_nilrowBP 2 6 3 60003 58 6 rfl rfl rfl rfl rfl ?_
  cases hF
  refine Wk_nilrowB 6 0 60004 24 4 rfl rfl rfl rfl rfl ?_
  refine Wk_nilrowB 6 1 60005 9 1 rfl rfl rfl rfl rfl ?_
  refine Wk_ren' ⟨[], [(60004, 42), (60005, 53)], [], []⟩ rfl ?_
  exact Wz [(42, ⟨0, true, false, false⟩)] hfin
 ·refine RJ (.l e_Deed deeds .z) ?_
  refine Nif hF ?_ ?_ <;> intro hb hF
  ·obtain ⟨x1, h1, hF⟩ := lS hF
   refine VR [.callB (.agg (c_Fault x1))] [6, 7] [6, 7] [] [] [(6, .ptr 6 0), (7, .ptr 7 0)] [(6, [.nils, .nils, .nils, .nils]), (7, (c_Fault x1))] [] [] (hc (seal_fault_ok h1) .nil) ?_
   refine Wk_nilrowBP 2 6 2 60006 54 1 rfl rfl rfl rfl rfl ?_
   refine Wk_nilrowBP 2 6 3 60007 58 6 rfl rfl rfl rfl rfl ?_
   cases hF
   refine Wk_nilrowB 6 0 60008 24 4 rfl rfl rfl rfl rfl ?_
   refine Wk_nilrowB 6 1 60009 9 1 rfl rfl rfl rfl rfl ?_
   refine Wk_ren' ⟨[], [(60008, 42), (60009, 53), (60006, 60002), (60007, 60003)], [], []⟩ rfl ?_
   exact Wz [(42, ⟨0, true, false, false⟩)] hfin
  ·refine RJ (.l e_str recs .z) ?_
   refine Nif hF ?_ ?_ <;> intro hb hF
   ·obtain ⟨x2, h2, hF⟩ := lS hF
    refine VR [.callB (.agg (c_Fault x2))] [6, 7] [6, 7] [] [] [(6, .ptr 6 0), (7, .ptr 7 0)] [(6, [.nils, .nils, .nils, .nils]), (7, (c_Fault x2))] [] [] (hc (seal_fault_ok h2) .nil) ?_
    refine Wk_nilrowBP 2 6 2 60010 54 1 rfl rfl rfl rfl rfl ?_
    refine Wk_nilrowBP 2 6 3 60011 58 6 rfl rfl rfl rfl rfl ?_
    cases hF
    refine Wk_nilrowB 6 0 60012 24 4 rfl rfl rfl rfl rfl ?_
    refine Wk_nilrowB 6 1 60013 9 1 rfl rfl rfl rfl rfl ?_
    refine Wk_ren' ⟨[], [(60012, 42), (60013, 53), (60010, 60002), (60011, 60003)], [], []⟩ rfl ?_
    exact Wz [(42, ⟨0, true, false, false⟩)] hfin
   ·obtain ⟨x3, h3, hF⟩ := oE hF
    refine RJ (.b (seal_long_ok h3) .z) ?_
    refine Nif hF ?_ ?_ <;> intro hb hF
    ·obtain ⟨x4, h4, hF⟩ := lS hF
     refine VR [.callB (.agg (c_Fault x4))] [6, 7] [6, 7] [] [] [(6, .ptr 6 0), (7, .ptr 7 0)] [(6, [.nils, .nils, .nils, .nils]), (7, (c_Fault x4))] [] [] (hc (seal_fault_ok h4) .nil) ?_
     refine Wk_nilrowBP 2 6 2 60014 54 1 rfl rfl rfl rfl rfl ?_
     refine Wk_nilrowBP 2 6 3 60015 58 6 rfl rfl rfl rfl rfl ?_
     cases hF
     refine Wk_nilrowB 6 0 60016 24 4 rfl rfl rfl rfl rfl ?_
     refine Wk_nilrowB 6 1 60017 9 1 rfl rfl rfl rfl rfl ?_
     refine Wk_ren' ⟨[], [(60016, 42), (60017, 53), (60014, 60002), (60015, 60003)], [], []⟩ rfl ?_
     exact Wz [(42, ⟨0, true, false, false⟩)] hfin
    ·refine VR [] [0, 2, 6, 7, 8] [6, 7, 8] [60000, 60001] [] [(0, .i num), (2, .sl 3 (deeds.map e_Deed)), (6, .ptr 6 0), (7, .ptr 7 0), (8, .ptr 8 0)] [(6, [.nils, .nils, .row 60000 0, .row 60001 0]), (7, [.i 0, .i 0]), (8, [.nils, .nils, .nils, .nils, .sl 1 (recs.map e_str)])] [(60000, ⟨54, 1, 0, 0, 0, true, 2, [], (([] : List (List Int)).map o_L_i64)⟩), (60001, ⟨58, 6, 0, 0, 0, true, 2, [], (([] : List Heal).map o_Heal)⟩)] [] .nil ?_
     refine Wk_nilrowBP 2 8 2 60018 54 1 rfl rfl rfl rfl rfl ?_
     refine Wk_nilrowBP 2 8 3 60019 58 6 rfl rfl rfl rfl rfl ?_
     obtain ⟨h5, hF⟩ := aE hF
     refine NRL ((List.replicate num.toNat ((⟨0, false, ([] : List (List UInt8)), 0⟩ : Copy) : Copy))) (fun v : List Copy => ([], [(8, [.row 42 0, .nils, .row 60018 0, .row 60019 0, .sl 1 (recs.map e_str)])], [(42, .o 24 4 0 (v.map e_Copy))], [])) [.xs ((List.replicate num.toNat ((⟨0, false, ([] : List (List UInt8)), 0⟩ : Copy) : Copy)).map e_Copy)] [2, 6, 7, 8] [6, 7, 8] [42, 60000, 60001, 60018, 60019] [] (hc (mk_ok h5) (hc (rep_ok e_Copy num ((⟨0, false, ([] : List (List UInt8)), 0⟩ : Copy) : Copy)) .nil)) (fun v hv => ?_)
     have hF := lt_elim hF hv
     refine VR [.nat (deeds.length : Int)] [6, 7, 8, 45, 46, 47] [6, 7, 8] [42, 60000, 60001, 60018, 60019] [] [(6, .ptr 6 0), (7, .ptr 7 0), (8, .ptr 8 0), (45, .sl 3 (deeds.map e_Deed)), (46, .i (deeds.length : Int)), (47, .i 0)] [(6, [.nils, .nils, .row 60000 0, .row 60001 0]), (7, [.i 0, .i 0]), (8, [.row 42 0, .nils, .row 60018 0, .row 60019 0, .sl 1 (recs.map e_str)])] [(42, .o 24 4 0 (v.map e_Copy)), (60000, ⟨54, 1, 0, 0, 0, true, 2, [], (([] : List (List Int)).map o_L_i64)⟩), (60001, ⟨58, 6, 0, 0, 0, true, 2, [], (([] : List Heal).map o_Heal)⟩), (60018, ⟨54, 1, 0, 0, 0, true, 2, [], (([] : List (List Int)).map o_L_i64)⟩), (60019, ⟨58, 6, 0, 0, 0, true, 2, [], (([] : List Heal).map o_Heal)⟩)] [] (hc (len_ok e_Deed deeds) .nil) ?_
     refine NmS (fun v1 => seal_Play_J1 v1 = some r) (fun Z v1 => Z.up [6, 7, 8] [6, 7, 8] [42, 53, 60000, 60001, 60018, 60019] [] [] [(8, [.row 42 0, .row 53 0, .row 60018 0, .row 60019 0, .sl 1 (v1.2.2.2.2.map e_str)])] [(42, .o 24 4 0 (v1.1.map e_Copy)), (53, .z 9 1 0 (v1.2.1.map e_str)), (60018, ⟨54, 1, 0, 0, 0, true, 2, [], (v1.2.2.1.map o_L_i64)⟩), (60019, ⟨58, 6, 0, 0, 0, true, 2, [], (v1.2.2.2.1.map o_Heal)⟩)] []) ?_ ?_
     ·refine Nblk ?_
      unfold seal_Play_L1 at hF
      refine Wk_nilrowB 8 1 60020 9 1 rfl rfl rfl rfl rfl ?_
      refine Wk_trim (fs := [6, 7, 8, 45, 46, 47]) (bs := [6, 7, 8]) (rs := [42, 60000, 60001, 60018, 60019, 60020]) (ms := []) (aa := []) (nv := []) rfl ?_
      refine Wk_ren' ⟨[], [(60020, 53)], [], []⟩ rfl ?_
      refine Nitr hF [] (fun v2 => ⟨[(6, .ptr 6 0), (7, .ptr 7 0), (8, .ptr 8 0), (45, .sl 3 (deeds.map e_Deed)), (46, .i (deeds.length : Int)), (47, .i v2.2.2.2.2.2)], [(6, [.nils, .nils, .row 60000 0, .row 60001 0]), (7, [.i 0, .i 0]), (8, [.row 42 0, .row 53 0, .row 60018 0, .row 60019 0, .sl 1 (v2.2.2.2.2.1.map e_str)])], [(42, .o 24 4 0 (v2.1.map e_Copy)), (53, .z 9 1 0 (v2.2.1.map e_str)), (60000, ⟨54, 1, 0, 0, 0, true, 2, [], (([] : List (List Int)).map o_L_i64)⟩), (60001, ⟨58, 6, 0, 0, 0, true, 2, [], (([] : List Heal).map o_Heal)⟩), (60018, ⟨54, 1, 0, 0, 0, true, 2, [], (v2.2.2.1.map o_L_i64)⟩), (60019, ⟨58, 6, 0, 0, 0, true, 2, [], (v2.2.2.2.1.map o_Heal)⟩)], [], []⟩) ?_
      intro n1 v2 y1 hF ih1 dn1
      unfold seal_Play_B1 at hF
      refine LR0 ?_
      refine Nif hF ?_ ?_ <;> intro hb hF
      ·refine Nblk ?_
       obtain ⟨h6, hF⟩ := aE hF
       refine RJ (.i e_Deed h6 .z) ?_
       obtain ⟨x5, h7, hF⟩ := oE hF
       have p8 := (Pe.ren (seal_vault_does_v1_ok 0 0 false 0 0 true 0 0 true 0 0 true h7) ⟨[(100000, 8)], [(100000, 42), (100001, 53), (100002, 60018), (100003, 60019)], [], []⟩)
       refine RJ (.e [8] [42, 53, 60018, 60019] p8 .z) ?_
       refine LR0 ?_
       refine Nif hF ?_ ?_ <;> intro hb hF
       ·obtain ⟨x6, h9, hF⟩ := lS hF
        refine VR [.callB (.agg (c_Fault x6))] [6, 7] [6, 7] [] [] [(6, .ptr 6 0), (7, .ptr 7 0)] [(6, [.nils, .nils, .nils, .nils]), (7, (c_Fault x6))] [] [] (hc (seal_fault_ok h9) .nil) ?_
        refine Wk_nilrowBP 2 6 2 60021 54 1 rfl rfl rfl rfl rfl ?_
        refine Wk_nilrowBP 2 6 3 60022 58 6 rfl rfl rfl rfl rfl ?_
        have hF := ret_done hF dn1
        cases hF
        refine Wk_nilrowB 6 0 60023 24 4 rfl rfl rfl rfl rfl ?_
        refine Wk_nilrowB 6 1 60024 9 1 rfl rfl rfl rfl rfl ?_
        refine Wk_ren' ⟨[], [(60023, 42), (60024, 53), (60021, 60002), (60022, 60003)], [], []⟩ rfl ?_
        exact Wz [(42, ⟨0, true, false, false⟩)] hfin
       ·refine LR0 ?_
        exact Nrnq [(53, ⟨0, true, true, false⟩), (60018, ⟨0, true, true, false⟩), (60019, ⟨0, true, true, false⟩)] hF ih1
      ·refine Nexit rfl ?_
       have hF := inrO_done hF dn1
       exact metQ (v2.1, v2.2.1, v2.2.2.1, v2.2.2.2.1, v2.2.2.2.2.1) [] hF
     ·intro v1 hF
      unfold seal_Play_J1 at hF
      refine VR [] [6, 7] [6, 7] [42, 53, 60018, 60019] [] [(6, .ptr 6 0), (7, .ptr 7 0)] [(6, [.row 42 0, .row 53 0, .row 60018 0, .row 60019 0]), (7, [.i 0, .i 0])] [(42, .o 24 4 0 (v1.1.map e_Copy)), (53, .z 9 1 0 (v1.2.1.map e_str)), (60018, ⟨54, 1, 0, 0, 0, true, 2, [], (v1.2.2.1.map o_L_i64)⟩), (60019, ⟨58, 6, 0, 0, 0, true, 2, [], (v1.2.2.2.1.map o_Heal)⟩)] [] .nil ?_
      cases hF
      refine Wk_ren' ⟨[], [(60018, 60002), (60019, 60003)], [], []⟩ rfl ?_
      exact Wz [] hfin

/- seal.Play -/
def seal_Play_v1_J1 (v1 : List Copy × List (List UInt8) × List (List Int) × List Heal × List (List UInt8)) : Option (Vault × Fault) :=
 some ((⟨v1.1, v1.2.1, v1.2.2.1, v1.2.2.2.1⟩ : Vault), (⟨0, 0⟩ : Fault))
def seal_Play_v1_B1 (deeds : List Deed) (v2 : List Copy × List (List UInt8) × List (List Int) × List Heal × List (List UInt8) × Int) : Option ((List Copy × List (List UInt8) × List (List Int) × List Heal × List (List UInt8) × Int) ⊕ (Vault × Fault)) :=
 if (decide (v2.2.2.2.2.2 < (deeds.length : Int))) = true then
  asrt (0 ≤ v2.2.2.2.2.2 ∧ v2.2.2.2.2.2 < (deeds.length : Int)) <|
  ob (seal_vault_does_v1 (⟨(lget deeds v2.2.2.2.2.2).Kind, (lget deeds v2.2.2.2.2.2).Who, (lget deeds v2.2.2.2.2.2).N⟩ : Deed) v2.2.2.2.2.1 v2.1 v2.2.1 v2.2.2.1 v2.2.2.2.1) fun x5 =>
  if (!decide (x5.1 = 0)) = true then
   lt (seal_fault x5.1 v2.2.2.2.2.2) fun x6 =>
   some (Sum.inr ((⟨([] : List Copy), ([] : List (List UInt8)), ([] : List (List Int)), ([] : List Heal)⟩ : Vault), x6))
  else
   some (Sum.inl (x5.2.1, x5.2.2.1, x5.2.2.2.1, x5.2.2.2.2.1, x5.2.2.2.2.2, w64 (v2.2.2.2.2.2 + 1)))
 else
  inrO (seal_Play_v1_J1 (v2.1, v2.2.1, v2.2.2.1, v2.2.2.2.1, v2.2.2.2.2.1))
def seal_Play_v1_L1 (deeds : List Deed) (v0 : List Copy × List (List UInt8) × List (List Int) × List Heal × List (List UInt8) × Int) : Option (Vault × Fault) :=
 loopO (fun y => seal_Play_v1_B1 deeds y) v0
def seal_Play_v1 (num : Int) (recs : List (List UInt8)) (deeds : List Deed) : Option (Vault × Fault) :=
 if ((decide (num < 1)) || (decide (7 < num))) = true then
  lt (seal_fault 3 (-1)) fun x =>
  some ((⟨([] : List Copy), ([] : List (List UInt8)), ([] : List (List Int)), ([] : List Heal)⟩ : Vault), x)
 else
  if (decide (2000 < (deeds.length : Int))) = true then
   lt (seal_fault 2 (-1)) fun x1 =>
   some ((⟨([] : List Copy), ([] : List (List UInt8)), ([] : List (List Int)), ([] : List Heal)⟩ : Vault), x1)
  else
   if (decide (100 < (recs.length : Int))) = true then
    lt (seal_fault 2 (-2)) fun x2 =>
    some ((⟨([] : List Copy), ([] : List (List UInt8)), ([] : List (List Int)), ([] : List Heal)⟩ : Vault), x2)
   else
    ob (seal_long recs) fun x3 =>
    if (decide (0 ≤ x3)) = true then
     lt (seal_fault 8 (-2)) fun x4 =>
     some ((⟨([] : List Copy), ([] : List (List UInt8)), ([] : List (List Int)), ([] : List Heal)⟩ : Vault), x4)
    else
     asrt (0 ≤ (num : Int) ∧ num ≤ num ∧ num * 48 ≤ 140737488351232) <|
     lt ((List.replicate num.toNat ((⟨0, false, ([] : List (List UInt8)), 0⟩ : Copy) : Copy))) fun (v : List Copy) =>
     seal_Play_v1_L1 deeds (v, ([] : List (List UInt8)), ([] : List (List Int)), ([] : List Heal), recs, 0)
theorem seal_Play_v1_ok {num recs deeds r} (hF : seal_Play_v1 num recs deeds = some r) : Pe Try.prog 22 S.none [.i num, .sl 1 (recs.map e_str), .sl 3 (deeds.map e_Deed)] (.tup [.agg (c_Vault r.1), .agg (c_Fault r.2)]) S.none := by
 refine PT 64 [.cell 6 46, .cell 7 29] [46, 29] Try.func22 ?_
 intro Q g hfin
 unfold seal_Play_v1 at hF
 refine VR [] [0, 1, 2, 6, 7] [6, 7] [] [] [(0, .i num), (1, .sl 1 (recs.map e_str)), (2, .sl 3 (deeds.map e_Deed)), (6, .ptr 6 0), (7, .ptr 7 0)] [(6, [.nils, .nils, .nils, .nils]), (7, [.i 0, .i 0])] [] [] .nil ?_
 refine Wk_nilrowBP 2 6 2 60000 54 1 rfl rfl rfl rfl rfl ?_
 refine Wk_nilrowBP 2 6 3 60001 58 6 rfl rfl rfl rfl rfl ?_
 refine Nblk ?_
 refine LR0 ?_
 refine Nif hF ?_ ?_ <;> intro hb hF
 ·obtain ⟨x, h0, hF⟩ := lS hF
  refine VR [.callB (.agg (c_Fault x))] [6, 7] [6, 7] [] [] [(6, .ptr 6 0), (7, .ptr 7 0)] [(6, [.nils, .nils, .nils, .nils]), (7, (c_Fault x))] [] [] (hc (seal_fault_ok h0) .nil) ?_
  refine Wk_nilrowBP 2 6 2 60002 54 1 rfl rfl rfl rfl rfl ?_
  refine Wk_nilrowBP 2 6 3 60003 58 6 rfl rfl rfl rfl rfl ?_
  refine L_freeze 60002 (zs := (([] : List (List Int)).map e_L_i64)) (.cons (okcL (f := o_L_i64) (fun _ => rfl) ([] : List (List Int))) (.cons (frzL (f := o_L_i64) (g := e_L_i64) (fun _ => rfl) ([] : List (List Int))) .nil)) (hk := ?_)
  refine L_freeze 60003 (zs := (([] : List Heal).map e_Heal)) (.cons (okcL (f := o_Heal) (fun _ => rfl) ([] : List Heal)) (.cons (frzL (f := o_Heal) (g := e_Heal) (fun _ => rfl) ([] : List Heal)) .nil)) (hk := ?_)
  cases hF
  exact Wz [] hfin
 ·refine RJ (.l e_Deed deeds .z) ?_
  refine Nif hF ?_ ?_ <;> intro hb hF
  ·obtain ⟨x1, h1, hF⟩ := lS hF
   refine VR [.callB (.agg (c_Fault x1))] [6, 7] [6, 7] [] [] [(6, .ptr 6 0), (7, .ptr 7 0)] [(6, [.nils, .nils, .nils, .nils]), (7, (c_Fault x1))] [] [] (hc (seal_fault_ok h1) .nil) ?_
   refine Wk_nilrowBP 2 6 2 60004 54 1 rfl rfl rfl rfl rfl ?_
   refine Wk_nilrowBP 2 6 3 60005 58 6 rfl rfl rfl rfl rfl ?_
   refine L_freeze 60004 (zs := (([] : List (List Int)).map e_L_i64)) (.cons (okcL (f := o_L_i64) (fun _ => rfl) ([] : List (List Int))) (.cons (frzL (f := o_L_i64) (g := e_L_i64) (fun _ => rfl) ([] : List (List Int))) .nil)) (hk := ?_)
   refine L_freeze 60005 (zs := (([] : List Heal).map e_Heal)) (.cons (okcL (f := o_Heal) (fun _ => rfl) ([] : List Heal)) (.cons (frzL (f := o_Heal) (g := e_Heal) (fun _ => rfl) ([] : List Heal)) .nil)) (hk := ?_)
   cases hF
   exact Wz [] hfin
  ·refine RJ (.l e_str recs .z) ?_
   refine Nif hF ?_ ?_ <;> intro hb hF
   ·obtain ⟨x2, h2, hF⟩ := lS hF
    refine VR [.callB (.agg (c_Fault x2))] [6, 7] [6, 7] [] [] [(6, .ptr 6 0), (7, .ptr 7 0)] [(6, [.nils, .nils, .nils, .nils]), (7, (c_Fault x2))] [] [] (hc (seal_fault_ok h2) .nil) ?_
    refine Wk_nilrowBP 2 6 2 60006 54 1 rfl rfl rfl rfl rfl ?_
    refine Wk_nilrowBP 2 6 3 60007 58 6 rfl rfl rfl rfl rfl ?_
    refine L_freeze 60006 (zs := (([] : List (List Int)).map e_L_i64)) (.cons (okcL (f := o_L_i64) (fun _ => rfl) ([] : List (List Int))) (.cons (frzL (f := o_L_i64) (g := e_L_i64) (fun _ => rfl) ([] : List (List Int))) .nil)) (hk := ?_)
    refine L_freeze 60007 (zs := (([] : List Heal).map e_Heal)) (.cons (okcL (f := o_Heal) (fun _ => rfl) ([] : List Heal)) (.cons (frzL (f := o_Heal) (g := e_Heal) (fun _ => rfl) ([] : List Heal)) .nil)) (hk := ?_)
    cases hF
    exact Wz [] hfin
   ·obtain ⟨x3, h3, hF⟩ := oE hF
    refine RJ (.b (seal_long_ok h3) .z) ?_
    refine Nif hF ?_ ?_ <;> intro hb hF
    ·obtain ⟨x4, h4, hF⟩ := lS hF
     refine VR [.callB (.agg (c_Fault x4))] [6, 7] [6, 7] [] [] [(6, .ptr 6 0), (7, .ptr 7 0)] [(6, [.nils, .nils, .nils, .nils]), (7, (c_Fault x4))] [] [] (hc (seal_fault_ok h4) .nil) ?_
     refine Wk_nilrowBP 2 6 2 60008 54 1 rfl rfl rfl rfl rfl ?_
     refine Wk_nilrowBP 2 6 3 60009 58 6 rfl rfl rfl rfl rfl ?_
     refine L_freeze 60008 (zs := (([] : List (List Int)).map e_L_i64)) (.cons (okcL (f := o_L_i64) (fun _ => rfl) ([] : List (List Int))) (.cons (frzL (f := o_L_i64) (g := e_L_i64) (fun _ => rfl) ([] : List (List Int))) .nil)) (hk := ?_)
     refine L_freeze 60009 (zs := (([] : List Heal).map e_Heal)) (.cons (okcL (f := o_Heal) (fun _ => rfl) ([] : List Heal)) (.cons (frzL (f := o_Heal) (g := e_Heal) (fun _ => rfl) ([] : List Heal)) .nil)) (hk := ?_)
     cases hF
     exact Wz [] hfin
    ·refine VR [] [0, 2, 6, 7, 8] [6, 7, 8] [60000, 60001] [] [(0, .i num), (2, .sl 3 (deeds.map e_Deed)), (6, .ptr 6 0), (7, .ptr 7 0), (8, .ptr 8 0)] [(6, [.nils, .nils, .row 60000 0, .row 60001 0]), (7, [.i 0, .i 0]), (8, [.nils, .nils, .nils, .nils, .sl 1 (recs.map e_str)])] [(60000, ⟨54, 1, 0, 0, 0, true, 2, [], (([] : List (List Int)).map o_L_i64)⟩), (60001, ⟨58, 6, 0, 0, 0, true, 2, [], (([] : List Heal).map o_Heal)⟩)] [] .nil ?_
     refine Wk_nilrowBP 2 8 2 60010 54 1 rfl rfl rfl rfl rfl ?_
     refine Wk_nilrowBP 2 8 3 60011 58 6 rfl rfl rfl rfl rfl ?_
     obtain ⟨h5, hF⟩ := aE hF
     refine NRL ((List.replicate num.toNat ((⟨0, false, ([] : List (List UInt8)), 0⟩ : Copy) : Copy))) (fun v : List Copy => ([], [(8, [.row 42 0, .nils, .row 60010 0, .row 60011 0, .sl 1 (recs.map e_str)])], [(42, .o 24 4 0 (v.map e_Copy))], [])) [.xs ((List.replicate num.toNat ((⟨0, false, ([] : List (List UInt8)), 0⟩ : Copy) : Copy)).map e_Copy)] [2, 6, 7, 8] [6, 7, 8] [42, 60000, 60001, 60010, 60011] [] (hc (mk_ok h5) (hc (rep_ok e_Copy num ((⟨0, false, ([] : List (List UInt8)), 0⟩ : Copy) : Copy)) .nil)) (fun v hv => ?_)
     have hF := lt_elim hF hv
     refine VR [.nat (deeds.length : Int)] [6, 7, 8, 45, 46, 47] [6, 7, 8] [42, 60000, 60001, 60010, 60011] [] [(6, .ptr 6 0), (7, .ptr 7 0), (8, .ptr 8 0), (45, .sl 3 (deeds.map e_Deed)), (46, .i (deeds.length : Int)), (47, .i 0)] [(6, [.nils, .nils, .row 60000 0, .row 60001 0]), (7, [.i 0, .i 0]), (8, [.row 42 0, .nils, .row 60010 0, .row 60011 0, .sl 1 (recs.map e_str)])] [(42, .o 24 4 0 (v.map e_Copy)), (60000, ⟨54, 1, 0, 0, 0, true, 2, [], (([] : List (List Int)).map o_L_i64)⟩), (60001, ⟨58, 6, 0, 0, 0, true, 2, [], (([] : List Heal).map o_Heal)⟩), (60010, ⟨54, 1, 0, 0, 0, true, 2, [], (([] : List (List Int)).map o_L_i64)⟩), (60011, ⟨58, 6, 0, 0, 0, true, 2, [], (([] : List Heal).map o_Heal)⟩)] [] (hc (len_ok e_Deed deeds) .nil) ?_
     refine NmS (fun v1 => seal_Play_v1_J1 v1 = some r) (fun Z v1 => Z.up [6, 7, 8] [6, 7, 8] [42, 53, 60000, 60001, 60010, 60011] [] [] [(8, [.row 42 0, .row 53 0, .row 60010 0, .row 60011 0, .sl 1 (v1.2.2.2.2.map e_str)])] [(42, .o 24 4 0 (v1.1.map e_Copy)), (53, .z 9 1 0 (v1.2.1.map e_str)), (60010, ⟨54, 1, 0, 0, 0, true, 2, [], (v1.2.2.1.map o_L_i64)⟩), (60011, ⟨58, 6, 0, 0, 0, true, 2, [], (v1.2.2.2.1.map o_Heal)⟩)] []) ?_ ?_
     ·refine Nblk ?_
      unfold seal_Play_v1_L1 at hF
      refine Wk_nilrowB 8 1 60012 9 1 rfl rfl rfl rfl rfl ?_
      refine Wk_trim (fs := [6, 7, 8, 45, 46, 47]) (bs := [6, 7, 8]) (rs := [42, 60000, 60001, 60010, 60011, 60012]) (ms := []) (aa := []) (nv := []) rfl ?_
      refine Wk_ren' ⟨[], [(60012, 53)], [], []⟩ rfl ?_
      refine Nitr hF [] (fun v2 => ⟨[(6, .ptr 6 0), (7, .ptr 7 0), (8, .ptr 8 0), (45, .sl 3 (deeds.map e_Deed)), (46, .i (deeds.length : Int)), (47, .i v2.2.2.2.2.2)], [(6, [.nils, .nils, .row 60000 0, .row 60001 0]), (7, [.i 0, .i 0]), (8, [.row 42 0, .row 53 0, .row 60010 0, .row 60011 0, .sl 1 (v2.2.2.2.2.1.map e_str)])], [(42, .o 24 4 0 (v2.1.map e_Copy)), (53, .z 9 1 0 (v2.2.1.map e_str)), (60000, ⟨54, 1, 0, 0, 0, true, 2, [], (([] : List (List Int)).map o_L_i64)⟩), (60001, ⟨58, 6, 0, 0, 0, true, 2, [], (([] : List Heal).map o_Heal)⟩), (60010, ⟨54, 1, 0, 0, 0, true, 2, [], (v2.2.2.1.map o_L_i64)⟩), (60011, ⟨58, 6, 0, 0, 0, true, 2, [], (v2.2.2.2.1.map o_Heal)⟩)], [], []⟩) ?_
      intro n1 v2 y1 hF ih1 dn1
      unfold seal_Play_v1_B1 at hF
      refine LR0 ?_
      refine Nif hF ?_ ?_ <;> intro hb hF
      ·refine Nblk ?_
       obtain ⟨h6, hF⟩ := aE hF
       refine RJ (.i e_Deed h6 .z) ?_
       obtain ⟨x5, h7, hF⟩ := oE hF
       have p8 := (Pe.ren (seal_vault_does_v1_ok 0 0 false 0 0 true 0 0 true 0 0 true h7) ⟨[(100000, 8)], [(100000, 42), (100001, 53), (100002, 60010), (100003, 60011)], [], []⟩)
       refine RJ (.e [8] [42, 53, 60010, 60011] p8 .z) ?_
       refine LR0 ?_
       refine Nif hF ?_ ?_ <;> intro hb hF
       ·obtain ⟨x6, h9, hF⟩ := lS hF
        refine VR [.callB (.agg (c_Fault x6))] [6, 7] [6, 7] [] [] [(6, .ptr 6 0), (7, .ptr 7 0)] [(6, [.nils, .nils, .nils, .nils]), (7, (c_Fault x6))] [] [] (hc (seal_fault_ok h9) .nil) ?_
        refine Wk_nilrowBP 2 6 2 60013 54 1 rfl rfl rfl rfl rfl ?_
        refine Wk_nilrowBP 2 6 3 60014 58 6 rfl rfl rfl rfl rfl ?_
        refine L_freeze 60013 (zs := (([] : List (List Int)).map e_L_i64)) (.cons (okcL (f := o_L_i64) (fun _ => rfl) ([] : List (List Int))) (.cons (frzL (f := o_L_i64) (g := e_L_i64) (fun _ => rfl) ([] : List (List Int))) .nil)) (hk := ?_)
        refine L_freeze 60014 (zs := (([] : List Heal).map e_Heal)) (.cons (okcL (f := o_Heal) (fun _ => rfl) ([] : List Heal)) (.cons (frzL (f := o_Heal) (g := e_Heal) (fun _ => rfl) ([] : List Heal)) .nil)) (hk := ?_)
        have hF := ret_done hF dn1
        cases hF
        exact Wz [] hfin
       ·refine LR0 ?_
        exact Nrnq [(53, ⟨0, true, true, false⟩), (60010, ⟨0, true, true, false⟩), (60011, ⟨0, true, true, false⟩)] hF ih1
      ·refine Nexit rfl ?_
       have hF := inrO_done hF dn1
       exact metQ (v2.1, v2.2.1, v2.2.2.1, v2.2.2.2.1, v2.2.2.2.2.1) [] hF
     ·intro v1 hF
      unfold seal_Play_v1_J1 at hF
      refine LR0 ?_
      refine L_freeze 60010 (zs := (v1.2.2.1.map e_L_i64)) (.cons (okcL (f := o_L_i64) (fun _ => rfl) v1.2.2.1) (.cons (frzL (f := o_L_i64) (g := e_L_i64) (fun _ => rfl) v1.2.2.1) .nil)) (hk := ?_)
      refine L_freeze 60011 (zs := (v1.2.2.2.1.map e_Heal)) (.cons (okcL (f := o_Heal) (fun _ => rfl) v1.2.2.2.1) (.cons (frzL (f := o_Heal) (g := e_Heal) (fun _ => rfl) v1.2.2.2.1) .nil)) (hk := ?_)
      cases hF
      exact Wz [] hfin

/- seal.Sure -/
def seal_Sure_J1 (v : Vault) (v1 : Unit) : Option (Int × Fault) :=
 some ((v.Took.length : Int), (⟨0, 0⟩ : Fault))
def seal_Sure_B1 (v : Vault) (v2 : Int) : Option (Int ⊕ (Int × Fault)) :=
 if (decide (v2 < (v.Took.length : Int))) = true then
  asrt (0 ≤ v2 ∧ v2 < (v.Took.length : Int)) <|
  if (decide ((w64 (2 * ((lget v.Took v2).length : Int))) ≤ (v.Copies.length : Int))) = true then
   some (Sum.inr (v2, (⟨0, 0⟩ : Fault)))
  else
   some (Sum.inl (w64 (v2 + 1)))
 else
  inrO (seal_Sure_J1 v ())
def seal_Sure_L1 (v : Vault) (v0 : Int) : Option (Int × Fault) :=
 loopO (fun y => seal_Sure_B1 v y) v0
def seal_Sure (v : Vault) : Option (Int × Fault) :=
 if (!decide ((v.Wrote.length : Int) = (v.Took.length : Int))) = true then
  lt (seal_fault 5 0) fun x =>
  some (0, x)
 else
  seal_Sure_L1 v 0
theorem seal_Sure_ok {v r} (hF : seal_Sure v = some r) : Pe Try.prog 25 S.none [.agg (c_Vault v)] (.tup [.i r.1, .agg (c_Fault r.2)]) S.none := by
 refine PT 36 [.tmp 2, .cell 3 29] [3, 29] Try.func25 ?_
 intro Q g hfin
 unfold seal_Sure at hF
 refine LR0 ?_
 refine RJ (.l e_str v.Wrote (.l e_L_i64 v.Took .z)) ?_
 refine Nif hF ?_ ?_ <;> intro hb hF
 ·obtain ⟨x, h0, hF⟩ := lS hF
  refine RJ (.b (seal_fault_ok h0) .z) ?_
  cases hF
  exact Wz [] hfin
 ·refine RJ (.l e_L_i64 v.Took .z) ?_
  refine NmS (fun v1 => seal_Sure_J1 v v1 = some r) (fun Z v1 => Z.up [1, 3] [1, 3] [] [] [] [] [] []) ?_ ?_
  ·refine Nblk ?_
   unfold seal_Sure_L1 at hF
   refine Nits hF [] (fun Z v2 => Z.up [1, 3, 15, 16, 17] [1, 3] [] [] [(17, .i v2)] [] [] []) ?_
   intro n1 v2 y1 hF ih1 dn1
   unfold seal_Sure_B1 at hF
   refine LR0 ?_
   refine Nif hF ?_ ?_ <;> intro hb hF
   ·refine Nblk ?_
    obtain ⟨h1, hF⟩ := aE hF
    refine RJ (.i e_L_i64 h1 .z) ?_
    refine RJ (.l e_i64 (lget v.Took v2) (.l e_Copy v.Copies .z)) ?_
    refine Nif hF ?_ ?_ <;> intro hb hF
    ·refine LR0 ?_
     have hF := ret_done hF dn1
     cases hF
     exact Wz [] hfin
    ·refine LR0 ?_
     exact Nrnq [] hF ih1
   ·refine Nexit rfl ?_
    have hF := inrO_done hF dn1
    exact metQ () [] hF
  ·intro v1 hF
   unfold seal_Sure_J1 at hF
   refine RJ (.l e_L_i64 v.Took .z) ?_
   cases hF
   exact Wz [] hfin

/- tabularyref.SameTexts -/
def R_SameTexts_J1 (v : Unit) : Option Bool :=
 some true
def R_SameTexts_B1 (a0 b : List (List UInt8)) (v1 : Int) : Option (Int ⊕ Bool) :=
 if (decide (v1 < (a0.length : Int))) = true then
  asrt (0 ≤ v1 ∧ v1 < (a0.length : Int)) <|
  asrt (0 ≤ v1 ∧ v1 < (b.length : Int)) <|
  if (!decide ((lget a0 v1) = (lget b v1))) = true then
   some (Sum.inr false)
  else
   some (Sum.inl (w64 (v1 + 1)))
 else
  inrO (R_SameTexts_J1 ())
def R_SameTexts_L1 (a0 b : List (List UInt8)) (v0 : Int) : Option Bool :=
 loopO (fun y => R_SameTexts_B1 a0 b y) v0
def R_SameTexts (a0 b : List (List UInt8)) : Option Bool :=
 if (!decide ((a0.length : Int) = (b.length : Int))) = true then
  some false
 else
  R_SameTexts_L1 a0 b 0
theorem R_SameTexts_ok {a0 b r} (hF : R_SameTexts a0 b = some r) : Pe Try.prog 15 S.none [.sl 1 (a0.map e_str), .sl 1 (b.map e_str)] (.bool r) S.none := by
 refine PT 26 [.tmp 4] [4] Try.func15 ?_
 intro Q g hfin
 unfold R_SameTexts at hF
 refine LR0 ?_
 refine RJ (.l e_str a0 (.l e_str b .z)) ?_
 refine Nif hF ?_ ?_ <;> intro hb hF
 ·refine LR0 ?_
  cases hF
  exact Wz [] hfin
 ·refine LR0 ?_
  refine NmQ (fun v => R_SameTexts_J1 v = some r) (fun v => (.w [])) ?_ ?_
  ·refine Nblk ?_
   unfold R_SameTexts_L1 at hF
   refine Nits hF [] (fun Z v1 => Z.up [0, 1, 5] [] [] [] [(5, .i v1)] [] [] []) ?_
   intro n1 v1 y1 hF ih1 dn1
   unfold R_SameTexts_B1 at hF
   refine RJ (.l e_str a0 .z) ?_
   refine Nif hF ?_ ?_ <;> intro hb hF
   ·refine Nblk ?_
    obtain ⟨h0, h1, hF⟩ := asrt2 hF
    refine DJ (.i e_str h0 (.i e_str h1 .z)) ?_
    refine Nif hF ?_ ?_ <;> intro hb hF
    ·refine LR0 ?_
     have hF := ret_done hF dn1
     cases hF
     exact Wz [] hfin
    ·refine LR0 ?_
     exact Nrnq [] hF ih1
   ·refine Nexit rfl ?_
    have hF := inrO_done hF dn1
    exact metQ () [] hF
  ·intro v hF
   unfold R_SameTexts_J1 at hF
   refine LR0 ?_
   cases hF
   exact Wz [] hfin

/- tabularylaw.sealBegun -/
def law_sealBegun  : Option Bool :=
 ob (seal_Play_v1 3 ([([97] : List UInt8)] : List (List UInt8)) [(⟨0, 0, 0⟩ : Deed), (⟨1, 0, 0⟩ : Deed), (⟨1, 1, 0⟩ : Deed), (⟨2, 0, 5⟩ : Deed), (⟨3, 2, 0⟩ : Deed), (⟨3, 1, 0⟩ : Deed), (⟨4, 0, 0⟩ : Deed)]) fun x =>
 ob (seal_Sure x.1) fun x1 =>
 asrt (((((decide (x.2.Code = 0)) && (decide (x1.2.Code = 0))) && (decide (x1.1 = 1))) && (decide ((x.1.Heals.length : Int) = 1))) = true → 0 ≤ (0 : Int) ∧ 0 < (x.1.Heals.length : Int)) <|
 asrt ((((((decide (x.2.Code = 0)) && (decide (x1.2.Code = 0))) && (decide (x1.1 = 1))) && (decide ((x.1.Heals.length : Int) = 1))) && ((lget x.1.Heals 0).Has)) = true → 0 ≤ (0 : Int) ∧ 0 < (x.1.Heals.length : Int)) <|
 ob (if (((((decide (x.2.Code = 0)) && (decide (x1.2.Code = 0))) && (decide (x1.1 = 1))) && (decide ((x.1.Heals.length : Int) = 1))) && ((lget x.1.Heals 0).Has)) = true then (R_SameTexts ((lget x.1.Heals 0).Recs) ([([97] : List UInt8)] : List (List UInt8))) else some default) fun x2 =>
 lt ((((((decide (x.2.Code = 0)) && (decide (x1.2.Code = 0))) && (decide (x1.1 = 1))) && (decide ((x.1.Heals.length : Int) = 1))) && ((lget x.1.Heals 0).Has)) && x2) fun v =>
 some v
theorem law_sealBegun_ok { r} (hF : law_sealBegun  = some r) : Pe Try.prog 7 S.none [] (.bool r) S.none := by
 refine PT 57 [.tmp 0] [4] Try.func7 ?_
 intro Q g hfin
 unfold law_sealBegun at hF
 refine LR0 ?_
 obtain ⟨x, h0, hF⟩ := oE hF
 refine RJ (.a (.sealed) (.a (.sealed) (.c (seal_Play_v1_ok h0) .z))) ?_
 obtain ⟨x1, h1, hF⟩ := oE hF
 refine RJ (.b (seal_Sure_ok h1) .z) ?_
 obtain ⟨h2, h3, hF⟩ := asrt2 hF
 obtain ⟨x2, h4, hF⟩ := oE hF
 refine NRL ((((((decide (x.2.Code = 0)) && (decide (x1.2.Code = 0))) && (decide (x1.1 = 1))) && (decide ((x.1.Heals.length : Int) = 1))) && ((lget x.1.Heals 0).Has)) && x2) (fun v : Bool => ([(0, .bool v)], [], [], [])) [.nat (x.1.Heals.length : Int), .av (e_Heal (lget x.1.Heals 0)), .av (e_Heal (lget x.1.Heals 0)), .sealed, .callB (.bool x2)] [0] [] [] [] (hc (fun (_ : (((decide (x.2.Code = 0)) && (decide (x1.2.Code = 0))) && (decide (x1.1 = 1))) = true) => (len_ok e_Heal x.1.Heals)) (hc (fun (ga0 : ((((decide (x.2.Code = 0)) && (decide (x1.2.Code = 0))) && (decide (x1.1 = 1))) && (decide ((x.1.Heals.length : Int) = 1))) = true) => (idx_ok e_Heal (h2 ga0))) (hc (fun (ga0 : (((((decide (x.2.Code = 0)) && (decide (x1.2.Code = 0))) && (decide (x1.1 = 1))) && (decide ((x.1.Heals.length : Int) = 1))) && ((lget x.1.Heals 0).Has)) = true) => (idx_ok e_Heal (h3 ga0))) (hc (fun (ga0 : (((((decide (x.2.Code = 0)) && (decide (x1.2.Code = 0))) && (decide (x1.1 = 1))) && (decide ((x.1.Heals.length : Int) = 1))) && ((lget x.1.Heals 0).Has)) = true) => (R_SameTexts_ok (ite_t h4 ga0))) .nil)))) (fun v hv => ?_)
 have hF := lt_elim hF hv
 cases hF
 exact Wz [] hfin

/- tabularylaw.ownTexts -/
def law_ownTexts (l : List (List UInt8)) : Option (List (List UInt8)) :=
 asrt ((l.length : Int) * 16 ≤ 140737488351232) <|
 some l
theorem law_ownTexts_ok {l r} (hF : law_ownTexts l = some r) : Pe Try.prog 9 (.w []) [.sl 1 (l.map e_str)] (.row 4 1) ⟨[], [], [(4, .z 9 1 1 (r.map e_str))], [], []⟩ := by
 refine PT 5 [.tmp 2] [22] Try.func9 ?_
 intro Q g hfin
 unfold law_ownTexts at hF
 refine LR0 ?_
 obtain ⟨h0, hF⟩ := aE hF
 refine RJ (.p0 e_str h0 .z) ?_
 cases hF
 exact Wz [] hfin

/- tabularylaw.ownTexts -/
def law_ownTexts_v1 (l : List (List UInt8)) : Option (List (List UInt8)) :=
 asrt ((l.length : Int) * 16 ≤ 140737488351232) <|
 some l
theorem law_ownTexts_v1_ok {l r} (hF : law_ownTexts_v1 l = some r) : Pe Try.prog 9 S.none [.sl 1 (l.map e_str)] (.sl 1 (r.map e_str)) S.none := by
 refine PT 5 [.tmp 2] [22] Try.func9 ?_
 intro Q g hfin
 unfold law_ownTexts_v1 at hF
 refine LR0 ?_
 obtain ⟨h0, hF⟩ := aE hF
 refine RJ (.p0 e_str h0 .z) ?_
 cases hF
 exact Wz [] hfin

/- tabularylaw.ownCopy -/
def law_ownCopy (c : Copy) : Option Copy :=
 ob (law_ownTexts_v1 c.Recs) fun x =>
 some (⟨c.Epoch, c.Closed, x, c.Ended⟩ : Copy)
theorem law_ownCopy_ok {c r} (hF : law_ownCopy c = some r) : Pe Try.prog 8 S.none [.agg (c_Copy c)] (.agg (c_Copy r)) S.none := by
 refine PT 8 [.cell 2 24] [24] Try.func8 ?_
 intro Q g hfin
 unfold law_ownCopy at hF
 refine LR0 ?_
 obtain ⟨x, h0, hF⟩ := oE hF
 refine RJ (.c (law_ownTexts_v1_ok h0) .z) ?_
 refine LR0 ?_
 cases hF
 exact Wz [] hfin

/- seal.Append -/
def seal_Append_v1 (c : Copy) (epoch at0 : Int) (rec0 : List UInt8) : Option (Copy × Fault) :=
 ob (seal_may c epoch) fun x =>
 ob (
  if (decide (x.Code = 0)) = true then
   lt (seal_stale c epoch) fun x1 =>
   some x1
  else
   some x) fun v =>
 ob (
  if (!decide (v.Code = 0)) = true then
   some v
  else
   if c.Closed = true then
    lt (seal_fault 11 (-2)) fun x2 =>
    some x2
   else
    if (decide (200 < (rec0.length : Int))) = true then
     lt (seal_fault 8 (-2)) fun x3 =>
     some x3
    else
     if ((decide (at0 < 0)) || (decide ((c.Recs.length : Int) < at0))) = true then
      lt (seal_fault 3 (-2)) fun x4 =>
      some x4
     else
      asrt ((decide (at0 < (c.Recs.length : Int))) = true → 0 ≤ at0 ∧ at0 < (c.Recs.length : Int)) <|
      if ((decide (at0 < (c.Recs.length : Int))) && (!decide ((lget c.Recs at0) = rec0))) = true then
       lt (seal_fault 7 (-2)) fun x5 =>
       some x5
      else
       if (decide (at0 = 100)) = true then
        lt (seal_fault 2 (-2)) fun x6 =>
        some x6
       else
        some v) fun (v1 : Fault) =>
 if (!decide (v1.Code = 0)) = true then
  some ((⟨0, false, ([] : List (List UInt8)), 0⟩ : Copy), v1)
 else
  ob (seal_own c epoch) fun x7 =>
  ob (
   if (decide (at0 = (c.Recs.length : Int))) = true then
    asrt (((x7.2.2.1 ++ ([rec0] : List (List UInt8))).length : Int) * 16 ≤ 140737488351232) <|
    some (x7.2.2.1 ++ ([rec0] : List (List UInt8)))
   else
    some x7.2.2.1) fun v2 =>
  some ((⟨x7.1, x7.2.1, v2, x7.2.2.2⟩ : Copy), v1)
theorem seal_Append_v1_ok {c epoch at0 rec0 r} (hF : seal_Append_v1 c epoch at0 rec0 = some r) : Pe Try.prog 11 S.none [.agg (c_Copy c), .i epoch, .i at0, .str rec0] (.tup [.agg (c_Copy r.1), .agg (c_Fault r.2)]) S.none := by
 refine PT 83 [.cell 8 24, .cell 9 29] [24, 29] Try.func11 ?_
 intro Q g hfin
 unfold seal_Append_v1 at hF
 refine LR0 ?_
 obtain ⟨x, h0, hF⟩ := oE hF
 refine RJ (.b (seal_may_ok h0) .z) ?_
 refine LR0 ?_
 obtain ⟨v, hv, hF⟩ := oE hF
 refine NmT (fun Z => Z.up [1, 2, 3, 4, 8, 9, 10] [4, 8, 9, 10] [] [] [] [(10, (c_Fault v))] [] []) ?_ ?_
 ·have hF := hv
  refine Nif hF ?_ ?_ <;> intro hb hF
  ·obtain ⟨x1, h1, hF⟩ := lS hF
   refine RJ (.b (seal_stale_ok h1) .z) ?_
   cases hF
   exact met' []
  ·cases hF
   exact met' []
 ·refine RJ (.l e_str c.Recs .z) ?_
  refine Nblk ?_
  refine LR0 ?_
  obtain ⟨v1, hv, hF⟩ := oE hF
  refine NmT (fun Z => Z.up [1, 2, 3, 4, 8, 9, 10, 11] [4, 8, 9, 10] [] [] [] [(10, (c_Fault v1))] [] []) ?_ ?_
  ·have hF := hv
   refine Nif hF ?_ ?_ <;> intro hb hF
   ·cases hF
    exact met' []
   ·refine LR0 ?_
    refine Nif hF ?_ ?_ <;> intro hb hF
    ·obtain ⟨x2, h2, hF⟩ := lS hF
     refine RJ (.b (seal_fault_ok h2) .z) ?_
     cases hF
     exact met' []
    ·refine LR0 ?_
     refine Nif hF ?_ ?_ <;> intro hb hF
     ·obtain ⟨x3, h3, hF⟩ := lS hF
      refine RJ (.b (seal_fault_ok h3) .z) ?_
      cases hF
      exact met' []
     ·refine LR0 ?_
      refine Nif hF ?_ ?_ <;> intro hb hF
      ·obtain ⟨x4, h4, hF⟩ := lS hF
       refine RJ (.b (seal_fault_ok h4) .z) ?_
       cases hF
       exact met' []
      ·obtain ⟨h5, hF⟩ := aE hF
       refine RJ (.a (.av (e_str (lget c.Recs at0))) (.g (fun (ga0 : (decide (at0 < (c.Recs.length : Int))) = true) => (idx_ok e_str (h5 ga0))) .z)) ?_
       refine Nif hF ?_ ?_ <;> intro hb hF
       ·obtain ⟨x5, h6, hF⟩ := lS hF
        refine RJ (.b (seal_fault_ok h6) .z) ?_
        cases hF
        exact met' []
       ·refine LR0 ?_
        refine Nif hF ?_ ?_ <;> intro hb hF
        ·obtain ⟨x6, h7, hF⟩ := lS hF
         refine RJ (.b (seal_fault_ok h7) .z) ?_
         cases hF
         exact met' []
        ·cases hF
         exact met' []
  ·refine LR0 ?_
   refine Nif hF ?_ ?_ <;> intro hb hF
   ·refine LD0 ?_
    cases hF
    exact Wz [] hfin
   ·obtain ⟨x7, h8, hF⟩ := oE hF
    have p9 := (Pe.ren (seal_own_ok h8) ⟨[], [(8, 71)], [], []⟩)
    refine RJ (.e [] [] p9 .z) ?_
    refine LR0 ?_
    obtain ⟨v2, hv, hF⟩ := oE hF
    refine NmT (fun Z => Z.up [4, 8, 9, 10] [4, 8, 9, 10] [71] [] [] [] [(71, .o 9 1 0 (v2.map e_str))] []) ?_ ?_
    ·have hF := hv
     refine Nif hF ?_ ?_ <;> intro hb hF
     ·obtain ⟨h10, hF⟩ := aE hF
      refine RJ (.a (.sealed) (.p e_str h10 .z)) ?_
      cases hF
      exact met' [(71, ⟨0, true, true, false⟩)]
     ·cases hF
      exact met' []
    ·refine LD0 ?_
     cases hF
     exact Wz [] hfin

end
end G
end Go.Proofs.Yteckapomkemglaa
