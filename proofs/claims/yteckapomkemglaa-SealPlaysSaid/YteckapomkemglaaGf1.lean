/- The program's functions as plain functions, and that they are these. Written by a program (dec2.py). -/
import Derived.Test.YteckapomkemglaaGf0
namespace Go.Proofs.Yteckapomkemglaa
open Go Go.Dm
set_option linter.unusedVariables false
set_option linter.unusedSimpArgs false
set_option maxRecDepth 100000
namespace G
noncomputable section
/- seal.Close -/
def seal_Close_v1 (c : Copy) (epoch : Int) : Option (Copy × Fault) :=
 ob (seal_may c epoch) fun x =>
 ob (
  if (decide (x.Code = 0)) = true then
   lt (seal_stale c epoch) fun x1 =>
   some x1
  else
   some x) fun v =>
 if (!decide (v.Code = 0)) = true then
  some ((⟨0, false, ([] : List (List UInt8)), 0⟩ : Copy), v)
 else
  ob (seal_own c epoch) fun x2 =>
  some ((⟨x2.1, true, x2.2.2.1, x2.2.2.2⟩ : Copy), v)
theorem seal_Close_v1_ok {c epoch r} (hF : seal_Close_v1 c epoch = some r) : Pe Try.prog 12 S.none [.agg (c_Copy c), .i epoch] (.tup [.agg (c_Copy r.1), .agg (c_Fault r.2)]) S.none := by
 refine PT 27 [.cell 4 24, .cell 5 29] [24, 29] Try.func12 ?_
 intro Q g hfin
 unfold seal_Close_v1 at hF
 refine LR0 ?_
 obtain ⟨x, h0, hF⟩ := oE hF
 refine RJ (.b (seal_may_ok h0) .z) ?_
 refine LR0 ?_
 obtain ⟨v, hv, hF⟩ := oE hF
 refine NmT (fun Z => Z.up [1, 2, 4, 5, 6] [2, 4, 5, 6] [] [] [] [(6, (c_Fault v))] [] []) ?_ ?_
 ·have hF := hv
  refine Nif hF ?_ ?_ <;> intro hb hF
  ·obtain ⟨x1, h1, hF⟩ := lS hF
   refine RJ (.b (seal_stale_ok h1) .z) ?_
   cases hF
   exact met' []
  ·cases hF
   exact met' []
 ·refine LR0 ?_
  refine Nif hF ?_ ?_ <;> intro hb hF
  ·refine LD0 ?_
   cases hF
   exact Wz [] hfin
  ·obtain ⟨x2, h2, hF⟩ := oE hF
   have p3 := (Pe.ren (seal_own_ok h2) ⟨[], [(8, 23)], [], []⟩)
   refine RJ (.e [] [] p3 .z) ?_
   refine LR0 ?_
   refine LD0 ?_
   cases hF
   exact Wz [] hfin

/- seal.End -/
def seal_End_v1 (c : Copy) (epoch : Int) (recs : List (List UInt8)) : Option (Copy × Fault) :=
 ob (seal_may c epoch) fun x =>
 ob (
  if ((decide (x.Code = 0)) && (decide (100 < (recs.length : Int)))) = true then
   lt (seal_fault 2 (-2)) fun x1 =>
   some x1
  else
   some x) fun (v : Fault) =>
 ob (seal_long recs) fun x2 =>
 ob (
  if ((decide (v.Code = 0)) && (decide (0 ≤ x2))) = true then
   lt (seal_fault 8 x2) fun x3 =>
   some x3
  else
   some v) fun v1 =>
 ob (
  if (decide (v1.Code = 0)) = true then
   lt (seal_stale c epoch) fun x4 =>
   some x4
  else
   some v1) fun v2 =>
 if (!decide (v2.Code = 0)) = true then
  some ((⟨0, false, ([] : List (List UInt8)), 0⟩ : Copy), v2)
 else
  ob (slices_Clone_string_string recs) fun x5 =>
  some ((⟨epoch, true, x5, epoch⟩ : Copy), v2)
theorem seal_End_v1_ok {c epoch recs r} (hF : seal_End_v1 c epoch recs = some r) : Pe Try.prog 13 S.none [.agg (c_Copy c), .i epoch, .sl 1 (recs.map e_str)] (.tup [.agg (c_Copy r.1), .agg (c_Fault r.2)]) S.none := by
 refine PT 50 [.cell 6 24, .cell 7 29] [24, 29] Try.func13 ?_
 intro Q g hfin
 unfold seal_End_v1 at hF
 refine LR0 ?_
 obtain ⟨x, h0, hF⟩ := oE hF
 refine RJ (.b (seal_may_ok h0) .z) ?_
 refine RJ (.a (.nat (recs.length : Int)) (.g (fun (_ : (decide (x.Code = 0)) = true) => (len_ok e_str recs)) .z)) ?_
 obtain ⟨v, hv, hF⟩ := oE hF
 refine NmT (fun Z => Z.up [1, 2, 3, 6, 7, 8] [3, 6, 7, 8] [] [] [] [(8, (c_Fault v))] [] []) ?_ ?_
 ·have hF := hv
  refine Nif hF ?_ ?_ <;> intro hb hF
  ·obtain ⟨x1, h1, hF⟩ := lS hF
   refine RJ (.b (seal_fault_ok h1) .z) ?_
   cases hF
   exact met' []
  ·cases hF
   exact met' []
 ·obtain ⟨x2, h2, hF⟩ := oE hF
  refine RJ (.b (seal_long_ok h2) .z) ?_
  refine LR0 ?_
  obtain ⟨v1, hv, hF⟩ := oE hF
  refine NmT (fun Z => Z.up [1, 2, 3, 6, 7, 8] [3, 6, 7, 8] [] [] [] [(8, (c_Fault v1))] [] []) ?_ ?_
  ·have hF := hv
   refine Nif hF ?_ ?_ <;> intro hb hF
   ·obtain ⟨x3, h3, hF⟩ := lS hF
    refine RJ (.b (seal_fault_ok h3) .z) ?_
    cases hF
    exact met' []
   ·cases hF
    exact met' []
  ·refine LR0 ?_
   obtain ⟨v2, hv, hF⟩ := oE hF
   refine NmT (fun Z => Z.up [1, 2, 6, 7, 8] [6, 7, 8] [] [] [] [(8, (c_Fault v2))] [] []) ?_ ?_
   ·have hF := hv
    refine Nif hF ?_ ?_ <;> intro hb hF
    ·obtain ⟨x4, h4, hF⟩ := lS hF
     refine RJ (.b (seal_stale_ok h4) .z) ?_
     cases hF
     exact met' []
    ·cases hF
     exact met' []
   ·refine LR0 ?_
    refine Nif hF ?_ ?_ <;> intro hb hF
    ·refine LD0 ?_
     cases hF
     exact Wz [] hfin
    ·obtain ⟨x5, h5, hF⟩ := oE hF
     have p6 := (Pe.ren (slices_Clone_string_string_ok h5) ⟨[], [(5, 46)], [], []⟩)
     refine DJ (.e [] [] p6 .z) ?_
     cases hF
     exact Wz [] hfin

/- tabularyref.SameCopy -/
def R_SameCopy (a0 b : Copy) : Option Bool :=
 ob (if (((decide (a0.Epoch = b.Epoch)) && (a0.Closed == b.Closed)) && (decide (a0.Ended = b.Ended))) = true then (R_SameTexts a0.Recs b.Recs) else some default) fun x =>
 lt ((((decide (a0.Epoch = b.Epoch)) && (a0.Closed == b.Closed)) && (decide (a0.Ended = b.Ended))) && x) fun v =>
 some v
theorem R_SameCopy_ok {a0 b r} (hF : R_SameCopy a0 b = some r) : Pe Try.prog 14 S.none [.agg (c_Copy a0), .agg (c_Copy b)] (.bool r) S.none := by
 refine PT 31 [.tmp 4] [4] Try.func14 ?_
 intro Q g hfin
 unfold R_SameCopy at hF
 refine LR0 ?_
 obtain ⟨x, h0, hF⟩ := oE hF
 refine NRL ((((decide (a0.Epoch = b.Epoch)) && (a0.Closed == b.Closed)) && (decide (a0.Ended = b.Ended))) && x) (fun v : Bool => ([(4, .bool v)], [], [], [])) [.callB (.bool x)] [4] [] [] [] (hc (fun (ga0 : (((decide (a0.Epoch = b.Epoch)) && (a0.Closed == b.Closed)) && (decide (a0.Ended = b.Ended))) = true) => (R_SameTexts_ok (ite_t h0 ga0))) .nil) (fun v hv => ?_)
 have hF := lt_elim hF hv
 cases hF
 exact Wz [] hfin

/- tabularyref.Num -/
def R_Num (num : Int) : Bool :=
 (decide (0 ≤ num)) && (decide (num ≤ 1000000000))
theorem R_Num_ok {num r} (hF : R_Num num = r) : Pe Try.prog 37 S.none [.i num] (.bool r) S.none := by
 refine PT 9 [.tmp 2] [4] Try.func37 ?_
 intro Q g hfin
 unfold R_Num at hF
 refine LR0 ?_
 refine LR0 ?_
 cases hF
 exact Wz [] hfin

/- tabularyref.F -/
def R_F (code at0 : Int) : Fault :=
 (⟨code, at0⟩ : Fault)
theorem R_F_ok {code at0 r} (hF : R_F code at0 = r) : Pe Try.prog 26 S.none [.i code, .i at0] (.agg (c_Fault r)) S.none := by
 refine PT 8 [.cell 4 29] [29] Try.func26 ?_
 intro Q g hfin
 unfold R_F at hF
 refine LR0 ?_
 refine LR0 ?_
 cases hF
 exact Wz [] hfin

/- tabularyref.TooLong -/
def R_TooLong_J1 (v : Unit) : Option Int :=
 some (-1)
def R_TooLong_B1 (l : List (List UInt8)) (v1 : Int) : Option (Int ⊕ Int) :=
 if (decide (v1 < (l.length : Int))) = true then
  asrt (0 ≤ v1 ∧ v1 < (l.length : Int)) <|
  if (decide (200 < ((lget l v1).length : Int))) = true then
   some (Sum.inr v1)
  else
   some (Sum.inl (w64 (v1 + 1)))
 else
  inrO (R_TooLong_J1 ())
def R_TooLong_L1 (l : List (List UInt8)) (v0 : Int) : Option Int :=
 loopO (fun y => R_TooLong_B1 l y) v0
def R_TooLong (l : List (List UInt8)) : Option Int :=
 R_TooLong_L1 l 0
theorem R_TooLong_ok {l r} (hF : R_TooLong l = some r) : Pe Try.prog 36 S.none [.sl 1 (l.map e_str)] (.i r) S.none := by
 refine PT 17 [.tmp 2] [3] Try.func36 ?_
 intro Q g hfin
 unfold R_TooLong at hF
 refine LR0 ?_
 refine LR0 ?_
 refine NmQ (fun v => R_TooLong_J1 v = some r) (fun v => (.w [])) ?_ ?_
 ·refine Nblk ?_
  unfold R_TooLong_L1 at hF
  refine Nits hF [] (fun Z v1 => Z.up [0, 3] [] [] [] [(3, .i v1)] [] [] []) ?_
  intro n1 v1 y1 hF ih1 dn1
  unfold R_TooLong_B1 at hF
  refine RJ (.l e_str l .z) ?_
  refine Nif hF ?_ ?_ <;> intro hb hF
  ·refine Nblk ?_
   obtain ⟨h0, hF⟩ := aE hF
   refine RJ (.i e_str h0 .z) ?_
   refine Nif hF ?_ ?_ <;> intro hb hF
   ·refine LR0 ?_
    have hF := ret_done hF dn1
    cases hF
    exact Wz [] hfin
   ·refine LR0 ?_
    exact Nrnq [] hF ih1
  ·refine Nexit rfl ?_
   have hF := inrO_done hF dn1
   exact metQ () [] hF
 ·intro v hF
  unfold R_TooLong_J1 at hF
  refine LR0 ?_
  cases hF
  exact Wz [] hfin

/- tabularyref.CopyFault -/
def R_CopyFault (c : Copy) : Option Fault :=
 lt (R_Num c.Epoch) fun x =>
 lt (R_Num c.Ended) fun x1 =>
 if ((!x) || (!x1)) = true then
  lt (R_F 3 (-1)) fun x2 =>
  some x2
 else
  if ((decide (c.Epoch < c.Ended)) || ((decide (0 < c.Ended)) && (!c.Closed))) = true then
   lt (R_F 11 (-1)) fun x3 =>
   some x3
  else
   if (decide (100 < (c.Recs.length : Int))) = true then
    lt (R_F 2 (-1)) fun x4 =>
    some x4
   else
    ob (R_TooLong c.Recs) fun x5 =>
    if (decide (0 ≤ x5)) = true then
     ob (R_TooLong c.Recs) fun x6 =>
     lt (R_F 8 x6) fun x7 =>
     some x7
    else
     some (⟨0, 0⟩ : Fault)
theorem R_CopyFault_ok {c r} (hF : R_CopyFault c = some r) : Pe Try.prog 19 S.none [.agg (c_Copy c)] (.agg (c_Fault r)) S.none := by
 refine PT 44 [.cell 2 29] [29] Try.func19 ?_
 intro Q g hfin
 unfold R_CopyFault at hF
 refine LR0 ?_
 obtain ⟨x, h0, hF⟩ := lS hF
 obtain ⟨x1, h1, hF⟩ := lS hF
 refine RJ (.b (R_Num_ok h0) (.a (.callB (.bool x1)) (.g (fun (ga0 : (!(!x)) = true) => (R_Num_ok h1)) .z))) ?_
 refine Nif hF ?_ ?_ <;> intro hb hF
 ·obtain ⟨x2, h2, hF⟩ := lS hF
  refine RJ (.b (R_F_ok h2) .z) ?_
  cases hF
  exact Wz [] hfin
 ·refine LR0 ?_
  refine Nif hF ?_ ?_ <;> intro hb hF
  ·obtain ⟨x3, h3, hF⟩ := lS hF
   refine RJ (.b (R_F_ok h3) .z) ?_
   cases hF
   exact Wz [] hfin
  ·refine RJ (.l e_str c.Recs .z) ?_
   refine Nif hF ?_ ?_ <;> intro hb hF
   ·obtain ⟨x4, h4, hF⟩ := lS hF
    refine RJ (.b (R_F_ok h4) .z) ?_
    cases hF
    exact Wz [] hfin
   ·obtain ⟨x5, h5, hF⟩ := oE hF
    refine RJ (.b (R_TooLong_ok h5) .z) ?_
    refine Nif hF ?_ ?_ <;> intro hb hF
    ·obtain ⟨x6, h6, hF⟩ := oE hF
     obtain ⟨x7, h7, hF⟩ := lS hF
     refine RJ (.b (R_TooLong_ok h6) (.b (R_F_ok h7) .z)) ?_
     cases hF
     exact Wz [] hfin
    ·refine LR0 ?_
     cases hF
     exact Wz [] hfin

/- tabularyref.CopyAsked -/
def R_CopyAsked (c : Copy) (epoch : Int) (also : Fault) : Option Fault :=
 ob (R_CopyFault c) fun x =>
 ob (
  if ((decide (x.Code = 0)) && ((decide (epoch < 1)) || (decide (1000000000 < epoch)))) = true then
   lt (R_F 3 (-1)) fun x1 =>
   some x1
  else
   some x) fun (v : Fault) =>
 ob (
  if (decide (v.Code = 0)) = true then
   some also
  else
   some v) fun v1 =>
 ob (
  if ((decide (v1.Code = 0)) && (decide (epoch < c.Epoch))) = true then
   lt (R_F 12 (-1)) fun x2 =>
   some x2
  else
   some v1) fun (v2 : Fault) =>
 some v2
theorem R_CopyAsked_ok {c epoch also r} (hF : R_CopyAsked c epoch also = some r) : Pe Try.prog 35 S.none [.agg (c_Copy c), .i epoch, .agg (c_Fault also)] (.agg (c_Fault r)) S.none := by
 refine PT 37 [.cell 6 29] [29] Try.func35 ?_
 intro Q g hfin
 unfold R_CopyAsked at hF
 refine LR0 ?_
 obtain ⟨x, h0, hF⟩ := oE hF
 refine RJ (.b (R_CopyFault_ok h0) .z) ?_
 refine LR0 ?_
 obtain ⟨v, hv, hF⟩ := oE hF
 refine NmT (fun Z => Z.up [1, 3, 5, 6, 7] [3, 5, 6, 7] [] [] [] [(7, (c_Fault v))] [] []) ?_ ?_
 ·have hF := hv
  refine Nif hF ?_ ?_ <;> intro hb hF
  ·obtain ⟨x1, h1, hF⟩ := lS hF
   refine RJ (.b (R_F_ok h1) .z) ?_
   cases hF
   exact met' []
  ·cases hF
   exact met' []
 ·refine LR0 ?_
  obtain ⟨v1, hv, hF⟩ := oE hF
  refine NmT (fun Z => Z.up [1, 3, 6, 7] [3, 6, 7] [] [] [] [(7, (c_Fault v1))] [] []) ?_ ?_
  ·have hF := hv
   refine Nif hF ?_ ?_ <;> intro hb hF
   ·refine LR0 ?_
    cases hF
    exact met' []
   ·cases hF
    exact met' []
  ·refine LR0 ?_
   obtain ⟨v2, hv, hF⟩ := oE hF
   refine NmT (fun Z => Z.up [6, 7] [6, 7] [] [] [] [(7, (c_Fault v2))] [] []) ?_ ?_
   ·have hF := hv
    refine Nif hF ?_ ?_ <;> intro hb hF
    ·obtain ⟨x2, h2, hF⟩ := lS hF
     refine RJ (.b (R_F_ok h2) .z) ?_
     cases hF
     exact met' []
    ·cases hF
     exact met' []
   ·refine LR0 ?_
    cases hF
    exact Wz [] hfin

/- tabularyref.Appended -/
def R_Appended (c : Copy) (epoch at0 : Int) (rec0 : List UInt8) : Option (Int × Bool × List (List UInt8) × Int × Fault) :=
 ob (R_CopyAsked c epoch (⟨0, 0⟩ : Fault)) fun x =>
 ob (
  if ((decide (x.Code = 0)) && c.Closed) = true then
   lt (R_F 11 (-2)) fun x1 =>
   some x1
  else
   some x) fun (v : Fault) =>
 ob (
  if ((decide (v.Code = 0)) && (decide (200 < (rec0.length : Int)))) = true then
   lt (R_F 8 (-2)) fun x2 =>
   some x2
  else
   some v) fun (v1 : Fault) =>
 ob (
  if ((decide (v1.Code = 0)) && ((decide (at0 < 0)) || (decide ((c.Recs.length : Int) < at0)))) = true then
   lt (R_F 3 (-2)) fun x3 =>
   some x3
  else
   some v1) fun (v2 : Fault) =>
 asrt (((decide (v2.Code = 0)) && (decide (at0 < (c.Recs.length : Int)))) = true → 0 ≤ at0 ∧ at0 < (c.Recs.length : Int)) <|
 ob (
  if (((decide (v2.Code = 0)) && (decide (at0 < (c.Recs.length : Int)))) && (!decide ((lget c.Recs at0) = rec0))) = true then
   lt (R_F 7 (-2)) fun x4 =>
   some x4
  else
   some v2) fun (v3 : Fault) =>
 ob (
  if (((decide (v3.Code = 0)) && (decide (at0 = (c.Recs.length : Int)))) && (decide (100 ≤ at0))) = true then
   lt (R_F 2 (-2)) fun x5 =>
   some x5
  else
   some v3) fun (v4 : Fault) =>
 if (!decide (v4.Code = 0)) = true then
  some (0, false, ([] : List (List UInt8)), 0, v4)
 else
  asrt ((c.Recs.length : Int) * 16 ≤ 140737488351232) <|
  ob (
   if (decide (at0 = (c.Recs.length : Int))) = true then
    asrt (((c.Recs ++ ([rec0] : List (List UInt8))).length : Int) * 16 ≤ 140737488351232) <|
    some (c.Recs ++ ([rec0] : List (List UInt8)))
   else
    some c.Recs) fun v5 =>
  some (epoch, false, v5, 0, v4)
theorem R_Appended_ok {c epoch at0 rec0 r} (hF : R_Appended c epoch at0 rec0 = some r) : Pe Try.prog 16 (.w []) [.agg (c_Copy c), .i epoch, .i at0, .str rec0] (.tup [.agg [.i r.1, .bool r.2.1, .row 91 0, .i r.2.2.2.1], .agg (c_Fault r.2.2.2.2)]) ⟨[], [], [(91, .z 9 1 0 (r.2.2.1.map e_str))], [], []⟩ := by
 refine PT 106 [.cell 8 24, .cell 9 29] [24, 29] Try.func16 ?_
 intro Q g hfin
 unfold R_Appended at hF
 refine LR0 ?_
 obtain ⟨x, h0, hF⟩ := oE hF
 refine RJ (.b (R_CopyAsked_ok h0) .z) ?_
 refine LR0 ?_
 obtain ⟨v, hv, hF⟩ := oE hF
 refine NmT (fun Z => Z.up [1, 2, 3, 4, 8, 9, 10] [4, 8, 9, 10] [] [] [] [(10, (c_Fault v))] [] []) ?_ ?_
 ·have hF := hv
  refine Nif hF ?_ ?_ <;> intro hb hF
  ·obtain ⟨x1, h1, hF⟩ := lS hF
   refine RJ (.b (R_F_ok h1) .z) ?_
   cases hF
   exact met' []
  ·cases hF
   exact met' []
 ·refine LR0 ?_
  obtain ⟨v1, hv, hF⟩ := oE hF
  refine NmT (fun Z => Z.up [1, 2, 3, 4, 8, 9, 10] [4, 8, 9, 10] [] [] [] [(10, (c_Fault v1))] [] []) ?_ ?_
  ·have hF := hv
   refine Nif hF ?_ ?_ <;> intro hb hF
   ·obtain ⟨x2, h2, hF⟩ := lS hF
    refine RJ (.b (R_F_ok h2) .z) ?_
    cases hF
    exact met' []
   ·cases hF
    exact met' []
  ·refine RJ (.a (.nat (c.Recs.length : Int)) (.g (fun (_ : (!(decide (at0 < 0))) = true) (_ : (decide (v1.Code = 0)) = true) => (len_ok e_str c.Recs)) .z)) ?_
   obtain ⟨v2, hv, hF⟩ := oE hF
   refine NmT (fun Z => Z.up [1, 2, 3, 4, 8, 9, 10] [4, 8, 9, 10] [] [] [] [(10, (c_Fault v2))] [] []) ?_ ?_
   ·have hF := hv
    refine Nif hF ?_ ?_ <;> intro hb hF
    ·obtain ⟨x3, h3, hF⟩ := lS hF
     refine RJ (.b (R_F_ok h3) .z) ?_
     cases hF
     exact met' []
    ·cases hF
     exact met' []
   ·obtain ⟨h4, hF⟩ := aE hF
    refine RJ (.a (.nat (c.Recs.length : Int)) (.g (fun (_ : (decide (v2.Code = 0)) = true) => (len_ok e_str c.Recs)) (.a (.av (e_str (lget c.Recs at0))) (.g (fun (ga0 : ((decide (v2.Code = 0)) && (decide (at0 < (c.Recs.length : Int)))) = true) => (idx_ok e_str (h4 ga0))) .z)))) ?_
    obtain ⟨v3, hv, hF⟩ := oE hF
    refine NmT (fun Z => Z.up [1, 2, 3, 4, 8, 9, 10] [4, 8, 9, 10] [] [] [] [(10, (c_Fault v3))] [] []) ?_ ?_
    ·have hF := hv
     refine Nif hF ?_ ?_ <;> intro hb hF
     ·obtain ⟨x4, h5, hF⟩ := lS hF
      refine RJ (.b (R_F_ok h5) .z) ?_
      cases hF
      exact met' []
     ·cases hF
      exact met' []
    ·refine RJ (.a (.nat (c.Recs.length : Int)) (.g (fun (_ : (decide (v3.Code = 0)) = true) => (len_ok e_str c.Recs)) .z)) ?_
     obtain ⟨v4, hv, hF⟩ := oE hF
     refine NmT (fun Z => Z.up [1, 2, 3, 4, 8, 9, 10] [4, 8, 9, 10] [] [] [] [(10, (c_Fault v4))] [] []) ?_ ?_
     ·have hF := hv
      refine Nif hF ?_ ?_ <;> intro hb hF
      ·obtain ⟨x5, h6, hF⟩ := lS hF
       refine RJ (.b (R_F_ok h6) .z) ?_
       cases hF
       exact met' []
      ·cases hF
       exact met' []
     ·refine LR0 ?_
      refine Nif hF ?_ ?_ <;> intro hb hF
      ·refine VD [] [8, 9] [8, 9] [] [] [(8, .ptr 8 0), (9, .ptr 9 0)] [(8, [.i 0, .bool false, .nils, .i 0]), (9, (c_Fault v4))] [] [] .nil ?_
       cases hF
       refine Wk_nilrowB 8 2 60000 9 1 rfl rfl rfl rfl rfl ?_
       refine Wk_ren' ⟨[], [(60000, 91)], [], []⟩ rfl ?_
       exact Wz [] hfin
      ·obtain ⟨h7, hF⟩ := aE hF
       refine RJ (.p0 e_str h7 .z) ?_
       refine RJ (.l e_str c.Recs .z) ?_
       obtain ⟨v5, hv, hF⟩ := oE hF
       refine NmT (fun Z => Z.up [8, 9, 10, 11] [8, 9, 10, 11] [91] [] [] [(11, [.i epoch, .bool false, .row 91 0, .i 0])] [(91, .z 9 1 0 (v5.map e_str))] []) ?_ ?_
       ·have hF := hv
        refine Nif hF ?_ ?_ <;> intro hb hF
        ·obtain ⟨h8, hF⟩ := aE hF
         refine RJ (.a (.sealed) (.p e_str h8 .z)) ?_
         cases hF
         exact met' [(91, ⟨0, true, true, false⟩)]
        ·cases hF
         exact met' [(91, ⟨0, true, true, false⟩)]
       ·refine LD0 ?_
        cases hF
        exact Wz [] hfin

/- tabularyref.Appended -/
def R_Appended_v1 (c : Copy) (epoch at0 : Int) (rec0 : List UInt8) : Option (Copy × Fault) :=
 ob (R_CopyAsked c epoch (⟨0, 0⟩ : Fault)) fun x =>
 ob (
  if ((decide (x.Code = 0)) && c.Closed) = true then
   lt (R_F 11 (-2)) fun x1 =>
   some x1
  else
   some x) fun (v : Fault) =>
 ob (
  if ((decide (v.Code = 0)) && (decide (200 < (rec0.length : Int)))) = true then
   lt (R_F 8 (-2)) fun x2 =>
   some x2
  else
   some v) fun (v1 : Fault) =>
 ob (
  if ((decide (v1.Code = 0)) && ((decide (at0 < 0)) || (decide ((c.Recs.length : Int) < at0)))) = true then
   lt (R_F 3 (-2)) fun x3 =>
   some x3
  else
   some v1) fun (v2 : Fault) =>
 asrt (((decide (v2.Code = 0)) && (decide (at0 < (c.Recs.length : Int)))) = true → 0 ≤ at0 ∧ at0 < (c.Recs.length : Int)) <|
 ob (
  if (((decide (v2.Code = 0)) && (decide (at0 < (c.Recs.length : Int)))) && (!decide ((lget c.Recs at0) = rec0))) = true then
   lt (R_F 7 (-2)) fun x4 =>
   some x4
  else
   some v2) fun (v3 : Fault) =>
 ob (
  if (((decide (v3.Code = 0)) && (decide (at0 = (c.Recs.length : Int)))) && (decide (100 ≤ at0))) = true then
   lt (R_F 2 (-2)) fun x5 =>
   some x5
  else
   some v3) fun (v4 : Fault) =>
 if (!decide (v4.Code = 0)) = true then
  some ((⟨0, false, ([] : List (List UInt8)), 0⟩ : Copy), v4)
 else
  asrt ((c.Recs.length : Int) * 16 ≤ 140737488351232) <|
  ob (
   if (decide (at0 = (c.Recs.length : Int))) = true then
    asrt (((c.Recs ++ ([rec0] : List (List UInt8))).length : Int) * 16 ≤ 140737488351232) <|
    some (c.Recs ++ ([rec0] : List (List UInt8)))
   else
    some c.Recs) fun v5 =>
  some ((⟨epoch, false, v5, 0⟩ : Copy), v4)
theorem R_Appended_v1_ok {c epoch at0 rec0 r} (hF : R_Appended_v1 c epoch at0 rec0 = some r) : Pe Try.prog 16 S.none [.agg (c_Copy c), .i epoch, .i at0, .str rec0] (.tup [.agg (c_Copy r.1), .agg (c_Fault r.2)]) S.none := by
 refine PT 106 [.cell 8 24, .cell 9 29] [24, 29] Try.func16 ?_
 intro Q g hfin
 unfold R_Appended_v1 at hF
 refine LR0 ?_
 obtain ⟨x, h0, hF⟩ := oE hF
 refine RJ (.b (R_CopyAsked_ok h0) .z) ?_
 refine LR0 ?_
 obtain ⟨v, hv, hF⟩ := oE hF
 refine NmT (fun Z => Z.up [1, 2, 3, 4, 8, 9, 10] [4, 8, 9, 10] [] [] [] [(10, (c_Fault v))] [] []) ?_ ?_
 ·have hF := hv
  refine Nif hF ?_ ?_ <;> intro hb hF
  ·obtain ⟨x1, h1, hF⟩ := lS hF
   refine RJ (.b (R_F_ok h1) .z) ?_
   cases hF
   exact met' []
  ·cases hF
   exact met' []
 ·refine LR0 ?_
  obtain ⟨v1, hv, hF⟩ := oE hF
  refine NmT (fun Z => Z.up [1, 2, 3, 4, 8, 9, 10] [4, 8, 9, 10] [] [] [] [(10, (c_Fault v1))] [] []) ?_ ?_
  ·have hF := hv
   refine Nif hF ?_ ?_ <;> intro hb hF
   ·obtain ⟨x2, h2, hF⟩ := lS hF
    refine RJ (.b (R_F_ok h2) .z) ?_
    cases hF
    exact met' []
   ·cases hF
    exact met' []
  ·refine RJ (.a (.nat (c.Recs.length : Int)) (.g (fun (_ : (!(decide (at0 < 0))) = true) (_ : (decide (v1.Code = 0)) = true) => (len_ok e_str c.Recs)) .z)) ?_
   obtain ⟨v2, hv, hF⟩ := oE hF
   refine NmT (fun Z => Z.up [1, 2, 3, 4, 8, 9, 10] [4, 8, 9, 10] [] [] [] [(10, (c_Fault v2))] [] []) ?_ ?_
   ·have hF := hv
    refine Nif hF ?_ ?_ <;> intro hb hF
    ·obtain ⟨x3, h3, hF⟩ := lS hF
     refine RJ (.b (R_F_ok h3) .z) ?_
     cases hF
     exact met' []
    ·cases hF
     exact met' []
   ·obtain ⟨h4, hF⟩ := aE hF
    refine RJ (.a (.nat (c.Recs.length : Int)) (.g (fun (_ : (decide (v2.Code = 0)) = true) => (len_ok e_str c.Recs)) (.a (.av (e_str (lget c.Recs at0))) (.g (fun (ga0 : ((decide (v2.Code = 0)) && (decide (at0 < (c.Recs.length : Int)))) = true) => (idx_ok e_str (h4 ga0))) .z)))) ?_
    obtain ⟨v3, hv, hF⟩ := oE hF
    refine NmT (fun Z => Z.up [1, 2, 3, 4, 8, 9, 10] [4, 8, 9, 10] [] [] [] [(10, (c_Fault v3))] [] []) ?_ ?_
    ·have hF := hv
     refine Nif hF ?_ ?_ <;> intro hb hF
     ·obtain ⟨x4, h5, hF⟩ := lS hF
      refine RJ (.b (R_F_ok h5) .z) ?_
      cases hF
      exact met' []
     ·cases hF
      exact met' []
    ·refine RJ (.a (.nat (c.Recs.length : Int)) (.g (fun (_ : (decide (v3.Code = 0)) = true) => (len_ok e_str c.Recs)) .z)) ?_
     obtain ⟨v4, hv, hF⟩ := oE hF
     refine NmT (fun Z => Z.up [1, 2, 3, 4, 8, 9, 10] [4, 8, 9, 10] [] [] [] [(10, (c_Fault v4))] [] []) ?_ ?_
     ·have hF := hv
      refine Nif hF ?_ ?_ <;> intro hb hF
      ·obtain ⟨x5, h6, hF⟩ := lS hF
       refine RJ (.b (R_F_ok h6) .z) ?_
       cases hF
       exact met' []
      ·cases hF
       exact met' []
     ·refine LR0 ?_
      refine Nif hF ?_ ?_ <;> intro hb hF
      ·refine LD0 ?_
       cases hF
       exact Wz [] hfin
      ·obtain ⟨h7, hF⟩ := aE hF
       refine RJ (.p0 e_str h7 .z) ?_
       refine RJ (.l e_str c.Recs .z) ?_
       obtain ⟨v5, hv, hF⟩ := oE hF
       refine NmT (fun Z => Z.up [8, 9, 10, 11] [8, 9, 10, 11] [91] [] [] [(11, [.i epoch, .bool false, .row 91 0, .i 0])] [(91, .z 9 1 0 (v5.map e_str))] []) ?_ ?_
       ·have hF := hv
        refine Nif hF ?_ ?_ <;> intro hb hF
        ·obtain ⟨h8, hF⟩ := aE hF
         refine RJ (.a (.sealed) (.p e_str h8 .z)) ?_
         cases hF
         exact met' [(91, ⟨0, true, true, false⟩)]
        ·cases hF
         exact met' [(91, ⟨0, true, true, false⟩)]
       ·refine LD0 ?_
        cases hF
        exact Wz [] hfin

/- tabularyref.ClosedCopy -/
def R_ClosedCopy (c : Copy) (epoch : Int) : Option (Int × Bool × List (List UInt8) × Int × Fault) :=
 ob (R_CopyAsked c epoch (⟨0, 0⟩ : Fault)) fun x =>
 if (!decide (x.Code = 0)) = true then
  some (0, false, ([] : List (List UInt8)), 0, x)
 else
  asrt ((c.Recs.length : Int) * 16 ≤ 140737488351232) <|
  some (epoch, true, c.Recs, c.Ended, x)
theorem R_ClosedCopy_ok {c epoch r} (hF : R_ClosedCopy c epoch = some r) : Pe Try.prog 17 (.w []) [.agg (c_Copy c), .i epoch] (.tup [.agg [.i r.1, .bool r.2.1, .row 19 0, .i r.2.2.2.1], .agg (c_Fault r.2.2.2.2)]) ⟨[], [], [(19, .z 9 1 0 (r.2.2.1.map e_str))], [], []⟩ := by
 refine PT 24 [.cell 4 24, .cell 5 29] [24, 29] Try.func17 ?_
 intro Q g hfin
 unfold R_ClosedCopy at hF
 refine LR0 ?_
 obtain ⟨x, h0, hF⟩ := oE hF
 refine RJ (.b (R_CopyAsked_ok h0) .z) ?_
 refine LR0 ?_
 refine Nif hF ?_ ?_ <;> intro hb hF
 ·refine VD [] [4, 5] [4, 5] [] [] [(4, .ptr 4 0), (5, .ptr 5 0)] [(4, [.i 0, .bool false, .nils, .i 0]), (5, (c_Fault x))] [] [] .nil ?_
  cases hF
  refine Wk_nilrowB 4 2 60000 9 1 rfl rfl rfl rfl rfl ?_
  refine Wk_ren' ⟨[], [(60000, 19)], [], []⟩ rfl ?_
  exact Wz [] hfin
 ·obtain ⟨h1, hF⟩ := aE hF
  refine DJ (.p0 e_str h1 .z) ?_
  cases hF
  exact Wz [(19, ⟨0, true, true, false⟩)] hfin

/- tabularyref.ClosedCopy -/
def R_ClosedCopy_v1 (c : Copy) (epoch : Int) : Option (Copy × Fault) :=
 ob (R_CopyAsked c epoch (⟨0, 0⟩ : Fault)) fun x =>
 if (!decide (x.Code = 0)) = true then
  some ((⟨0, false, ([] : List (List UInt8)), 0⟩ : Copy), x)
 else
  asrt ((c.Recs.length : Int) * 16 ≤ 140737488351232) <|
  some ((⟨epoch, true, c.Recs, c.Ended⟩ : Copy), x)
theorem R_ClosedCopy_v1_ok {c epoch r} (hF : R_ClosedCopy_v1 c epoch = some r) : Pe Try.prog 17 S.none [.agg (c_Copy c), .i epoch] (.tup [.agg (c_Copy r.1), .agg (c_Fault r.2)]) S.none := by
 refine PT 24 [.cell 4 24, .cell 5 29] [24, 29] Try.func17 ?_
 intro Q g hfin
 unfold R_ClosedCopy_v1 at hF
 refine LR0 ?_
 obtain ⟨x, h0, hF⟩ := oE hF
 refine RJ (.b (R_CopyAsked_ok h0) .z) ?_
 refine LR0 ?_
 refine Nif hF ?_ ?_ <;> intro hb hF
 ·refine LD0 ?_
  cases hF
  exact Wz [] hfin
 ·obtain ⟨h1, hF⟩ := aE hF
  refine DJ (.p0 e_str h1 .z) ?_
  cases hF
  exact Wz [] hfin

/- tabularyref.EndedCopy -/
def R_EndedCopy (c : Copy) (epoch : Int) (recs : List (List UInt8)) : Option (Int × Bool × List (List UInt8) × Int × Fault) :=
 ob (
  if (decide (100 < (recs.length : Int))) = true then
   lt (R_F 2 (-2)) fun x =>
   some x
  else
   ob (R_TooLong recs) fun x1 =>
   if (decide (0 ≤ x1)) = true then
    ob (R_TooLong recs) fun x2 =>
    lt (R_F 8 x2) fun x3 =>
    some x3
   else
    some (⟨0, 0⟩ : Fault)) fun (v : Fault) =>
 ob (R_CopyAsked c epoch v) fun x4 =>
 if (!decide (x4.Code = 0)) = true then
  some (0, false, ([] : List (List UInt8)), 0, x4)
 else
  asrt ((recs.length : Int) * 16 ≤ 140737488351232) <|
  some (epoch, true, recs, epoch, x4)
theorem R_EndedCopy_ok {c epoch recs r} (hF : R_EndedCopy c epoch recs = some r) : Pe Try.prog 18 (.w []) [.agg (c_Copy c), .i epoch, .sl 1 (recs.map e_str)] (.tup [.agg [.i r.1, .bool r.2.1, .row 32 0, .i r.2.2.2.1], .agg (c_Fault r.2.2.2.2)]) ⟨[], [], [(32, .z 9 1 0 (r.2.2.1.map e_str))], [], []⟩ := by
 refine PT 36 [.cell 6 24, .cell 7 29] [24, 29] Try.func18 ?_
 intro Q g hfin
 unfold R_EndedCopy at hF
 refine LR0 ?_
 refine LR0 ?_
 refine RJ (.l e_str recs .z) ?_
 obtain ⟨v, hv, hF⟩ := oE hF
 refine NmT (fun Z => Z.up [1, 2, 3, 6, 7, 8] [3, 6, 7, 8] [] [] [] [(8, (c_Fault v))] [] []) ?_ ?_
 ·have hF := hv
  refine Nif hF ?_ ?_ <;> intro hb hF
  ·obtain ⟨x, h0, hF⟩ := lS hF
   refine RJ (.b (R_F_ok h0) .z) ?_
   cases hF
   exact met' []
  ·obtain ⟨x1, h1, hF⟩ := oE hF
   refine RJ (.b (R_TooLong_ok h1) .z) ?_
   refine Nif hF ?_ ?_ <;> intro hb hF
   ·obtain ⟨x2, h2, hF⟩ := oE hF
    obtain ⟨x3, h3, hF⟩ := lS hF
    refine RJ (.b (R_TooLong_ok h2) (.b (R_F_ok h3) .z)) ?_
    cases hF
    exact met' []
   ·cases hF
    exact met' []
 ·obtain ⟨x4, h4, hF⟩ := oE hF
  refine RJ (.b (R_CopyAsked_ok h4) .z) ?_
  refine LR0 ?_
  refine Nif hF ?_ ?_ <;> intro hb hF
  ·refine VD [] [6, 7] [6, 7] [] [] [(6, .ptr 6 0), (7, .ptr 7 0)] [(6, [.i 0, .bool false, .nils, .i 0]), (7, (c_Fault x4))] [] [] .nil ?_
   cases hF
   refine Wk_nilrowB 6 2 60000 9 1 rfl rfl rfl rfl rfl ?_
   refine Wk_ren' ⟨[], [(60000, 32)], [], []⟩ rfl ?_
   exact Wz [] hfin
  ·obtain ⟨h5, hF⟩ := aE hF
   refine DJ (.p0 e_str h5 .z) ?_
   cases hF
   exact Wz [(32, ⟨0, true, true, false⟩)] hfin

/- tabularyref.EndedCopy -/
def R_EndedCopy_v1 (c : Copy) (epoch : Int) (recs : List (List UInt8)) : Option (Copy × Fault) :=
 ob (
  if (decide (100 < (recs.length : Int))) = true then
   lt (R_F 2 (-2)) fun x =>
   some x
  else
   ob (R_TooLong recs) fun x1 =>
   if (decide (0 ≤ x1)) = true then
    ob (R_TooLong recs) fun x2 =>
    lt (R_F 8 x2) fun x3 =>
    some x3
   else
    some (⟨0, 0⟩ : Fault)) fun (v : Fault) =>
 ob (R_CopyAsked c epoch v) fun x4 =>
 if (!decide (x4.Code = 0)) = true then
  some ((⟨0, false, ([] : List (List UInt8)), 0⟩ : Copy), x4)
 else
  asrt ((recs.length : Int) * 16 ≤ 140737488351232) <|
  some ((⟨epoch, true, recs, epoch⟩ : Copy), x4)
theorem R_EndedCopy_v1_ok {c epoch recs r} (hF : R_EndedCopy_v1 c epoch recs = some r) : Pe Try.prog 18 S.none [.agg (c_Copy c), .i epoch, .sl 1 (recs.map e_str)] (.tup [.agg (c_Copy r.1), .agg (c_Fault r.2)]) S.none := by
 refine PT 36 [.cell 6 24, .cell 7 29] [24, 29] Try.func18 ?_
 intro Q g hfin
 unfold R_EndedCopy_v1 at hF
 refine LR0 ?_
 refine LR0 ?_
 refine RJ (.l e_str recs .z) ?_
 obtain ⟨v, hv, hF⟩ := oE hF
 refine NmT (fun Z => Z.up [1, 2, 3, 6, 7, 8] [3, 6, 7, 8] [] [] [] [(8, (c_Fault v))] [] []) ?_ ?_
 ·have hF := hv
  refine Nif hF ?_ ?_ <;> intro hb hF
  ·obtain ⟨x, h0, hF⟩ := lS hF
   refine RJ (.b (R_F_ok h0) .z) ?_
   cases hF
   exact met' []
  ·obtain ⟨x1, h1, hF⟩ := oE hF
   refine RJ (.b (R_TooLong_ok h1) .z) ?_
   refine Nif hF ?_ ?_ <;> intro hb hF
   ·obtain ⟨x2, h2, hF⟩ := oE hF
    obtain ⟨x3, h3, hF⟩ := lS hF
    refine RJ (.b (R_TooLong_ok h2) (.b (R_F_ok h3) .z)) ?_
    cases hF
    exact met' []
   ·cases hF
    exact met' []
 ·obtain ⟨x4, h4, hF⟩ := oE hF
  refine RJ (.b (R_CopyAsked_ok h4) .z) ?_
  refine LR0 ?_
  refine Nif hF ?_ ?_ <;> intro hb hF
  ·refine LD0 ?_
   cases hF
   exact Wz [] hfin
  ·obtain ⟨h5, hF⟩ := aE hF
   refine DJ (.p0 e_str h5 .z) ?_
   cases hF
   exact Wz [] hfin

/- tabularylaw.SealDoes -/
def law_SealDoes (c : Copy) (epoch at0 : Int) (rec0 : List UInt8) (recs : List (List UInt8)) : Option Bool :=
 ob (law_sealBegun) fun x =>
 if (!x) = true then
  some false
 else
  if ((decide (300 < (c.Recs.length : Int))) || (decide (300 < (recs.length : Int)))) = true then
   some true
  else
   ob (law_ownCopy c) fun x1 =>
   ob (law_ownTexts_v1 recs) fun x2 =>
   ob (seal_Check x1) fun x3 =>
   ob (seal_Append_v1 x1 epoch at0 rec0) fun x4 =>
   ob (seal_Close_v1 x1 epoch) fun x5 =>
   ob (seal_End_v1 x1 epoch x2) fun x6 =>
   ob (R_SameCopy x1 c) fun x7 =>
   ob (if (!(!x7)) = true then (R_SameTexts x2 recs) else some default) fun x8 =>
   if ((!x7) || (!x8)) = true then
    some false
   else
    ob (R_Appended_v1 c epoch at0 rec0) fun x9 =>
    ob (R_ClosedCopy_v1 c epoch) fun x10 =>
    ob (R_EndedCopy_v1 c epoch recs) fun x11 =>
    ob (R_CopyFault c) fun x12 =>
    ob (if ((((decide (x3.Code = x12.Code) && (decide (x3.At = x12.At) && true)) && (decide (x4.2.Code = x9.2.Code) && (decide (x4.2.At = x9.2.At) && true))) && (decide (x5.2.Code = x10.2.Code) && (decide (x5.2.At = x10.2.At) && true))) && (decide (x6.2.Code = x11.2.Code) && (decide (x6.2.At = x11.2.At) && true))) = true then (R_SameCopy x4.1 x9.1) else some default) fun x13 =>
    ob (if (((((decide (x3.Code = x12.Code) && (decide (x3.At = x12.At) && true)) && (decide (x4.2.Code = x9.2.Code) && (decide (x4.2.At = x9.2.At) && true))) && (decide (x5.2.Code = x10.2.Code) && (decide (x5.2.At = x10.2.At) && true))) && (decide (x6.2.Code = x11.2.Code) && (decide (x6.2.At = x11.2.At) && true))) && x13) = true then (R_SameCopy x5.1 x10.1) else some default) fun x14 =>
    ob (if ((((((decide (x3.Code = x12.Code) && (decide (x3.At = x12.At) && true)) && (decide (x4.2.Code = x9.2.Code) && (decide (x4.2.At = x9.2.At) && true))) && (decide (x5.2.Code = x10.2.Code) && (decide (x5.2.At = x10.2.At) && true))) && (decide (x6.2.Code = x11.2.Code) && (decide (x6.2.At = x11.2.At) && true))) && x13) && x14) = true then (R_SameCopy x6.1 x11.1) else some default) fun x15 =>
    lt (((((((decide (x3.Code = x12.Code) && (decide (x3.At = x12.At) && true)) && (decide (x4.2.Code = x9.2.Code) && (decide (x4.2.At = x9.2.At) && true))) && (decide (x5.2.Code = x10.2.Code) && (decide (x5.2.At = x10.2.At) && true))) && (decide (x6.2.Code = x11.2.Code) && (decide (x6.2.At = x11.2.At) && true))) && x13) && x14) && x15) fun v =>
    some v
theorem law_SealDoes_ok {c epoch at0 rec0 recs r} (hF : law_SealDoes c epoch at0 rec0 recs = some r) : Pe Try.prog 3 S.none [.agg (c_Copy c), .i epoch, .i at0, .str rec0, .sl 1 (recs.map e_str)] (.bool r) S.none := by
 refine PT 129 [.tmp 10] [4] Try.func3 ?_
 intro Q g hfin
 unfold law_SealDoes at hF
 refine LR0 ?_
 obtain ⟨x, h0, hF⟩ := oE hF
 refine RJ (.b (law_sealBegun_ok h0) .z) ?_
 refine Nif hF ?_ ?_ <;> intro hb hF
 ·refine LR0 ?_
  cases hF
  exact Wz [] hfin
 ·refine RJ (.l e_str c.Recs (.a (.nat (recs.length : Int)) (.g (fun (_ : (!(decide (300 < (c.Recs.length : Int)))) = true) => (len_ok e_str recs)) .z))) ?_
  refine Nif hF ?_ ?_ <;> intro hb hF
  ·refine LR0 ?_
   cases hF
   exact Wz [] hfin
  ·obtain ⟨x1, h1, hF⟩ := oE hF
   refine RJ (.c (law_ownCopy_ok h1) .z) ?_
   obtain ⟨x2, h2, hF⟩ := oE hF
   refine RJ (.c (law_ownTexts_v1_ok h2) .z) ?_
   obtain ⟨x3, h3, hF⟩ := oE hF
   refine RJ (.b (seal_Check_ok h3) .z) ?_
   obtain ⟨x4, h4, hF⟩ := oE hF
   refine RJ (.c (seal_Append_v1_ok h4) .z) ?_
   obtain ⟨x5, h5, hF⟩ := oE hF
   refine RJ (.c (seal_Close_v1_ok h5) .z) ?_
   obtain ⟨x6, h6, hF⟩ := oE hF
   refine RJ (.c (seal_End_v1_ok h6) .z) ?_
   obtain ⟨x7, h7, hF⟩ := oE hF
   obtain ⟨x8, h8, hF⟩ := oE hF
   refine RJ (.b (R_SameCopy_ok h7) (.a (.callB (.bool x8)) (.g (fun (ga0 : (!(!x7)) = true) => (R_SameTexts_ok (ite_t h8 ga0))) .z))) ?_
   refine Nif hF ?_ ?_ <;> intro hb hF
   ·refine LR0 ?_
    cases hF
    exact Wz [] hfin
   ·obtain ⟨x9, h9, hF⟩ := oE hF
    refine RJ (.c (R_Appended_v1_ok h9) .z) ?_
    obtain ⟨x10, h10, hF⟩ := oE hF
    refine RJ (.c (R_ClosedCopy_v1_ok h10) .z) ?_
    obtain ⟨x11, h11, hF⟩ := oE hF
    refine RJ (.c (R_EndedCopy_v1_ok h11) .z) ?_
    obtain ⟨x12, h12, hF⟩ := oE hF
    obtain ⟨x13, h13, hF⟩ := oE hF
    obtain ⟨x14, h14, hF⟩ := oE hF
    obtain ⟨x15, h15, hF⟩ := oE hF
    refine NDL (((((((decide (x3.Code = x12.Code) && (decide (x3.At = x12.At) && true)) && (decide (x4.2.Code = x9.2.Code) && (decide (x4.2.At = x9.2.At) && true))) && (decide (x5.2.Code = x10.2.Code) && (decide (x5.2.At = x10.2.At) && true))) && (decide (x6.2.Code = x11.2.Code) && (decide (x6.2.At = x11.2.At) && true))) && x13) && x14) && x15) (fun v : Bool => ([(10, .bool v)], [], [], [])) [.callB (.agg (c_Fault x12)), .callB (.bool x13), .callB (.bool x14), .callB (.bool x15)] [10] [] [] [] (hc (R_CopyFault_ok h12) (hc (fun (ga0 : ((((decide (x3.Code = x12.Code) && (decide (x3.At = x12.At) && true)) && (decide (x4.2.Code = x9.2.Code) && (decide (x4.2.At = x9.2.At) && true))) && (decide (x5.2.Code = x10.2.Code) && (decide (x5.2.At = x10.2.At) && true))) && (decide (x6.2.Code = x11.2.Code) && (decide (x6.2.At = x11.2.At) && true))) = true) => (R_SameCopy_ok (ite_t h13 ga0))) (hc (fun (ga0 : (((((decide (x3.Code = x12.Code) && (decide (x3.At = x12.At) && true)) && (decide (x4.2.Code = x9.2.Code) && (decide (x4.2.At = x9.2.At) && true))) && (decide (x5.2.Code = x10.2.Code) && (decide (x5.2.At = x10.2.At) && true))) && (decide (x6.2.Code = x11.2.Code) && (decide (x6.2.At = x11.2.At) && true))) && x13) = true) => (R_SameCopy_ok (ite_t h14 ga0))) (hc (fun (ga0 : ((((((decide (x3.Code = x12.Code) && (decide (x3.At = x12.At) && true)) && (decide (x4.2.Code = x9.2.Code) && (decide (x4.2.At = x9.2.At) && true))) && (decide (x5.2.Code = x10.2.Code) && (decide (x5.2.At = x10.2.At) && true))) && (decide (x6.2.Code = x11.2.Code) && (decide (x6.2.At = x11.2.At) && true))) && x13) && x14) = true) => (R_SameCopy_ok (ite_t h15 ga0))) .nil)))) (fun v hv => ?_)
    have hF := lt_elim hF hv
    cases hF
    exact Wz [] hfin

/- seal.Choose -/
def seal_Choose_v1_J2 (v1 : Copy) : Option (List (List UInt8) × Fault) :=
 ob (slices_Clone_string_string v1.Recs) fun x3 =>
 some (x3, (⟨0, 0⟩ : Fault))
def seal_Choose_v1_B1 (said : List Copy) (v2 : Copy × Int) : Option ((Copy × Int) ⊕ (List (List UInt8) × Fault)) :=
 if (decide (v2.2 < ((ldrop said 1).length : Int))) = true then
  asrt (0 ≤ v2.2 ∧ v2.2 < ((ldrop said 1).length : Int)) <|
  ob (
   if ((decide (v2.1.Ended < ((lget (ldrop said 1) v2.2).Ended))) || (((decide (v2.1.Ended = 0)) && (decide (((lget (ldrop said 1) v2.2).Ended) = 0))) && (decide ((v2.1.Recs.length : Int) < (((lget (ldrop said 1) v2.2).Recs).length : Int))))) = true then
    some (⟨(lget (ldrop said 1) v2.2).Epoch, (lget (ldrop said 1) v2.2).Closed, (lget (ldrop said 1) v2.2).Recs, (lget (ldrop said 1) v2.2).Ended⟩ : Copy)
   else
    some v2.1) fun v3 =>
  some (Sum.inl (v3, w64 (v2.2 + 1)))
 else
  inrO (seal_Choose_v1_J2 v2.1)
def seal_Choose_v1_L1 (said : List Copy) (v0 : Copy × Int) : Option (List (List UInt8) × Fault) :=
 loopO (fun y => seal_Choose_v1_B1 said y) v0
def seal_Choose_v1_J1 (num : Int) (said : List Copy) (v : Unit) : Option (List (List UInt8) × Fault) :=
 if (decide ((w64 (2 * (said.length : Int))) ≤ num)) = true then
  lt (seal_fault 6 (-1)) fun x2 =>
  some (([] : List (List UInt8)), x2)
 else
  asrt (0 ≤ (0 : Int) ∧ 0 < (said.length : Int)) <|
  asrt (0 ≤ (1 : Int) ∧ (1 : Int) ≤ (said.length : Int)) <|
  seal_Choose_v1_L1 said ((⟨(lget said 0).Epoch, (lget said 0).Closed, (lget said 0).Recs, (lget said 0).Ended⟩ : Copy), 0)
def seal_Choose_v1_B2 (num : Int) (said : List Copy) (v4 : Int) : Option (Int ⊕ (List (List UInt8) × Fault)) :=
 if (decide (v4 < (said.length : Int))) = true then
  asrt (0 ≤ v4 ∧ v4 < (said.length : Int)) <|
  ob (seal_Check (⟨(lget said v4).Epoch, (lget said v4).Closed, (lget said v4).Recs, (lget said v4).Ended⟩ : Copy)) fun x4 =>
  if (!decide (x4.Code = 0)) = true then
   lt (seal_fault x4.Code v4) fun x5 =>
   some (Sum.inr (([] : List (List UInt8)), x5))
  else
   if (!((lget said v4).Closed)) = true then
    lt (seal_fault 11 v4) fun x6 =>
    some (Sum.inr (([] : List (List UInt8)), x6))
   else
    some (Sum.inl (w64 (v4 + 1)))
 else
  inrO (seal_Choose_v1_J1 num said ())
def seal_Choose_v1_L2 (num : Int) (said : List Copy) (v0 : Int) : Option (List (List UInt8) × Fault) :=
 loopO (fun y => seal_Choose_v1_B2 num said y) v0
def seal_Choose_v1 (num : Int) (said : List Copy) : Option (List (List UInt8) × Fault) :=
 if ((decide (num < 1)) || (decide (7 < num))) = true then
  lt (seal_fault 3 (-1)) fun x =>
  some (([] : List (List UInt8)), x)
 else
  if (decide (num < (said.length : Int))) = true then
   lt (seal_fault 2 (-1)) fun x1 =>
   some (([] : List (List UInt8)), x1)
  else
   seal_Choose_v1_L2 num said 0
theorem seal_Choose_v1_ok {num said r} (hF : seal_Choose_v1 num said = some r) : Pe Try.prog 20 S.none [.i num, .sl 4 (said.map e_Copy)] (.tup [.sl 1 (r.1.map e_str), .agg (c_Fault r.2)]) S.none := by
 refine PT 92 [.tmp 4, .cell 5 29] [22, 29] Try.func20 ?_
 intro Q g hfin
 unfold seal_Choose_v1 at hF
 refine LR0 ?_
 refine LR0 ?_
 refine Nif hF ?_ ?_ <;> intro hb hF
 ·obtain ⟨x, h0, hF⟩ := lS hF
  refine RJ (.b (seal_fault_ok h0) .z) ?_
  cases hF
  exact Wz [] hfin
 ·refine RJ (.l e_Copy said .z) ?_
  refine Nif hF ?_ ?_ <;> intro hb hF
  ·obtain ⟨x1, h1, hF⟩ := lS hF
   refine RJ (.b (seal_fault_ok h1) .z) ?_
   cases hF
   exact Wz [] hfin
  ·refine RJ (.l e_Copy said .z) ?_
   refine NmS (fun v => seal_Choose_v1_J1 num said v = some r) (fun Z v => Z.up [0, 1, 5] [5] [] [] [] [] [] []) ?_ ?_
   ·refine Nblk ?_
    unfold seal_Choose_v1_L2 at hF
    refine Nits hF [] (fun Z v4 => Z.up [0, 1, 5, 24, 25, 26] [5] [] [] [(26, .i v4)] [] [] []) ?_
    intro n1 v4 y1 hF ih1 dn1
    unfold seal_Choose_v1_B2 at hF
    refine LR0 ?_
    refine Nif hF ?_ ?_ <;> intro hb hF
    ·refine Nblk ?_
     obtain ⟨h8, hF⟩ := aE hF
     refine RJ (.i e_Copy h8 .z) ?_
     obtain ⟨x4, h9, hF⟩ := oE hF
     refine RJ (.b (seal_Check_ok h9) .z) ?_
     refine LR0 ?_
     refine Nif hF ?_ ?_ <;> intro hb hF
     ·obtain ⟨x5, h10, hF⟩ := lS hF
      refine RJ (.b (seal_fault_ok h10) .z) ?_
      have hF := ret_done hF dn1
      cases hF
      exact Wz [] hfin
     ·refine LR0 ?_
      refine Nif hF ?_ ?_ <;> intro hb hF
      ·obtain ⟨x6, h11, hF⟩ := lS hF
       refine RJ (.b (seal_fault_ok h11) .z) ?_
       have hF := ret_done hF dn1
       cases hF
       exact Wz [] hfin
      ·refine LR0 ?_
       exact Nrnq [] hF ih1
    ·refine Nexit rfl ?_
     have hF := inrO_done hF dn1
     exact metQ () [] hF
   ·intro v hF
    unfold seal_Choose_v1_J1 at hF
    refine RJ (.l e_Copy said .z) ?_
    refine Nif hF ?_ ?_ <;> intro hb hF
    ·obtain ⟨x2, h2, hF⟩ := lS hF
     refine RJ (.b (seal_fault_ok h2) .z) ?_
     cases hF
     exact Wz [] hfin
    ·obtain ⟨h3, hF⟩ := aE hF
     refine RJ (.i e_Copy h3 .z) ?_
     obtain ⟨h4, hF⟩ := aE hF
     refine RJ (.s10 e_Copy h4 (.l e_Copy (ldrop said 1) .z)) ?_
     refine NmS (fun v1 => seal_Choose_v1_J2 v1 = some r) (fun Z v1 => Z.up [5, 9] [5, 9] [] [] [] [(9, (c_Copy v1))] [] []) ?_ ?_
     ·refine Nblk ?_
      unfold seal_Choose_v1_L1 at hF
      refine Nits hF [] (fun Z v2 => Z.up [5, 9, 56, 57, 58] [5, 9] [] [] [(58, .i v2.2)] [(9, (c_Copy v2.1))] [] []) ?_
      intro n1 v2 y1 hF ih1 dn1
      unfold seal_Choose_v1_B1 at hF
      refine LR0 ?_
      refine Nif hF ?_ ?_ <;> intro hb hF
      ·refine Nblk ?_
       obtain ⟨h7, hF⟩ := aE hF
       refine RJ (.i e_Copy h7 .z) ?_
       refine RJ (.a (.nat (((lget (ldrop said 1) v2.2).Recs).length : Int)) (.g (fun (_ : ((decide (v2.1.Ended = 0)) && (decide (((lget (ldrop said 1) v2.2).Ended) = 0))) = true) (_ : (!(decide (v2.1.Ended < ((lget (ldrop said 1) v2.2).Ended)))) = true) => (len_ok e_str ((lget (ldrop said 1) v2.2).Recs))) (.a (.nat (v2.1.Recs.length : Int)) (.g (fun (_ : ((decide (v2.1.Ended = 0)) && (decide (((lget (ldrop said 1) v2.2).Ended) = 0))) = true) (_ : (!(decide (v2.1.Ended < ((lget (ldrop said 1) v2.2).Ended)))) = true) => (len_ok e_str v2.1.Recs)) .z)))) ?_
       obtain ⟨v3, hv, hF⟩ := oE hF
       refine NmT (fun Z => Z.up [5, 9, 56, 57, 58] [5, 9] [] [] [] [(9, (c_Copy v3))] [] []) ?_ ?_
       ·have hF := hv
        refine Nif hF ?_ ?_ <;> intro hb hF
        ·refine LR0 ?_
         cases hF
         exact met' []
        ·cases hF
         exact met' []
       ·refine LR0 ?_
        exact Nrnq [] hF ih1
      ·refine Nexit rfl ?_
       have hF := inrO_done hF dn1
       exact metQ v2.1 [] hF
     ·intro v1 hF
      unfold seal_Choose_v1_J2 at hF
      obtain ⟨x3, h5, hF⟩ := oE hF
      have p6 := (Pe.ren (slices_Clone_string_string_ok h5) ⟨[], [(5, 90)], [], []⟩)
      refine RJ (.e [] [] p6 .z) ?_
      cases hF
      exact Wz [] hfin

/- tabularyref.Chosen -/
def R_Chosen_J3 (v2 : Unit) : Option (List (List UInt8) × Fault) :=
 some (([] : List (List UInt8)), (⟨0, 0⟩ : Fault))
def R_Chosen_B1 (said : List Copy) (v1 : Int × Int) (v3 : Int) : Option (Int ⊕ (List (List UInt8) × Fault)) :=
 if (decide (v3 < (said.length : Int))) = true then
  asrt (0 ≤ v3 ∧ v3 < (said.length : Int)) <|
  asrt ((!(decide (0 < v1.1))) = true → (decide (((lget said v3).Ended) = v1.1)) = true → 0 ≤ v3 ∧ v3 < (said.length : Int)) <|
  if ((decide (((lget said v3).Ended) = v1.1)) && ((decide (0 < v1.1)) || (decide ((((lget said v3).Recs).length : Int) = v1.2)))) = true then
   asrt (0 ≤ v3 ∧ v3 < (said.length : Int)) <|
   asrt ((((lget said v3).Recs).length : Int) * 16 ≤ 140737488351232) <|
   some (Sum.inr (((lget said v3).Recs), (⟨0, 0⟩ : Fault)))
  else
   some (Sum.inl (w64 (v3 + 1)))
 else
  inrO (R_Chosen_J3 ())
def R_Chosen_L1 (said : List Copy) (v1 : Int × Int) (v0 : Int) : Option (List (List UInt8) × Fault) :=
 loopO (fun y => R_Chosen_B1 said v1 y) v0
def R_Chosen_J2 (said : List Copy) (v1 : Int × Int) : Option (List (List UInt8) × Fault) :=
 R_Chosen_L1 said v1 0
def R_Chosen_B2 (said : List Copy) (v4 : Int × Int × Int) : Option ((Int × Int × Int) ⊕ (List (List UInt8) × Fault)) :=
 if (decide (v4.2.2 < (said.length : Int))) = true then
  asrt (0 ≤ v4.2.2 ∧ v4.2.2 < (said.length : Int)) <|
  asrt (0 ≤ v4.2.2 ∧ v4.2.2 < (said.length : Int)) <|
  some (Sum.inl ((max v4.1 ((lget said v4.2.2).Ended)), (max v4.2.1 (((lget said v4.2.2).Recs).length : Int)), w64 (v4.2.2 + 1)))
 else
  inrO (R_Chosen_J2 said (v4.1, v4.2.1))
def R_Chosen_L2 (said : List Copy) (v0 : Int × Int × Int) : Option (List (List UInt8) × Fault) :=
 loopO (fun y => R_Chosen_B2 said y) v0
def R_Chosen_J1 (num : Int) (said : List Copy) (v : Unit) : Option (List (List UInt8) × Fault) :=
 if (decide ((w64 (2 * (said.length : Int))) ≤ num)) = true then
  lt (R_F 6 (-1)) fun x2 =>
  some (([] : List (List UInt8)), x2)
 else
  R_Chosen_L2 said (0, 0, 0)
def R_Chosen_B3 (num : Int) (said : List Copy) (v5 : Int) : Option (Int ⊕ (List (List UInt8) × Fault)) :=
 if (decide (v5 < (said.length : Int))) = true then
  asrt (0 ≤ v5 ∧ v5 < (said.length : Int)) <|
  ob (R_CopyFault (⟨(lget said v5).Epoch, (lget said v5).Closed, (lget said v5).Recs, (lget said v5).Ended⟩ : Copy)) fun x3 =>
  if (!decide (x3.Code = 0)) = true then
   asrt (0 ≤ v5 ∧ v5 < (said.length : Int)) <|
   ob (R_CopyFault (⟨(lget said v5).Epoch, (lget said v5).Closed, (lget said v5).Recs, (lget said v5).Ended⟩ : Copy)) fun x4 =>
   lt (R_F x4.Code v5) fun x5 =>
   some (Sum.inr (([] : List (List UInt8)), x5))
  else
   asrt (0 ≤ v5 ∧ v5 < (said.length : Int)) <|
   if (!((lget said v5).Closed)) = true then
    lt (R_F 11 v5) fun x6 =>
    some (Sum.inr (([] : List (List UInt8)), x6))
   else
    some (Sum.inl (w64 (v5 + 1)))
 else
  inrO (R_Chosen_J1 num said ())
def R_Chosen_L3 (num : Int) (said : List Copy) (v0 : Int) : Option (List (List UInt8) × Fault) :=
 loopO (fun y => R_Chosen_B3 num said y) v0
def R_Chosen (num : Int) (said : List Copy) : Option (List (List UInt8) × Fault) :=
 if ((decide (num < 1)) || (decide (7 < num))) = true then
  lt (R_F 3 (-1)) fun x =>
  some (([] : List (List UInt8)), x)
 else
  if (decide (num < (said.length : Int))) = true then
   lt (R_F 2 (-1)) fun x1 =>
   some (([] : List (List UInt8)), x1)
  else
   R_Chosen_L3 num said 0
theorem R_Chosen_ok {num said r} (hF : R_Chosen num said = some r) : Pe Try.prog 21 (.w []) [.i num, .sl 4 (said.map e_Copy)] (.tup [.row 111 0, .agg (c_Fault r.2)]) ⟨[], [], [(111, .z 9 1 0 (r.1.map e_str))], [], []⟩ := by
 refine PT 114 [.tmp 4, .cell 5 29] [22, 29] Try.func21 ?_
 intro Q g hfin
 unfold R_Chosen at hF
 refine LR0 ?_
 refine LR0 ?_
 refine Nif hF ?_ ?_ <;> intro hb hF
 ·obtain ⟨x, h0, hF⟩ := lS hF
  refine VR [.callB (.agg (c_Fault x))] [4, 5] [5] [] [] [(4, .nils), (5, .ptr 5 0)] [(5, (c_Fault x))] [] [] (hc (R_F_ok h0) .nil) ?_
  cases hF
  refine Wk_nilrow 4 60000 9 1 rfl rfl rfl ?_
  refine Wk_ren' ⟨[], [(60000, 111)], [], []⟩ rfl ?_
  exact Wz [] hfin
 ·refine RJ (.l e_Copy said .z) ?_
  refine Nif hF ?_ ?_ <;> intro hb hF
  ·obtain ⟨x1, h1, hF⟩ := lS hF
   refine VR [.callB (.agg (c_Fault x1))] [4, 5] [5] [] [] [(4, .nils), (5, .ptr 5 0)] [(5, (c_Fault x1))] [] [] (hc (R_F_ok h1) .nil) ?_
   cases hF
   refine Wk_nilrow 4 60001 9 1 rfl rfl rfl ?_
   refine Wk_ren' ⟨[], [(60001, 111)], [], []⟩ rfl ?_
   exact Wz [] hfin
  ·refine LR0 ?_
   refine NmS (fun v => R_Chosen_J1 num said v = some r) (fun Z v => Z.up [0, 1, 5] [5] [] [] [] [] [] []) ?_ ?_
   ·refine Nblk ?_
    unfold R_Chosen_L3 at hF
    refine Nits hF [] (fun Z v5 => Z.up [0, 1, 5, 6] [5] [] [] [(6, .i v5)] [] [] []) ?_
    intro n1 v5 y1 hF ih1 dn1
    unfold R_Chosen_B3 at hF
    refine RJ (.l e_Copy said .z) ?_
    refine Nif hF ?_ ?_ <;> intro hb hF
    ·refine Nblk ?_
     obtain ⟨h9, hF⟩ := aE hF
     obtain ⟨x3, h10, hF⟩ := oE hF
     refine RJ (.i e_Copy h9 (.b (R_CopyFault_ok h10) .z)) ?_
     refine Nif hF ?_ ?_ <;> intro hb hF
     ·obtain ⟨h11, hF⟩ := aE hF
      obtain ⟨x4, h12, hF⟩ := oE hF
      obtain ⟨x5, h13, hF⟩ := lS hF
      refine VR [.av (e_Copy (lget said v5)), .callB (.agg (c_Fault x4)), .callB (.agg (c_Fault x5))] [4, 5] [5] [] [] [(4, .nils), (5, .ptr 5 0)] [(5, (c_Fault x5))] [] [] (hc (idx_ok e_Copy h11) (hc (R_CopyFault_ok h12) (hc (R_F_ok h13) .nil))) ?_
      have hF := ret_done hF dn1
      cases hF
      refine Wk_nilrow 4 60004 9 1 rfl rfl rfl ?_
      refine Wk_ren' ⟨[], [(60004, 111)], [], []⟩ rfl ?_
      exact Wz [] hfin
     ·obtain ⟨h14, hF⟩ := aE hF
      refine RJ (.i e_Copy h14 .z) ?_
      refine Nif hF ?_ ?_ <;> intro hb hF
      ·obtain ⟨x6, h15, hF⟩ := lS hF
       refine VR [.callB (.agg (c_Fault x6))] [4, 5] [5] [] [] [(4, .nils), (5, .ptr 5 0)] [(5, (c_Fault x6))] [] [] (hc (R_F_ok h15) .nil) ?_
       have hF := ret_done hF dn1
       cases hF
       refine Wk_nilrow 4 60005 9 1 rfl rfl rfl ?_
       refine Wk_ren' ⟨[], [(60005, 111)], [], []⟩ rfl ?_
       exact Wz [] hfin
      ·refine LR0 ?_
       exact Nrnq [] hF ih1
    ·refine Nexit rfl ?_
     have hF := inrO_done hF dn1
     exact metQ () [] hF
   ·intro v hF
    unfold R_Chosen_J1 at hF
    refine RJ (.l e_Copy said .z) ?_
    refine Nif hF ?_ ?_ <;> intro hb hF
    ·obtain ⟨x2, h2, hF⟩ := lS hF
     refine VR [.callB (.agg (c_Fault x2))] [4, 5] [5] [] [] [(4, .nils), (5, .ptr 5 0)] [(5, (c_Fault x2))] [] [] (hc (R_F_ok h2) .nil) ?_
     cases hF
     refine Wk_nilrow 4 60002 9 1 rfl rfl rfl ?_
     refine Wk_ren' ⟨[], [(60002, 111)], [], []⟩ rfl ?_
     exact Wz [] hfin
    ·refine LR0 ?_
     refine LR0 ?_
     refine NmS (fun v1 => R_Chosen_J2 said v1 = some r) (fun Z v1 => Z.up [1, 5, 7, 8] [5] [] [] [(7, .i v1.1), (8, .i v1.2)] [] [] []) ?_ ?_
     ·refine Nblk ?_
      unfold R_Chosen_L2 at hF
      refine Nits hF [] (fun Z v4 => Z.up [1, 5, 7, 8, 9] [5] [] [] [(7, .i v4.1), (8, .i v4.2.1), (9, .i v4.2.2)] [] [] []) ?_
      intro n1 v4 y1 hF ih1 dn1
      unfold R_Chosen_B2 at hF
      refine RJ (.l e_Copy said .z) ?_
      refine Nif hF ?_ ?_ <;> intro hb hF
      ·refine Nblk ?_
       obtain ⟨h7, hF⟩ := aE hF
       refine RJ (.i e_Copy h7 .z) ?_
       obtain ⟨h8, hF⟩ := aE hF
       refine RJ (.i e_Copy h8 (.l e_str ((lget said v4.2.2).Recs) .z)) ?_
       refine LR0 ?_
       exact Nrnq [] hF ih1
      ·refine Nexit rfl ?_
       have hF := inrO_done hF dn1
       exact metQ (v4.1, v4.2.1) [] hF
     ·intro v1 hF
      unfold R_Chosen_J2 at hF
      refine LR0 ?_
      refine NmS (fun v2 => R_Chosen_J3 v2 = some r) (fun Z v2 => Z.up [5] [5] [] [] [] [] [] []) ?_ ?_
      ·refine Nblk ?_
       unfold R_Chosen_L1 at hF
       refine Nits hF [] (fun Z v3 => Z.up [1, 5, 7, 8, 10] [5] [] [] [(10, .i v3)] [] [] []) ?_
       intro n1 v3 y1 hF ih1 dn1
       unfold R_Chosen_B1 at hF
       refine RJ (.l e_Copy said .z) ?_
       refine Nif hF ?_ ?_ <;> intro hb hF
       ·refine Nblk ?_
        obtain ⟨h3, h4, hF⟩ := asrt2 hF
        refine RJ (.i e_Copy h3 (.a (.av (e_Copy (lget said v3))) (.g (fun (ga0 : (!(decide (0 < v1.1))) = true) (ga1 : (decide (((lget said v3).Ended) = v1.1)) = true) => (idx_ok e_Copy (h4 ga0 ga1))) (.a (.nat (((lget said v3).Recs).length : Int)) (.g (fun (_ : (!(decide (0 < v1.1))) = true) (_ : (decide (((lget said v3).Ended) = v1.1)) = true) => (len_ok e_str ((lget said v3).Recs))) .z))))) ?_
        refine Nif hF ?_ ?_ <;> intro hb hF
        ·obtain ⟨h5, hF⟩ := aE hF
         obtain ⟨h6, hF⟩ := aE hF
         refine RJ (.i e_Copy h5 (.p0 e_str h6 .z)) ?_
         have hF := ret_done hF dn1
         cases hF
         exact Wz [(111, ⟨0, true, true, false⟩)] hfin
        ·refine LR0 ?_
         exact Nrnq [] hF ih1
       ·refine Nexit rfl ?_
        have hF := inrO_done hF dn1
        exact metQ () [] hF
      ·intro v2 hF
       unfold R_Chosen_J3 at hF
       refine VR [] [4, 5] [5] [] [] [(4, .nils), (5, .ptr 5 0)] [(5, [.i 0, .i 0])] [] [] .nil ?_
       cases hF
       refine Wk_nilrow 4 60003 9 1 rfl rfl rfl ?_
       refine Wk_ren' ⟨[], [(60003, 111)], [], []⟩ rfl ?_
       exact Wz [] hfin

/- tabularyref.Chosen -/
def R_Chosen_v1_J3 (v2 : Unit) : Option (List (List UInt8) × Fault) :=
 some (([] : List (List UInt8)), (⟨0, 0⟩ : Fault))
def R_Chosen_v1_B1 (said : List Copy) (v1 : Int × Int) (v3 : Int) : Option (Int ⊕ (List (List UInt8) × Fault)) :=
 if (decide (v3 < (said.length : Int))) = true then
  asrt (0 ≤ v3 ∧ v3 < (said.length : Int)) <|
  asrt ((!(decide (0 < v1.1))) = true → (decide (((lget said v3).Ended) = v1.1)) = true → 0 ≤ v3 ∧ v3 < (said.length : Int)) <|
  if ((decide (((lget said v3).Ended) = v1.1)) && ((decide (0 < v1.1)) || (decide ((((lget said v3).Recs).length : Int) = v1.2)))) = true then
   asrt (0 ≤ v3 ∧ v3 < (said.length : Int)) <|
   asrt ((((lget said v3).Recs).length : Int) * 16 ≤ 140737488351232) <|
   some (Sum.inr (((lget said v3).Recs), (⟨0, 0⟩ : Fault)))
  else
   some (Sum.inl (w64 (v3 + 1)))
 else
  inrO (R_Chosen_v1_J3 ())
def R_Chosen_v1_L1 (said : List Copy) (v1 : Int × Int) (v0 : Int) : Option (List (List UInt8) × Fault) :=
 loopO (fun y => R_Chosen_v1_B1 said v1 y) v0
def R_Chosen_v1_J2 (said : List Copy) (v1 : Int × Int) : Option (List (List UInt8) × Fault) :=
 R_Chosen_v1_L1 said v1 0
def R_Chosen_v1_B2 (said : List Copy) (v4 : Int × Int × Int) : Option ((Int × Int × Int) ⊕ (List (List UInt8) × Fault)) :=
 if (decide (v4.2.2 < (said.length : Int))) = true then
  asrt (0 ≤ v4.2.2 ∧ v4.2.2 < (said.length : Int)) <|
  asrt (0 ≤ v4.2.2 ∧ v4.2.2 < (said.length : Int)) <|
  some (Sum.inl ((max v4.1 ((lget said v4.2.2).Ended)), (max v4.2.1 (((lget said v4.2.2).Recs).length : Int)), w64 (v4.2.2 + 1)))
 else
  inrO (R_Chosen_v1_J2 said (v4.1, v4.2.1))
def R_Chosen_v1_L2 (said : List Copy) (v0 : Int × Int × Int) : Option (List (List UInt8) × Fault) :=
 loopO (fun y => R_Chosen_v1_B2 said y) v0
def R_Chosen_v1_J1 (num : Int) (said : List Copy) (v : Unit) : Option (List (List UInt8) × Fault) :=
 if (decide ((w64 (2 * (said.length : Int))) ≤ num)) = true then
  lt (R_F 6 (-1)) fun x2 =>
  some (([] : List (List UInt8)), x2)
 else
  R_Chosen_v1_L2 said (0, 0, 0)
def R_Chosen_v1_B3 (num : Int) (said : List Copy) (v5 : Int) : Option (Int ⊕ (List (List UInt8) × Fault)) :=
 if (decide (v5 < (said.length : Int))) = true then
  asrt (0 ≤ v5 ∧ v5 < (said.length : Int)) <|
  ob (R_CopyFault (⟨(lget said v5).Epoch, (lget said v5).Closed, (lget said v5).Recs, (lget said v5).Ended⟩ : Copy)) fun x3 =>
  if (!decide (x3.Code = 0)) = true then
   asrt (0 ≤ v5 ∧ v5 < (said.length : Int)) <|
   ob (R_CopyFault (⟨(lget said v5).Epoch, (lget said v5).Closed, (lget said v5).Recs, (lget said v5).Ended⟩ : Copy)) fun x4 =>
   lt (R_F x4.Code v5) fun x5 =>
   some (Sum.inr (([] : List (List UInt8)), x5))
  else
   asrt (0 ≤ v5 ∧ v5 < (said.length : Int)) <|
   if (!((lget said v5).Closed)) = true then
    lt (R_F 11 v5) fun x6 =>
    some (Sum.inr (([] : List (List UInt8)), x6))
   else
    some (Sum.inl (w64 (v5 + 1)))
 else
  inrO (R_Chosen_v1_J1 num said ())
def R_Chosen_v1_L3 (num : Int) (said : List Copy) (v0 : Int) : Option (List (List UInt8) × Fault) :=
 loopO (fun y => R_Chosen_v1_B3 num said y) v0
def R_Chosen_v1 (num : Int) (said : List Copy) : Option (List (List UInt8) × Fault) :=
 if ((decide (num < 1)) || (decide (7 < num))) = true then
  lt (R_F 3 (-1)) fun x =>
  some (([] : List (List UInt8)), x)
 else
  if (decide (num < (said.length : Int))) = true then
   lt (R_F 2 (-1)) fun x1 =>
   some (([] : List (List UInt8)), x1)
  else
   R_Chosen_v1_L3 num said 0
theorem R_Chosen_v1_ok {num said r} (hF : R_Chosen_v1 num said = some r) : Pe Try.prog 21 S.none [.i num, .sl 4 (said.map e_Copy)] (.tup [.sl 1 (r.1.map e_str), .agg (c_Fault r.2)]) S.none := by
 refine PT 114 [.tmp 4, .cell 5 29] [22, 29] Try.func21 ?_
 intro Q g hfin
 unfold R_Chosen_v1 at hF
 refine LR0 ?_
 refine LR0 ?_
 refine Nif hF ?_ ?_ <;> intro hb hF
 ·obtain ⟨x, h0, hF⟩ := lS hF
  refine RJ (.b (R_F_ok h0) .z) ?_
  cases hF
  exact Wz [] hfin
 ·refine RJ (.l e_Copy said .z) ?_
  refine Nif hF ?_ ?_ <;> intro hb hF
  ·obtain ⟨x1, h1, hF⟩ := lS hF
   refine RJ (.b (R_F_ok h1) .z) ?_
   cases hF
   exact Wz [] hfin
  ·refine LR0 ?_
   refine NmS (fun v => R_Chosen_v1_J1 num said v = some r) (fun Z v => Z.up [0, 1, 5] [5] [] [] [] [] [] []) ?_ ?_
   ·refine Nblk ?_
    unfold R_Chosen_v1_L3 at hF
    refine Nits hF [] (fun Z v5 => Z.up [0, 1, 5, 6] [5] [] [] [(6, .i v5)] [] [] []) ?_
    intro n1 v5 y1 hF ih1 dn1
    unfold R_Chosen_v1_B3 at hF
    refine RJ (.l e_Copy said .z) ?_
    refine Nif hF ?_ ?_ <;> intro hb hF
    ·refine Nblk ?_
     obtain ⟨h9, hF⟩ := aE hF
     obtain ⟨x3, h10, hF⟩ := oE hF
     refine RJ (.i e_Copy h9 (.b (R_CopyFault_ok h10) .z)) ?_
     refine Nif hF ?_ ?_ <;> intro hb hF
     ·obtain ⟨h11, hF⟩ := aE hF
      obtain ⟨x4, h12, hF⟩ := oE hF
      obtain ⟨x5, h13, hF⟩ := lS hF
      refine RJ (.i e_Copy h11 (.b (R_CopyFault_ok h12) (.b (R_F_ok h13) .z))) ?_
      have hF := ret_done hF dn1
      cases hF
      exact Wz [] hfin
     ·obtain ⟨h14, hF⟩ := aE hF
      refine RJ (.i e_Copy h14 .z) ?_
      refine Nif hF ?_ ?_ <;> intro hb hF
      ·obtain ⟨x6, h15, hF⟩ := lS hF
       refine RJ (.b (R_F_ok h15) .z) ?_
       have hF := ret_done hF dn1
       cases hF
       exact Wz [] hfin
      ·refine LR0 ?_
       exact Nrnq [] hF ih1
    ·refine Nexit rfl ?_
     have hF := inrO_done hF dn1
     exact metQ () [] hF
   ·intro v hF
    unfold R_Chosen_v1_J1 at hF
    refine RJ (.l e_Copy said .z) ?_
    refine Nif hF ?_ ?_ <;> intro hb hF
    ·obtain ⟨x2, h2, hF⟩ := lS hF
     refine RJ (.b (R_F_ok h2) .z) ?_
     cases hF
     exact Wz [] hfin
    ·refine LR0 ?_
     refine LR0 ?_
     refine NmS (fun v1 => R_Chosen_v1_J2 said v1 = some r) (fun Z v1 => Z.up [1, 5, 7, 8] [5] [] [] [(7, .i v1.1), (8, .i v1.2)] [] [] []) ?_ ?_
     ·refine Nblk ?_
      unfold R_Chosen_v1_L2 at hF
      refine Nits hF [] (fun Z v4 => Z.up [1, 5, 7, 8, 9] [5] [] [] [(7, .i v4.1), (8, .i v4.2.1), (9, .i v4.2.2)] [] [] []) ?_
      intro n1 v4 y1 hF ih1 dn1
      unfold R_Chosen_v1_B2 at hF
      refine RJ (.l e_Copy said .z) ?_
      refine Nif hF ?_ ?_ <;> intro hb hF
      ·refine Nblk ?_
       obtain ⟨h7, hF⟩ := aE hF
       refine RJ (.i e_Copy h7 .z) ?_
       obtain ⟨h8, hF⟩ := aE hF
       refine RJ (.i e_Copy h8 (.l e_str ((lget said v4.2.2).Recs) .z)) ?_
       refine LR0 ?_
       exact Nrnq [] hF ih1
      ·refine Nexit rfl ?_
       have hF := inrO_done hF dn1
       exact metQ (v4.1, v4.2.1) [] hF
     ·intro v1 hF
      unfold R_Chosen_v1_J2 at hF
      refine LR0 ?_
      refine NmS (fun v2 => R_Chosen_v1_J3 v2 = some r) (fun Z v2 => Z.up [5] [5] [] [] [] [] [] []) ?_ ?_
      ·refine Nblk ?_
       unfold R_Chosen_v1_L1 at hF
       refine Nits hF [] (fun Z v3 => Z.up [1, 5, 7, 8, 10] [5] [] [] [(10, .i v3)] [] [] []) ?_
       intro n1 v3 y1 hF ih1 dn1
       unfold R_Chosen_v1_B1 at hF
       refine RJ (.l e_Copy said .z) ?_
       refine Nif hF ?_ ?_ <;> intro hb hF
       ·refine Nblk ?_
        obtain ⟨h3, h4, hF⟩ := asrt2 hF
        refine RJ (.i e_Copy h3 (.a (.av (e_Copy (lget said v3))) (.g (fun (ga0 : (!(decide (0 < v1.1))) = true) (ga1 : (decide (((lget said v3).Ended) = v1.1)) = true) => (idx_ok e_Copy (h4 ga0 ga1))) (.a (.nat (((lget said v3).Recs).length : Int)) (.g (fun (_ : (!(decide (0 < v1.1))) = true) (_ : (decide (((lget said v3).Ended) = v1.1)) = true) => (len_ok e_str ((lget said v3).Recs))) .z))))) ?_
        refine Nif hF ?_ ?_ <;> intro hb hF
        ·obtain ⟨h5, hF⟩ := aE hF
         obtain ⟨h6, hF⟩ := aE hF
         refine RJ (.i e_Copy h5 (.p0 e_str h6 .z)) ?_
         have hF := ret_done hF dn1
         cases hF
         exact Wz [] hfin
        ·refine LR0 ?_
         exact Nrnq [] hF ih1
       ·refine Nexit rfl ?_
        have hF := inrO_done hF dn1
        exact metQ () [] hF
      ·intro v2 hF
       unfold R_Chosen_v1_J3 at hF
       refine LR0 ?_
       cases hF
       exact Wz [] hfin

/- tabularylaw.SealChooses -/
def law_SealChooses_J2 (num : Int) (said : List Copy) (x1 : List (List UInt8) × Fault) (v1 : Unit) : Option Bool :=
 ob (R_Chosen_v1 num said) fun x2 =>
 ob (if (decide (x1.2.Code = x2.2.Code) && (decide (x1.2.At = x2.2.At) && true)) = true then (R_SameTexts x1.1 x2.1) else some default) fun x3 =>
 lt ((decide (x1.2.Code = x2.2.Code) && (decide (x1.2.At = x2.2.At) && true)) && x3) fun v2 =>
 some v2
def law_SealChooses_B1 (num : Int) (said v : List Copy) (x1 : List (List UInt8) × Fault) (v3 : Int) : Option (Int ⊕ Bool) :=
 if (decide (v3 < (said.length : Int))) = true then
  asrt (0 ≤ v3 ∧ v3 < (v.length : Int)) <|
  asrt (0 ≤ v3 ∧ v3 < (v.length : Int)) <|
  asrt (0 ≤ v3 ∧ v3 < (said.length : Int)) <|
  ob (R_SameCopy (⟨(lget v v3).Epoch, (lget v v3).Closed, (lget v v3).Recs, (lget v v3).Ended⟩ : Copy) (⟨(lget said v3).Epoch, (lget said v3).Closed, (lget said v3).Recs, (lget said v3).Ended⟩ : Copy)) fun x4 =>
  if (!x4) = true then
   some (Sum.inr false)
  else
   some (Sum.inl (w64 (v3 + 1)))
 else
  inrO (law_SealChooses_J2 num said x1 ())
def law_SealChooses_L1 (num : Int) (said v : List Copy) (x1 : List (List UInt8) × Fault) (v0 : Int) : Option Bool :=
 loopO (fun y => law_SealChooses_B1 num said v x1 y) v0
def law_SealChooses_J1 (num : Int) (said v : List Copy) : Option Bool :=
 ob (seal_Choose_v1 num v) fun x1 =>
 law_SealChooses_L1 num said v x1 0
def law_SealChooses_B2 (num : Int) (said : List Copy) (v4 : List Copy × Int) : Option ((List Copy × Int) ⊕ Bool) :=
 if (decide (v4.2 < (said.length : Int))) = true then
  asrt (0 ≤ v4.2 ∧ v4.2 < (said.length : Int)) <|
  if (decide (300 < (((lget said v4.2).Recs).length : Int))) = true then
   some (Sum.inr true)
  else
   asrt (0 ≤ v4.2 ∧ v4.2 < (said.length : Int)) <|
   ob (law_ownCopy (⟨(lget said v4.2).Epoch, (lget said v4.2).Closed, (lget said v4.2).Recs, (lget said v4.2).Ended⟩ : Copy)) fun x5 =>
   asrt (((v4.1 ++ [x5]).length : Int) * 48 ≤ 140737488351232) <|
   some (Sum.inl ((v4.1 ++ [x5]), w64 (v4.2 + 1)))
 else
  inrO (law_SealChooses_J1 num said v4.1)
def law_SealChooses_L2 (num : Int) (said : List Copy) (v0 : List Copy × Int) : Option Bool :=
 loopO (fun y => law_SealChooses_B2 num said y) v0
def law_SealChooses (num : Int) (said : List Copy) : Option Bool :=
 ob (law_sealBegun) fun x =>
 if (!x) = true then
  some false
 else
  if (decide (20 < (said.length : Int))) = true then
   some true
  else
   law_SealChooses_L2 num said (([] : List Copy), 0)
theorem law_SealChooses_ok {num said r} (hF : law_SealChooses num said = some r) : Pe Try.prog 4 S.none [.i num, .sl 4 (said.map e_Copy)] (.bool r) S.none := by
 refine PT 74 [.tmp 4] [4] Try.func4 ?_
 intro Q g hfin
 unfold law_SealChooses at hF
 refine LR0 ?_
 obtain ⟨x, h0, hF⟩ := oE hF
 refine RJ (.b (law_sealBegun_ok h0) .z) ?_
 refine Nif hF ?_ ?_ <;> intro hb hF
 ·refine LR0 ?_
  cases hF
  exact Wz [] hfin
 ·refine RJ (.l e_Copy said .z) ?_
  refine Nif hF ?_ ?_ <;> intro hb hF
  ·refine LR0 ?_
   cases hF
   exact Wz [] hfin
  ·refine LR0 ?_
   refine NR [] [0, 1, 5, 6] [] [] [(0, .i num), (1, .sl 4 (said.map e_Copy)), (5, .nils), (6, .i 0)] .nil ?_
   refine NmS (fun v => law_SealChooses_J1 num said v = some r) (fun Z v => Z.up [0, 1, 5] [] [37] [] [(5, .row 37 0)] [] [(37, .z 24 4 0 (v.map e_Copy))] []) ?_ ?_
   ·refine Nblk ?_
    unfold law_SealChooses_L2 at hF
    refine Wk_nilrow 5 60000 24 4 rfl rfl rfl ?_
    refine Wk_trim (fs := [0, 1, 5, 6]) (bs := []) (rs := [60000]) (ms := []) (aa := []) (nv := []) rfl ?_
    refine Wk_ren' ⟨[], [(60000, 37)], [], []⟩ rfl ?_
    refine Nitr hF [] (fun v4 => ⟨[(0, .i num), (1, .sl 4 (said.map e_Copy)), (5, .row 37 0), (6, .i v4.2)], [], [(37, .z 24 4 0 (v4.1.map e_Copy))], [], []⟩) ?_
    intro n1 v4 y1 hF ih1 dn1
    unfold law_SealChooses_B2 at hF
    refine RJ (.l e_Copy said .z) ?_
    refine Nif hF ?_ ?_ <;> intro hb hF
    ·refine Nblk ?_
     obtain ⟨h8, hF⟩ := aE hF
     refine RJ (.i e_Copy h8 (.l e_str ((lget said v4.2).Recs) .z)) ?_
     refine Nif hF ?_ ?_ <;> intro hb hF
     ·refine LR0 ?_
      have hF := ret_done hF dn1
      cases hF
      exact Wz [] hfin
     ·obtain ⟨h9, hF⟩ := aE hF
      obtain ⟨x5, h10, hF⟩ := oE hF
      obtain ⟨h11, hF⟩ := aE hF
      refine RJ (.i e_Copy h9 (.c (law_ownCopy_ok h10) (.a (.sealed) (.p e_Copy h11 .z)))) ?_
      refine LR0 ?_
      exact Nrnq [(37, ⟨0, true, true, false⟩)] hF ih1
    ·refine Nexit rfl ?_
     have hF := inrO_done hF dn1
     exact metQ v4.1 [] hF
   ·intro v hF
    unfold law_SealChooses_J1 at hF
    obtain ⟨x1, h1, hF⟩ := oE hF
    refine RJ (.c (seal_Choose_v1_ok h1) .z) ?_
    refine LR0 ?_
    refine NmS (fun v1 => law_SealChooses_J2 num said x1 v1 = some r) (fun Z v1 => Z.up [0, 1, 7, 8] [8] [] [] [] [] [] []) ?_ ?_
    ·refine Nblk ?_
     unfold law_SealChooses_L1 at hF
     refine Nits hF [] (fun Z v3 => Z.up [0, 1, 5, 7, 8, 9] [8] [37] [] [(9, .i v3)] [] [] []) ?_
     intro n1 v3 y1 hF ih1 dn1
     unfold law_SealChooses_B1 at hF
     refine RJ (.l e_Copy said .z) ?_
     refine Nif hF ?_ ?_ <;> intro hb hF
     ·refine Nblk ?_
      obtain ⟨h4, h5, hF⟩ := asrt2 hF
      obtain ⟨h6, hF⟩ := aE hF
      obtain ⟨x4, h7, hF⟩ := oE hF
      refine DJ (.x e_Copy h4 (.r e_Copy h5 (.i e_Copy h6 (.b (R_SameCopy_ok h7) .z)))) ?_
      refine Nif hF ?_ ?_ <;> intro hb hF
      ·refine LR0 ?_
       have hF := ret_done hF dn1
       cases hF
       exact Wz [] hfin
      ·refine LR0 ?_
       exact Nrnq [] hF ih1
     ·refine Nexit rfl ?_
      have hF := inrO_done hF dn1
      exact metQ () [] hF
    ·intro v1 hF
     unfold law_SealChooses_J2 at hF
     obtain ⟨x2, h2, hF⟩ := oE hF
     refine RJ (.c (R_Chosen_v1_ok h2) .z) ?_
     obtain ⟨x3, h3, hF⟩ := oE hF
     refine NRL ((decide (x1.2.Code = x2.2.Code) && (decide (x1.2.At = x2.2.At) && true)) && x3) (fun v2 : Bool => ([(4, .bool v2)], [], [], [])) [.callB (.bool x3)] [4] [] [] [] (hc (fun (ga0 : (decide (x1.2.Code = x2.2.Code) && (decide (x1.2.At = x2.2.At) && true)) = true) => (R_SameTexts_ok (ite_t h3 ga0))) .nil) (fun v2 hv => ?_)
     have hF := lt_elim hF hv
     cases hF
     exact Wz [] hfin

/- tabularyref.CopyVault -/
def R_CopyVault_J3 (v : Vault) (v1 : List Copy) (v2 : List (List Int)) (v3 : List Heal) : Option (List Copy × List (List UInt8) × List (List Int) × List Heal) :=
 some (v1, v.Wrote, v2, v3)
def R_CopyVault_B1 (v : Vault) (v1 : List Copy) (v2 : List (List Int)) (v4 : List Heal × Int) : Option ((List Heal × Int) ⊕ (List Copy × List (List UInt8) × List (List Int) × List Heal)) :=
 if (decide (v4.2 < (v.Heals.length : Int))) = true then
  asrt (0 ≤ v4.2 ∧ v4.2 < (v.Heals.length : Int)) <|
  asrt ((((lget v.Heals v4.2).Heard).length : Int) * 8 ≤ 140737488351232) <|
  asrt ((((lget v.Heals v4.2).Said).length : Int) * 48 ≤ 140737488351232) <|
  asrt ((((lget v.Heals v4.2).Ends).length : Int) * 8 ≤ 140737488351232) <|
  asrt (((v4.1 ++ [(⟨(lget v.Heals v4.2).Epoch, ((lget v.Heals v4.2).Heard), ((lget v.Heals v4.2).Said), (lget v.Heals v4.2).Has, (lget v.Heals v4.2).Recs, ((lget v.Heals v4.2).Ends)⟩ : Heal)]).length : Int) * 112 ≤ 140737488351232) <|
  lt ((v4.1 ++ [(⟨(lget v.Heals v4.2).Epoch, ((lget v.Heals v4.2).Heard), ((lget v.Heals v4.2).Said), (lget v.Heals v4.2).Has, (lget v.Heals v4.2).Recs, ((lget v.Heals v4.2).Ends)⟩ : Heal)])) fun v5 =>
  some (Sum.inl (v5, w64 (v4.2 + 1)))
 else
  inrO (R_CopyVault_J3 v v1 v2 v4.1)
def R_CopyVault_L1 (v : Vault) (v1 : List Copy) (v2 : List (List Int)) (v0 : List Heal × Int) : Option (List Copy × List (List UInt8) × List (List Int) × List Heal) :=
 loopO (fun y => R_CopyVault_B1 v v1 v2 y) v0
def R_CopyVault_J2 (v : Vault) (v1 : List Copy) (v2 : List (List Int)) : Option (List Copy × List (List UInt8) × List (List Int) × List Heal) :=
 R_CopyVault_L1 v v1 v2 (([] : List Heal), 0)
def R_CopyVault_B2 (v : Vault) (v1 : List Copy) (v6 : List (List Int) × Int) : Option ((List (List Int) × Int) ⊕ (List Copy × List (List UInt8) × List (List Int) × List Heal)) :=
 if (decide (v6.2 < (v.Took.length : Int))) = true then
  asrt (0 ≤ v6.2 ∧ v6.2 < (v.Took.length : Int)) <|
  asrt (((lget v.Took v6.2).length : Int) * 8 ≤ 140737488351232) <|
  asrt (((v6.1 ++ [(lget v.Took v6.2)]).length : Int) * 24 ≤ 140737488351232) <|
  some (Sum.inl ((v6.1 ++ [(lget v.Took v6.2)]), w64 (v6.2 + 1)))
 else
  inrO (R_CopyVault_J2 v v1 v6.1)
def R_CopyVault_L2 (v : Vault) (v1 : List Copy) (v0 : List (List Int) × Int) : Option (List Copy × List (List UInt8) × List (List Int) × List Heal) :=
 loopO (fun y => R_CopyVault_B2 v v1 y) v0
def R_CopyVault_J1 (v : Vault) (v1 : List Copy) : Option (List Copy × List (List UInt8) × List (List Int) × List Heal) :=
 asrt ((v.Wrote.length : Int) * 16 ≤ 140737488351232) <|
 R_CopyVault_L2 v v1 (([] : List (List Int)), 0)
def R_CopyVault_B3 (v : Vault) (v7 : List Copy × Int) : Option ((List Copy × Int) ⊕ (List Copy × List (List UInt8) × List (List Int) × List Heal)) :=
 if (decide (v7.2 < (v.Copies.length : Int))) = true then
  asrt (0 ≤ v7.2 ∧ v7.2 < (v.Copies.length : Int)) <|
  asrt ((((lget v.Copies v7.2).Recs).length : Int) * 16 ≤ 140737488351232) <|
  asrt (((v7.1 ++ [(⟨(lget v.Copies v7.2).Epoch, (lget v.Copies v7.2).Closed, ((lget v.Copies v7.2).Recs), (lget v.Copies v7.2).Ended⟩ : Copy)]).length : Int) * 48 ≤ 140737488351232) <|
  lt ((v7.1 ++ [(⟨(lget v.Copies v7.2).Epoch, (lget v.Copies v7.2).Closed, ((lget v.Copies v7.2).Recs), (lget v.Copies v7.2).Ended⟩ : Copy)])) fun v8 =>
  some (Sum.inl (v8, w64 (v7.2 + 1)))
 else
  inrO (R_CopyVault_J1 v v7.1)
def R_CopyVault_L3 (v : Vault) (v0 : List Copy × Int) : Option (List Copy × List (List UInt8) × List (List Int) × List Heal) :=
 loopO (fun y => R_CopyVault_B3 v y) v0
def R_CopyVault (v : Vault) : Option (List Copy × List (List UInt8) × List (List Int) × List Heal) :=
 R_CopyVault_L3 v (([] : List Copy), 0)
theorem R_CopyVault_ok {v r} (hF : R_CopyVault v = some r) : Pe Try.prog 47 (.w []) [.agg (c_Vault v)] (.agg [.row 29 0, .row 33 1, .row 60002 0, .row 60003 0]) ⟨[], [], [(29, .z 24 4 0 (r.1.map e_Copy)), (33, .z 9 1 1 (r.2.1.map e_str)), (60002, ⟨54, 1, 0, 0, 0, true, 2, [], (r.2.2.1.map o_L_i64)⟩), (60003, ⟨58, 6, 0, 0, 0, true, 2, [], (r.2.2.2.map o_Heal)⟩)], [], []⟩ := by
 refine PT 84 [.cell 2 46] [46] Try.func47 ?_
 intro Q g hfin
 unfold R_CopyVault at hF
 refine VR [] [1, 2] [1, 2] [] [] [(1, .ptr 1 0), (2, .ptr 2 0)] [(1, (c_Vault v)), (2, [.nils, .nils, .nils, .nils])] [] [] .nil ?_
 refine Wk_nilrowBP 2 2 2 60000 54 1 rfl rfl rfl rfl rfl ?_
 refine Wk_nilrowBP 2 2 3 60001 58 6 rfl rfl rfl rfl rfl ?_
 refine VR [] [1, 2, 3] [1, 2, 3] [60000, 60001] [] [(1, .ptr 1 0), (2, .ptr 2 0), (3, .ptr 3 0)] [(1, (c_Vault v)), (2, [.nils, .nils, .row 60000 0, .row 60001 0]), (3, [.nils, .nils, .nils, .nils])] [(60000, ⟨54, 1, 0, 0, 0, true, 2, [], (([] : List (List Int)).map o_L_i64)⟩), (60001, ⟨58, 6, 0, 0, 0, true, 2, [], (([] : List Heal).map o_Heal)⟩)] [] .nil ?_
 refine Wk_nilrowBP 2 3 2 60002 54 1 rfl rfl rfl rfl rfl ?_
 refine Wk_nilrowBP 2 3 3 60003 58 6 rfl rfl rfl rfl rfl ?_
 refine VR [] [1, 2, 3, 4] [1, 2, 3] [60000, 60001, 60002, 60003] [] [(1, .ptr 1 0), (2, .ptr 2 0), (3, .ptr 3 0), (4, .i 0)] [(1, (c_Vault v)), (2, [.nils, .nils, .row 60000 0, .row 60001 0]), (3, [.nils, .nils, .row 60002 0, .row 60003 0])] [(60000, ⟨54, 1, 0, 0, 0, true, 2, [], (([] : List (List Int)).map o_L_i64)⟩), (60001, ⟨58, 6, 0, 0, 0, true, 2, [], (([] : List Heal).map o_Heal)⟩), (60002, ⟨54, 1, 0, 0, 0, true, 2, [], (([] : List (List Int)).map o_L_i64)⟩), (60003, ⟨58, 6, 0, 0, 0, true, 2, [], (([] : List Heal).map o_Heal)⟩)] [] .nil ?_
 refine NmS (fun v1 => R_CopyVault_J1 v v1 = some r) (fun Z v1 => Z.up [1, 2, 3] [1, 2, 3] [29, 60000, 60001, 60002, 60003] [] [] [(3, [.row 29 0, .nils, .row 60002 0, .row 60003 0])] [(29, .z 24 4 0 (v1.map e_Copy))] []) ?_ ?_
 ·refine Nblk ?_
  unfold R_CopyVault_L3 at hF
  refine Wk_nilrowB 3 0 60004 24 4 rfl rfl rfl rfl rfl ?_
  refine Wk_trim (fs := [1, 2, 3, 4]) (bs := [1, 2, 3]) (rs := [60000, 60001, 60002, 60003, 60004]) (ms := []) (aa := []) (nv := []) rfl ?_
  refine Wk_ren' ⟨[], [(60004, 29)], [], []⟩ rfl ?_
  refine Nitr hF [] (fun v7 => ⟨[(1, .ptr 1 0), (2, .ptr 2 0), (3, .ptr 3 0), (4, .i v7.2)], [(1, (c_Vault v)), (2, [.nils, .nils, .row 60000 0, .row 60001 0]), (3, [.row 29 0, .nils, .row 60002 0, .row 60003 0])], [(29, .z 24 4 0 (v7.1.map e_Copy)), (60000, ⟨54, 1, 0, 0, 0, true, 2, [], (([] : List (List Int)).map o_L_i64)⟩), (60001, ⟨58, 6, 0, 0, 0, true, 2, [], (([] : List Heal).map o_Heal)⟩), (60002, ⟨54, 1, 0, 0, 0, true, 2, [], (([] : List (List Int)).map o_L_i64)⟩), (60003, ⟨58, 6, 0, 0, 0, true, 2, [], (([] : List Heal).map o_Heal)⟩)], [], []⟩) ?_
  intro n1 v7 y1 hF ih1 dn1
  unfold R_CopyVault_B3 at hF
  refine RJ (.l e_Copy v.Copies .z) ?_
  refine Nif hF ?_ ?_ <;> intro hb hF
  ·refine Nblk ?_
   obtain ⟨h10, hF⟩ := aE hF
   refine RJ (.i e_Copy h10 .z) ?_
   obtain ⟨h11, hF⟩ := aE hF
   refine RJ (.p0 e_str h11 .z) ?_
   obtain ⟨h12, hF⟩ := aE hF
   obtain ⟨v8, hv, hF⟩ := lS hF
   refine RJ (.a (.sealed) (.pN e_Copy hv h12 .z)) ?_
   refine LR0 ?_
   exact Nrnq [(29, ⟨0, true, true, false⟩)] hF ih1
  ·refine Nexit rfl ?_
   have hF := inrO_done hF dn1
   exact metQ v7.1 [] hF
 ·intro v1 hF
  unfold R_CopyVault_J1 at hF
  obtain ⟨h0, hF⟩ := aE hF
  refine RJ (.p0 e_str h0 .z) ?_
  refine LR0 ?_
  refine NmS (fun v2 => R_CopyVault_J2 v v1 v2 = some r) (fun Z v2 => Z.up [1, 2, 3] [1, 2, 3] [29, 33, 60000, 60001, 60002, 60003] [] [] [] [(60002, ⟨54, 1, 0, 0, 0, true, 2, [], (v2.map o_L_i64)⟩)] []) ?_ ?_
  ·refine Nblk ?_
   unfold R_CopyVault_L2 at hF
   refine Nits hF [] (fun Z v6 => Z.up [1, 2, 3, 6] [1, 2, 3] [29, 33, 60000, 60001, 60002, 60003] [] [(6, .i v6.2)] [] [(60002, ⟨54, 1, 0, 0, 0, true, 2, [], (v6.1.map o_L_i64)⟩)] []) ?_
   intro n1 v6 y1 hF ih1 dn1
   unfold R_CopyVault_B2 at hF
   refine RJ (.l e_L_i64 v.Took .z) ?_
   refine Nif hF ?_ ?_ <;> intro hb hF
   ·refine Nblk ?_
    obtain ⟨h7, h8, hF⟩ := asrt2 hF
    obtain ⟨h9, hF⟩ := aE hF
    refine L_raise 60002 (hk := ?_)
    refine DJ (.i e_L_i64 h7 (.p0 e_i64 h8 (.a (.rows) (.a (.xs (v6.1.map o_L_i64 ++ [.row 49 1])) (.g (rfl : (v6.1.map o_L_i64 ++ [.row 49 1]) = (v6.1.map o_L_i64 ++ [.row 49 1])) (.g (opB o_L_i64 (.row 49 1) h9) .z)))))) ?_
    refine L_close 60002 v6.1.length [(0, 3, 1)] [] (u := .row 49 1) (zs := ((v6.1 ++ [(lget v.Took v6.2)]).map o_L_i64)) (.cons (opA o_L_i64 v6.1 (.row 49 1)) (.cons (clA o_L_i64 (.row 49 1) (rfl : (v6.1 ++ [(lget v.Took v6.2)]) = (v6.1 ++ [(lget v.Took v6.2)]))) (.cons (stl (f := o_L_i64) (fun _ => rfl) (v6.1 ++ [(lget v.Took v6.2)])) .nil))) (hk := ?_)
    refine LR0 ?_
    exact Nrnq [(60002, ⟨0, true, true, false⟩)] hF ih1
   ·refine Nexit rfl ?_
    have hF := inrO_done hF dn1
    exact metQ v6.1 [] hF
  ·intro v2 hF
   unfold R_CopyVault_J2 at hF
   refine LR0 ?_
   refine NmS (fun v3 => R_CopyVault_J3 v v1 v2 v3 = some r) (fun Z v3 => Z.up [2, 3] [2, 3] [29, 33, 60000, 60001, 60002, 60003] [] [] [] [(60003, ⟨58, 6, 0, 0, 0, true, 2, [], (v3.map o_Heal)⟩)] []) ?_ ?_
   ·refine Nblk ?_
    unfold R_CopyVault_L1 at hF
    refine Nits hF [] (fun Z v4 => Z.up [1, 2, 3, 7] [1, 2, 3] [29, 33, 60000, 60001, 60002, 60003] [] [(7, .i v4.2)] [] [(60003, ⟨58, 6, 0, 0, 0, true, 2, [], (v4.1.map o_Heal)⟩)] []) ?_
    intro n1 v4 y1 hF ih1 dn1
    unfold R_CopyVault_B1 at hF
    refine RJ (.l e_Heal v.Heals .z) ?_
    refine Nif hF ?_ ?_ <;> intro hb hF
    ·refine Nblk ?_
     obtain ⟨h1, hF⟩ := aE hF
     refine RJ (.i e_Heal h1 .z) ?_
     obtain ⟨h2, hF⟩ := aE hF
     refine RJ (.p0 e_i64 h2 .z) ?_
     obtain ⟨h3, hF⟩ := aE hF
     refine RJ (.p0 e_Copy h3 .z) ?_
     obtain ⟨h4, hF⟩ := aE hF
     refine RJ (.p0 e_i64 h4 .z) ?_
     obtain ⟨h5, hF⟩ := aE hF
     refine L_raise 60003 (hk := ?_)
     refine RJ (.a (.rows) (.a (.xs (v4.1.map o_Heal ++ [.agg [.i ((lget v.Heals v4.2).Epoch), .row 67 1, .row 71 1, .bool ((lget v.Heals v4.2).Has), .sl 1 (((lget v.Heals v4.2).Recs).map e_str), .row 75 1]])) (.g (rfl : (v4.1.map o_Heal ++ [.agg [.i ((lget v.Heals v4.2).Epoch), .row 67 1, .row 71 1, .bool ((lget v.Heals v4.2).Has), .sl 1 (((lget v.Heals v4.2).Recs).map e_str), .row 75 1]]) = (v4.1.map o_Heal ++ [.agg [.i ((lget v.Heals v4.2).Epoch), .row 67 1, .row 71 1, .bool ((lget v.Heals v4.2).Has), .sl 1 (((lget v.Heals v4.2).Recs).map e_str), .row 75 1]])) (.g (opB o_Heal (.agg [.i ((lget v.Heals v4.2).Epoch), .row 67 1, .row 71 1, .bool ((lget v.Heals v4.2).Has), .sl 1 (((lget v.Heals v4.2).Recs).map e_str), .row 75 1]) h5) .z)))) ?_
     obtain ⟨v5, h6, hF⟩ := lS hF
     refine L_close 60003 v4.1.length [(1, 3, 1), (2, 24, 4), (5, 3, 1)] [(4, 1)] (u := .agg [.i ((lget v.Heals v4.2).Epoch), .row 67 1, .row 71 1, .bool ((lget v.Heals v4.2).Has), .sl 1 (((lget v.Heals v4.2).Recs).map e_str), .row 75 1]) (zs := (v5.map o_Heal)) (.cons (opA o_Heal v4.1 (.agg [.i ((lget v.Heals v4.2).Epoch), .row 67 1, .row 71 1, .bool ((lget v.Heals v4.2).Has), .sl 1 (((lget v.Heals v4.2).Recs).map e_str), .row 75 1])) (.cons (clA o_Heal (.agg [.i ((lget v.Heals v4.2).Epoch), .row 67 1, .row 71 1, .bool ((lget v.Heals v4.2).Has), .sl 1 (((lget v.Heals v4.2).Recs).map e_str), .row 75 1]) h6) (.cons (stl (f := o_Heal) (fun _ => rfl) v5) .nil))) (hk := ?_)
     refine LR0 ?_
     exact Nrnq [(60003, ⟨0, true, true, false⟩)] hF ih1
    ·refine Nexit rfl ?_
     have hF := inrO_done hF dn1
     exact metQ v4.1 [] hF
   ·intro v3 hF
    unfold R_CopyVault_J3 at hF
    refine LR0 ?_
    cases hF
    exact Wz [] hfin

/- tabularyref.Has -/
def R_Has_J1 (v : Unit) : Option Bool :=
 some false
def R_Has_B1 (l : List Int) (num v1 : Int) : Option (Int ⊕ Bool) :=
 if (decide (v1 < (l.length : Int))) = true then
  asrt (0 ≤ v1 ∧ v1 < (l.length : Int)) <|
  if (decide ((lget l v1) = num)) = true then
   some (Sum.inr true)
  else
   some (Sum.inl (w64 (v1 + 1)))
 else
  inrO (R_Has_J1 ())
def R_Has_L1 (l : List Int) (num v0 : Int) : Option Bool :=
 loopO (fun y => R_Has_B1 l num y) v0
def R_Has (l : List Int) (num : Int) : Option Bool :=
 R_Has_L1 l num 0
theorem R_Has_ok {l num r} (hF : R_Has l num = some r) : Pe Try.prog 48 S.none [.sl 1 (l.map e_i64), .i num] (.bool r) S.none := by
 refine PT 18 [.tmp 4] [4] Try.func48 ?_
 intro Q g hfin
 unfold R_Has at hF
 refine LR0 ?_
 refine LR0 ?_
 refine NmQ (fun v => R_Has_J1 v = some r) (fun v => (.w [])) ?_ ?_
 ·refine Nblk ?_
  unfold R_Has_L1 at hF
  refine Nits hF [] (fun Z v1 => Z.up [0, 1, 5] [] [] [] [(5, .i v1)] [] [] []) ?_
  intro n1 v1 y1 hF ih1 dn1
  unfold R_Has_B1 at hF
  refine RJ (.l e_i64 l .z) ?_
  refine Nif hF ?_ ?_ <;> intro hb hF
  ·refine Nblk ?_
   obtain ⟨h0, hF⟩ := aE hF
   refine RJ (.i e_i64 h0 .z) ?_
   refine Nif hF ?_ ?_ <;> intro hb hF
   ·refine LR0 ?_
    have hF := ret_done hF dn1
    cases hF
    exact Wz [] hfin
   ·refine LR0 ?_
    exact Nrnq [] hF ih1
  ·refine Nexit rfl ?_
   have hF := inrO_done hF dn1
   exact metQ () [] hF
 ·intro v hF
  unfold R_Has_J1 at hF
  refine LR0 ?_
  cases hF
  exact Wz [] hfin

end
end G
end Go.Proofs.Yteckapomkemglaa
