/- The program's functions as plain functions, and that they are these. Written by a program (dec2.py). -/
import Derived.Test.YtcnngkigpfpalaaGf0
namespace Go.Proofs.Ytcnngkigpfpalaa
open Go Go.Dm
set_option linter.unusedVariables false
set_option linter.unusedSimpArgs false
set_option maxRecDepth 100000
namespace G
/- tabularyref.LastTerm -/
noncomputable def R_LastTerm (l : List Entry) : Option Int :=
  if (decide ((l.length : Int) = 0)) = true then
    some 0
  else
    asrt (0 ≤ w64 ((l.length : Int) - 1) ∧ w64 ((l.length : Int) - 1) < (l.length : Int)) <|
    some ((lget l (w64 ((l.length : Int) - 1))).Term)
theorem R_LastTerm_ok (l : List Entry) (r : Int) (hF : R_LastTerm l = some r) : Pe Try.prog 20 S.none [.sl 2 (l.map e_Entry)] (.int .i64 r) S.none := by
  refine Pe_of (N := 13) (res := [.tmp 2]) (ts := [3]) Ty.ok Fn.b20 Try.func20 rfl rfl rfl rfl rfl rfl ?_
  intro Q g hfin
  unfold R_LastTerm at hF
  refine Wk_seq ?_
  refine WR [] [0] [] [] [] [] [] ⟨[(0, .sl 2 (l.map e_Entry))], [], [], [], []⟩ .nil (by kernel_rfl) ?_
  refine Wk_seq ?_
  refine Wk_seq ?_
  refine WR [.nat (l.length : Int)] [0, 5] [] [] [] [] [] ⟨[(0, .sl 2 (l.map e_Entry)), (5, .bool (decide ((l.length : Int) = 0)))], [], [], [], []⟩ (.cons (len_ok e_Entry l) .nil) (by kernel_rfl) ?_
  refine Wk_split rfl (fun hb => ?_) (fun hb => ?_)
  · have hF := ite_t hF hb
    refine Wk_seq ?_
    refine WR [] [2] [] [] [] [] [] ⟨[(2, .int .i64 0)], [], [], [], []⟩ .nil (by kernel_rfl) ?_
    have hF := some_elim hF
    exact Wk_ret (hfin _ ⟨[], [], [], [], [], [], by first | (rw [← hF]; kernel_rfl) | kernel_rfl⟩)
  · have hF := ite_f hF hb
    refine Wk_skip ?_
    refine Wk_seq ?_
    obtain ⟨h0, hF⟩ := asrt_elim hF
    refine WR [.nat (l.length : Int), .av (e_Entry (lget l (w64 ((l.length : Int) - 1))))] [2] [] [] [] [] [] ⟨[(2, .int .i64 ((lget l (w64 ((l.length : Int) - 1))).Term))], [], [], [], []⟩ (.cons (len_ok e_Entry l) (.cons (idx_ok e_Entry h0) .nil)) (by kernel_rfl) ?_
    have hF := some_elim hF
    exact Wk_ret (hfin _ ⟨[], [], [], [], [], [], by first | (rw [← hF]; kernel_rfl) | kernel_rfl⟩)

/- tabularyref.OlderLog -/
noncomputable def R_OlderLog (l : List Entry) (num : Int) (term : Int) : Option Bool :=
  ob (R_LastTerm l) fun x =>
  if (!decide (x = term)) = true then
    ob (R_LastTerm l) fun x1 =>
    some (decide (x1 < term))
  else
    some (decide ((l.length : Int) < num))
theorem R_OlderLog_ok (l : List Entry) (num : Int) (term : Int) (r : Bool) (hF : R_OlderLog l num term = some r) : Pe Try.prog 24 S.none [.sl 2 (l.map e_Entry), .int .i64 num, .int .i64 term] (.bool r) S.none := by
  refine Pe_of (N := 19) (res := [.tmp 6]) (ts := [4]) Ty.ok Fn.b24 Try.func24 rfl rfl rfl rfl rfl rfl ?_
  intro Q g hfin
  unfold R_OlderLog at hF
  refine Wk_seq ?_
  refine WR [] [0, 1, 2] [] [] [] [] [] ⟨[(0, .sl 2 (l.map e_Entry)), (1, .int .i64 num), (2, .int .i64 term)], [], [], [], []⟩ .nil (by kernel_rfl) ?_
  refine Wk_seq ?_
  refine Wk_seq ?_
  obtain ⟨x, h0, hF⟩ := ob_elim hF
  refine WR [.callB (.int .i64 x)] [0, 1, 2, 10] [] [] [] [] [] ⟨[(0, .sl 2 (l.map e_Entry)), (1, .int .i64 num), (2, .int .i64 term), (10, .bool (!decide (x = term)))], [], [], [], []⟩ (.cons (R_LastTerm_ok l x h0) .nil) (by kernel_rfl) ?_
  refine Wk_split rfl (fun hb => ?_) (fun hb => ?_)
  · have hF := ite_t hF hb
    refine Wk_seq ?_
    obtain ⟨x1, h1, hF⟩ := ob_elim hF
    refine WR [.callB (.int .i64 x1)] [6] [] [] [] [] [] ⟨[(6, .bool (decide (x1 < term)))], [], [], [], []⟩ (.cons (R_LastTerm_ok l x1 h1) .nil) (by kernel_rfl) ?_
    have hF := some_elim hF
    exact Wk_ret (hfin _ ⟨[], [], [], [], [], [], by first | (rw [← hF]; kernel_rfl) | kernel_rfl⟩)
  · have hF := ite_f hF hb
    refine Wk_skip ?_
    refine Wk_seq ?_
    refine WR [.nat (l.length : Int)] [6] [] [] [] [] [] ⟨[(6, .bool (decide ((l.length : Int) < num)))], [], [], [], []⟩ (.cons (len_ok e_Entry l) .nil) (by kernel_rfl) ?_
    have hF := some_elim hF
    exact Wk_ret (hfin _ ⟨[], [], [], [], [], [], by first | (rw [← hF]; kernel_rfl) | kernel_rfl⟩)

/- tabularyref.LogsFault -/
noncomputable def R_LogsFault (a0 : List Entry) (b : List Entry) : Option Fault :=
  ob (R_LogFault a0) fun x =>
  ob (
    if (decide (x.Code = 0)) = true then
      ob (R_LogFault b) fun x1 =>
      if (!decide (x1.Code = 0)) = true then
        some ((⟨0, 0⟩ : Fault), (⟨x1.Code, w64 (x1.At - 1000)⟩ : Fault))
      else
        some ((⟨0, 0⟩ : Fault), x1)
    else
      some ((⟨0, 0⟩ : Fault), x)) fun (v : Fault × Fault) =>
  some v.2
theorem R_LogsFault_ok (a0 : List Entry) (b : List Entry) (r : Fault) (hF : R_LogsFault a0 b = some r) : Pe Try.prog 26 S.none [.sl 2 (a0.map e_Entry), .sl 2 (b.map e_Entry)] (.agg [.int .i64 r.Code, .int .i64 r.At]) S.none := by
  refine Pe_of (N := 21) (res := [.cell 4 26]) (ts := [26]) Ty.ok Fn.b26 Try.func26 rfl rfl rfl rfl rfl rfl ?_
  intro Q g hfin
  unfold R_LogsFault at hF
  refine Wk_seq ?_
  refine WR [] [0, 1, 4] [4] [] [] [] [] ⟨[(0, .sl 2 (a0.map e_Entry)), (1, .sl 2 (b.map e_Entry)), (4, .ptr 4 0)], [(4, [.int .i64 0, .int .i64 0])], [], [], []⟩ .nil (by kernel_rfl) ?_
  refine Wk_seq ?_
  obtain ⟨x, h0, hF⟩ := ob_elim hF
  refine WR [.callB (.agg [.int .i64 x.Code, .int .i64 x.At])] [1, 4, 5] [4, 5] [] [] [] [] ⟨[(1, .sl 2 (b.map e_Entry)), (4, .ptr 4 0), (5, .ptr 5 0)], [(4, [.int .i64 0, .int .i64 0]), (5, [.int .i64 x.Code, .int .i64 x.At])], [], [], []⟩ (.cons (R_LogFault_ok a0 x h0) .nil) (by kernel_rfl) ?_
  refine Wk_seq ?_
  refine Wk_seq ?_
  refine WR [] [1, 4, 5, 10] [4, 5] [] [] [] [] ⟨[(1, .sl 2 (b.map e_Entry)), (4, .ptr 4 0), (5, .ptr 5 0), (10, .bool (decide (x.Code = 0)))], [(4, [.int .i64 0, .int .i64 0]), (5, [.int .i64 x.Code, .int .i64 x.At])], [], [], []⟩ .nil (by kernel_rfl) ?_
  obtain ⟨v, hv, hF⟩ := ob_elim hF
  refine Wk_meet (⟨[(4, .ptr 4 0), (5, .ptr 5 0)], [(4, [.int .i64 v.1.Code, .int .i64 v.1.At]), (5, [.int .i64 v.2.Code, .int .i64 v.2.At])], [], [], []⟩ : S) ?_ ?_
  · have hF := hv
    refine Wk_split rfl (fun hb => ?_) (fun hb => ?_)
    · have hF := ite_t hF hb
      refine Wk_seq ?_
      obtain ⟨x1, h1, hF⟩ := ob_elim hF
      refine WR [.callB (.agg [.int .i64 x1.Code, .int .i64 x1.At])] [4, 5] [4, 5] [] [] [] [] ⟨[(4, .ptr 4 0), (5, .ptr 5 0)], [(4, [.int .i64 0, .int .i64 0]), (5, [.int .i64 x1.Code, .int .i64 x1.At])], [], [], []⟩ (.cons (R_LogFault_ok b x1 h1) .nil) (by kernel_rfl) ?_
      refine Wk_seq ?_
      refine WR [] [4, 5, 15] [4, 5] [] [] [] [] ⟨[(4, .ptr 4 0), (5, .ptr 5 0), (15, .bool (!decide (x1.Code = 0)))], [(4, [.int .i64 0, .int .i64 0]), (5, [.int .i64 x1.Code, .int .i64 x1.At])], [], [], []⟩ .nil (by kernel_rfl) ?_
      refine Wk_split rfl (fun hb => ?_) (fun hb => ?_)
      · have hF := ite_t hF hb
        refine WR [] [4, 5] [4, 5] [] [] [] [] ⟨[(4, .ptr 4 0), (5, .ptr 5 0)], [(4, [.int .i64 0, .int .i64 0]), (5, [.int .i64 x1.Code, .int .i64 (w64 (x1.At - 1000))])], [], [], []⟩ .nil (by kernel_rfl) ?_
        exact Wk_met (fs := [4, 5]) (bs := [4, 5]) (rs := []) (ms := []) (aa := []) (nv := []) (by first | (rw [← some_elim hF]; kernel_rfl) | kernel_rfl)
      · have hF := ite_f hF hb
        refine Wk_skip ?_
        exact Wk_met (fs := [4, 5]) (bs := [4, 5]) (rs := []) (ms := []) (aa := []) (nv := []) (by first | (rw [← some_elim hF]; kernel_rfl) | kernel_rfl)
    · have hF := ite_f hF hb
      refine Wk_skip ?_
      exact Wk_met (fs := [4, 5]) (bs := [4, 5]) (rs := []) (ms := []) (aa := []) (nv := []) (by first | (rw [← some_elim hF]; kernel_rfl) | kernel_rfl)
  · refine Wk_seq ?_
    refine WR [] [4] [4] [] [] [] [] ⟨[(4, .ptr 4 0)], [(4, [.int .i64 v.2.Code, .int .i64 v.2.At])], [], [], []⟩ .nil (by kernel_rfl) ?_
    have hF := some_elim hF
    exact Wk_ret (hfin _ ⟨[], [], [], [], [], [], by first | (rw [← hF]; kernel_rfl) | kernel_rfl⟩)

/- tabularyref.PutLog -/
noncomputable def R_PutLog_J2 (v2 : Fault × Fault × List Entry) : Option (List Entry × Bool × Fault) :=
  ob (R_LogFault v2.2.2) fun x4 =>
  if (!decide (x4.Code = 0)) = true then
    lt (R_F x4.Code (-1)) fun x5 =>
    some (([] : List Entry), false, x5)
  else
    some (v2.2.2, true, x4)
noncomputable def R_PutLog_J3 (v3 : Fault × Fault × List Entry) : Option (List Entry × Bool × Fault) :=
  R_PutLog_J2 (v3.1, v3.2.1, v3.2.2)
noncomputable def R_PutLog_B1 (at0 : Int) (more : List Entry) (v4 : Fault × Fault × List Entry × Int) : Option ((Fault × Fault × List Entry × Int) ⊕ (List Entry × Bool × Fault)) :=
  if (decide (v4.2.2.2 < (more.length : Int))) = true then
    asrt (0 ≤ v4.2.2.2 ∧ v4.2.2.2 < (more.length : Int)) <|
    asrt (0 ≤ w64 (at0 + v4.2.2.2) ∧ w64 (at0 + v4.2.2.2) < (v4.2.2.1.length : Int)) <|
    asrt (0 ≤ w64 (at0 + v4.2.2.2) ∧ w64 (at0 + v4.2.2.2) < (v4.2.2.1.length : Int)) <|
    lt ((lset v4.2.2.1 (w64 (at0 + v4.2.2.2)) (⟨(lget more v4.2.2.2).Term, (lget more v4.2.2.2).Text⟩ : Entry))) fun (v5 : List Entry) =>
    some (Sum.inl (v4.1, v4.2.1, v5, w64 (v4.2.2.2 + 1)))
  else
    inrO (R_PutLog_J3 (v4.1, v4.2.1, v4.2.2.1))
noncomputable def R_PutLog_L1 (at0 : Int) (more : List Entry) (v0 : Fault × Fault × List Entry × Int) : Option (List Entry × Bool × Fault) :=
  loopO (fun y => R_PutLog_B1 at0 more y) v0
noncomputable def R_PutLog_J1 (l : List Entry) (at0 : Int) (more : List Entry) (v1 : Fault × Fault × Int) : Option (List Entry × Bool × Fault) :=
  ob (R_CopyLog l) fun x3 =>
  if (decide (v1.2.2 < (more.length : Int))) = true then
    asrt (0 ≤ w64 (at0 + v1.2.2) ∧ w64 (at0 + v1.2.2) ≤ (l.length : Int)) <|
    ob (R_CopyLog (ltake l (w64 (at0 + v1.2.2)))) fun x6 =>
    asrt (0 ≤ v1.2.2 ∧ v1.2.2 ≤ (more.length : Int)) <|
    asrt (((x6 ++ (ldrop more v1.2.2)).length : Int) * 24 ≤ 140737488351232) <|
    R_PutLog_L1 at0 more (v1.1, v1.2.1, (x6 ++ (ldrop more v1.2.2)), v1.2.2)
  else
    R_PutLog_J2 (v1.1, v1.2.1, x3)
noncomputable def R_PutLog_B2 (l : List Entry) (at0 : Int) (more : List Entry) (v6 : Fault × Fault × Int) : Option ((Fault × Fault × Int) ⊕ (List Entry × Bool × Fault)) :=
  asrt (((decide (v6.2.2 < (more.length : Int))) && (decide ((w64 (at0 + v6.2.2)) < (l.length : Int)))) = true → 0 ≤ w64 (at0 + v6.2.2) ∧ w64 (at0 + v6.2.2) < (l.length : Int)) <|
  asrt (((decide (v6.2.2 < (more.length : Int))) && (decide ((w64 (at0 + v6.2.2)) < (l.length : Int)))) = true → 0 ≤ v6.2.2 ∧ v6.2.2 < (more.length : Int)) <|
  if (((decide (v6.2.2 < (more.length : Int))) && (decide ((w64 (at0 + v6.2.2)) < (l.length : Int)))) && (decide (((lget l (w64 (at0 + v6.2.2))).Term) = ((lget more v6.2.2).Term)))) = true then
    some (Sum.inl (v6.1, v6.2.1, w64 (v6.2.2 + 1)))
  else
    inrO (R_PutLog_J1 l at0 more (v6.1, v6.2.1, v6.2.2))
noncomputable def R_PutLog_L2 (l : List Entry) (at0 : Int) (more : List Entry) (v0 : Fault × Fault × Int) : Option (List Entry × Bool × Fault) :=
  loopO (fun y => R_PutLog_B2 l at0 more y) v0
noncomputable def R_PutLog (l : List Entry) (at0 : Int) (term : Int) (more : List Entry) : Option (List Entry × Bool × Fault) :=
  ob (R_LogsFault l more) fun x =>
  ob (
    if (decide (x.Code = 0)) = true then
      lt (R_PlaceFault at0 term) fun x1 =>
      some ((⟨0, 0⟩ : Fault), x1)
    else
      some ((⟨0, 0⟩ : Fault), x)) fun (v : Fault × Fault) =>
  if (!decide (v.2.Code = 0)) = true then
    some (([] : List Entry), false, v.2)
  else
    asrt ((decide (0 < at0)) = true → (!((decide ((l.length : Int) < at0)) || ((decide (at0 = 0)) && (!decide (term = 0))))) = true → 0 ≤ w64 (at0 - 1) ∧ w64 (at0 - 1) < (l.length : Int)) <|
    if (((decide ((l.length : Int) < at0)) || ((decide (at0 = 0)) && (!decide (term = 0)))) || ((decide (0 < at0)) && (!decide (((lget l (w64 (at0 - 1))).Term) = term)))) = true then
      ob (R_CopyLog l) fun x2 =>
      some (x2, false, v.2)
    else
      R_PutLog_L2 l at0 more (v.1, v.2, 0)
theorem R_PutLog_ok (l : List Entry) (at0 : Int) (term : Int) (more : List Entry) (r : List Entry × Bool × Fault) (hF : R_PutLog l at0 term more = some r) : Pe Try.prog 25 ⟨[], [], [], [], []⟩ [.sl 2 (l.map e_Entry), .int .i64 at0, .int .i64 term, .sl 2 (more.map e_Entry)] (.tup [.row 55 0, .bool r.2.1, .agg [.int .i64 r.2.2.Code, .int .i64 r.2.2.At]]) ⟨[], [], [(55, ⟨31, 2, 0, 0, 0, true, 0, [], (r.1.map e_Entry)⟩)], [], []⟩ := by
  refine Pe_of (N := 128) (res := [.tmp 8, .tmp 9, .cell 10 26]) (ts := [22, 4, 26]) Ty.ok Fn.b25 Try.func25 rfl rfl rfl rfl rfl rfl ?_
  intro Q g hfin
  unfold R_PutLog at hF
  refine Wk_seq ?_
  refine WR [] [0, 1, 2, 3, 10] [10] [] [] [] [] ⟨[(0, .sl 2 (l.map e_Entry)), (1, .int .i64 at0), (2, .int .i64 term), (3, .sl 2 (more.map e_Entry)), (10, .ptr 10 0)], [(10, [.int .i64 0, .int .i64 0])], [], [], []⟩ .nil (by kernel_rfl) ?_
  refine Wk_seq ?_
  obtain ⟨x, h0, hF⟩ := ob_elim hF
  refine WR [.callB (.agg [.int .i64 x.Code, .int .i64 x.At])] [0, 1, 2, 3, 10, 11] [10, 11] [] [] [] [] ⟨[(0, .sl 2 (l.map e_Entry)), (1, .int .i64 at0), (2, .int .i64 term), (3, .sl 2 (more.map e_Entry)), (10, .ptr 10 0), (11, .ptr 11 0)], [(10, [.int .i64 0, .int .i64 0]), (11, [.int .i64 x.Code, .int .i64 x.At])], [], [], []⟩ (.cons (R_LogsFault_ok l more x h0) .nil) (by kernel_rfl) ?_
  refine Wk_seq ?_
  refine Wk_seq ?_
  refine WR [] [0, 1, 2, 3, 10, 11, 20] [10, 11] [] [] [] [] ⟨[(0, .sl 2 (l.map e_Entry)), (1, .int .i64 at0), (2, .int .i64 term), (3, .sl 2 (more.map e_Entry)), (10, .ptr 10 0), (11, .ptr 11 0), (20, .bool (decide (x.Code = 0)))], [(10, [.int .i64 0, .int .i64 0]), (11, [.int .i64 x.Code, .int .i64 x.At])], [], [], []⟩ .nil (by kernel_rfl) ?_
  obtain ⟨v, hv, hF⟩ := ob_elim hF
  refine Wk_meet (⟨[(0, .sl 2 (l.map e_Entry)), (1, .int .i64 at0), (2, .int .i64 term), (3, .sl 2 (more.map e_Entry)), (10, .ptr 10 0), (11, .ptr 11 0)], [(10, [.int .i64 v.1.Code, .int .i64 v.1.At]), (11, [.int .i64 v.2.Code, .int .i64 v.2.At])], [], [], []⟩ : S) ?_ ?_
  · have hF := hv
    refine Wk_split rfl (fun hb => ?_) (fun hb => ?_)
    · have hF := ite_t hF hb
      obtain ⟨x1, h1, hF⟩ := lt_split hF
      refine WR [.callB (.agg [.int .i64 x1.Code, .int .i64 x1.At])] [0, 1, 2, 3, 10, 11] [10, 11] [] [] [] [] ⟨[(0, .sl 2 (l.map e_Entry)), (1, .int .i64 at0), (2, .int .i64 term), (3, .sl 2 (more.map e_Entry)), (10, .ptr 10 0), (11, .ptr 11 0)], [(10, [.int .i64 0, .int .i64 0]), (11, [.int .i64 x1.Code, .int .i64 x1.At])], [], [], []⟩ (.cons (R_PlaceFault_ok at0 term x1 h1) .nil) (by kernel_rfl) ?_
      exact Wk_met (fs := [0, 1, 2, 3, 10, 11]) (bs := [10, 11]) (rs := []) (ms := []) (aa := []) (nv := []) (by first | (rw [← some_elim hF]; kernel_rfl) | kernel_rfl)
    · have hF := ite_f hF hb
      refine Wk_skip ?_
      exact Wk_met (fs := [0, 1, 2, 3, 10, 11]) (bs := [10, 11]) (rs := []) (ms := []) (aa := []) (nv := []) (by first | (rw [← some_elim hF]; kernel_rfl) | kernel_rfl)
  · refine Wk_seq ?_
    refine Wk_seq ?_
    refine WR [] [0, 1, 2, 3, 10, 11, 26] [10, 11] [] [] [] [] ⟨[(0, .sl 2 (l.map e_Entry)), (1, .int .i64 at0), (2, .int .i64 term), (3, .sl 2 (more.map e_Entry)), (10, .ptr 10 0), (11, .ptr 11 0), (26, .bool (!decide (v.2.Code = 0)))], [(10, [.int .i64 v.1.Code, .int .i64 v.1.At]), (11, [.int .i64 v.2.Code, .int .i64 v.2.At])], [], [], []⟩ .nil (by kernel_rfl) ?_
    refine Wk_split rfl (fun hb => ?_) (fun hb => ?_)
    · have hF := ite_t hF hb
      refine Wk_seq ?_
      refine WD [] [8, 9, 10] [10] [] [] [] [] ⟨[(8, .nils), (9, .bool false), (10, .ptr 10 0)], [(10, [.int .i64 v.2.Code, .int .i64 v.2.At])], [], [], []⟩ .nil (by kernel_rfl) ?_
      have hF := some_elim hF
      refine Wk_nilrow 8 60000 31 2 rfl rfl rfl ?_
      refine Wk_ren' ⟨[], [(60000, 55)], [], []⟩ rfl ?_
      exact Wk_ret (hfin _ ⟨[55], [], [55], [], [], [], by first | (rw [← hF]; kernel_rfl) | kernel_rfl⟩)
    · have hF := ite_f hF hb
      refine Wk_skip ?_
      refine Wk_seq ?_
      refine Wk_seq ?_
      obtain ⟨h2, hF⟩ := asrt_elim hF
      refine WR [.nat (l.length : Int), .av (e_Entry (lget l (w64 (at0 - 1))))] [0, 1, 3, 10, 11, 53] [10, 11] [] [] [] [] ⟨[(0, .sl 2 (l.map e_Entry)), (1, .int .i64 at0), (3, .sl 2 (more.map e_Entry)), (10, .ptr 10 0), (11, .ptr 11 0), (53, .bool (((decide ((l.length : Int) < at0)) || ((decide (at0 = 0)) && (!decide (term = 0)))) || ((decide (0 < at0)) && (!decide (((lget l (w64 (at0 - 1))).Term) = term)))))], [(10, [.int .i64 v.1.Code, .int .i64 v.1.At]), (11, [.int .i64 v.2.Code, .int .i64 v.2.At])], [], [], []⟩ (.cons (len_ok e_Entry l) (.cons (fun (ga0 : (decide (0 < at0)) = true) (ga1 : (!((decide ((l.length : Int) < at0)) || ((decide (at0 = 0)) && (!decide (term = 0))))) = true) => (idx_ok e_Entry (h2 ga0 ga1))) .nil)) (by kernel_rfl) ?_
      refine Wk_split rfl (fun hb => ?_) (fun hb => ?_)
      · have hF := ite_t hF hb
        refine Wk_seq ?_
        obtain ⟨x2, h3, hF⟩ := ob_elim hF
        refine WD [.callE [] [] [] [] (.row 55 1) ⟨[], [], [(55, ⟨31, 2, 1, 0, 0, true, 0, [], (x2.map e_Entry)⟩)], [], []⟩] [8, 9, 10] [10] [55] [] [] [] ⟨[(8, .row 55 1), (9, .bool false), (10, .ptr 10 0)], [(10, [.int .i64 v.2.Code, .int .i64 v.2.At])], [(55, ⟨31, 2, 1, 0, 0, true, 0, [], (x2.map e_Entry)⟩)], [], []⟩ (.cons (Pe.ren (R_CopyLog_ok l x2 h3) ⟨[], [(4, 55)], [], []⟩) .nil) (by kernel_rfl) ?_
        have hF := some_elim hF
        exact Wk_ret (hfin _ ⟨[55], [], [55], [], [], [(55, ⟨0, true, true, false⟩)], by first | (rw [← hF]; kernel_rfl) | kernel_rfl⟩)
      · have hF := ite_f hF hb
        refine Wk_skip ?_
        refine Wk_seq ?_
        refine WR [] [0, 1, 3, 10, 11, 12] [10, 11] [] [] [] [] ⟨[(0, .sl 2 (l.map e_Entry)), (1, .int .i64 at0), (3, .sl 2 (more.map e_Entry)), (10, .ptr 10 0), (11, .ptr 11 0), (12, .int .i64 0)], [(10, [.int .i64 v.1.Code, .int .i64 v.1.At]), (11, [.int .i64 v.2.Code, .int .i64 v.2.At])], [], [], []⟩ .nil (by kernel_rfl) ?_
        refine Wk_seq ?_
        refine Wk_meetP (fun v1 : Fault × Fault × Int => (⟨[(0, .sl 2 (l.map e_Entry)), (1, .int .i64 at0), (3, .sl 2 (more.map e_Entry)), (10, .ptr 10 0), (11, .ptr 11 0), (12, .int .i64 v1.2.2)], [(10, [.int .i64 v1.1.Code, .int .i64 v1.1.At]), (11, [.int .i64 v1.2.1.Code, .int .i64 v1.2.1.At])], [], [], []⟩ : S)) (fun v1 => R_PutLog_J1 l at0 more v1 = some r) ?_ ?_
        · refine Wk_block ?_
          unfold R_PutLog_L2 at hF
          refine Wk_trim (fs := [0, 1, 3, 10, 11, 12]) (bs := [10, 11]) (rs := []) (ms := []) (aa := []) (nv := []) (t := (fun v6 : Fault × Fault × Int => (⟨[(0, .sl 2 (l.map e_Entry)), (1, .int .i64 at0), (3, .sl 2 (more.map e_Entry)), (10, .ptr 10 0), (11, .ptr 11 0), (12, .int .i64 v6.2.2)], [(10, [.int .i64 v6.1.Code, .int .i64 v6.1.At]), (11, [.int .i64 v6.2.1.Code, .int .i64 v6.2.1.At])], [], [], []⟩ : S)) (v.1, v.2, 0)) (by kernel_rfl) ?_
          refine Wk_iter (step := fun y => R_PutLog_B2 l at0 more y) (r := r) (fun v6 : Fault × Fault × Int => (⟨[(0, .sl 2 (l.map e_Entry)), (1, .int .i64 at0), (3, .sl 2 (more.map e_Entry)), (10, .ptr 10 0), (11, .ptr 11 0), (12, .int .i64 v6.2.2)], [(10, [.int .i64 v6.1.Code, .int .i64 v6.1.At]), (11, [.int .i64 v6.2.1.Code, .int .i64 v6.2.1.At])], [], [], []⟩ : S)) (v.1, v.2, 0) hF ?_
          intro n1 v6 y1 hF ih1 dn1
          have hF : R_PutLog_B2 l at0 more v6 = some y1 := hF
          unfold R_PutLog_B2 at hF
          refine Wk_seq ?_
          refine Wk_seq ?_
          obtain ⟨h14, hF⟩ := asrt_elim hF
          obtain ⟨h15, hF⟩ := asrt_elim hF
          refine WD [.nat (more.length : Int), .nat (l.length : Int), .av (e_Entry (lget l (w64 (at0 + v6.2.2)))), .av (e_Entry (lget more v6.2.2))] [0, 1, 3, 10, 11, 12, 83] [10, 11] [] [] [] [] ⟨[(0, .sl 2 (l.map e_Entry)), (1, .int .i64 at0), (3, .sl 2 (more.map e_Entry)), (10, .ptr 10 0), (11, .ptr 11 0), (12, .int .i64 v6.2.2), (83, .bool (((decide (v6.2.2 < (more.length : Int))) && (decide ((w64 (at0 + v6.2.2)) < (l.length : Int)))) && (decide (((lget l (w64 (at0 + v6.2.2))).Term) = ((lget more v6.2.2).Term)))))], [(10, [.int .i64 v6.1.Code, .int .i64 v6.1.At]), (11, [.int .i64 v6.2.1.Code, .int .i64 v6.2.1.At])], [], [], []⟩ (.cons (len_ok e_Entry more) (.cons (fun (_ : (decide (v6.2.2 < (more.length : Int))) = true) => (len_ok e_Entry l)) (.cons (fun (ga0 : ((decide (v6.2.2 < (more.length : Int))) && (decide ((w64 (at0 + v6.2.2)) < (l.length : Int)))) = true) => (idx_ok e_Entry (h14 ga0))) (.cons (fun (ga0 : ((decide (v6.2.2 < (more.length : Int))) && (decide ((w64 (at0 + v6.2.2)) < (l.length : Int)))) = true) => (idx_ok e_Entry (h15 ga0))) .nil)))) (by kernel_rfl) ?_
          refine Wk_split rfl (fun hb => ?_) (fun hb => ?_)
          · have hF := ite_t hF hb
            refine Wk_skip ?_
            refine Wk_block ?_
            refine WR [] [0, 1, 3, 10, 11, 12] [10, 11] [] [] [] [] ⟨[(0, .sl 2 (l.map e_Entry)), (1, .int .i64 at0), (3, .sl 2 (more.map e_Entry)), (10, .ptr 10 0), (11, .ptr 11 0), (12, .int .i64 (w64 (v6.2.2 + 1)))], [(10, [.int .i64 v6.1.Code, .int .i64 v6.1.At]), (11, [.int .i64 v6.2.1.Code, .int .i64 v6.2.1.At])], [], [], []⟩ .nil (by kernel_rfl) ?_
            refine Wk_blk ?_
            refine Wk_trim (fs := [0, 1, 3, 10, 11, 12]) (bs := [10, 11]) (rs := []) (ms := []) (aa := []) (nv := []) ?_ (ih1 _ (some_elim hF).symm)
            kernel_rfl
          · have hF := ite_f hF hb
            refine Wk_exit rfl ?_
            have hF := inrO_done hF dn1
            exact Wk_metP (v6.1, v6.2.1, v6.2.2) [0, 1, 3, 10, 11, 12] [10, 11] [] [] [] [] hF (by kernel_rfl)
        · intro v1 hF
          have hF : R_PutLog_J1 l at0 more v1 = some r := hF
          unfold R_PutLog_J1 at hF
          refine Wk_seq ?_
          obtain ⟨x3, h4, hF⟩ := ob_elim hF
          refine WR [.callE [] [] [] [] (.row 87 1) ⟨[], [], [(87, ⟨31, 2, 1, 0, 0, true, 0, [], (x3.map e_Entry)⟩)], [], []⟩] [0, 1, 3, 10, 11, 12, 13] [10, 11] [87] [] [] [] ⟨[(0, .sl 2 (l.map e_Entry)), (1, .int .i64 at0), (3, .sl 2 (more.map e_Entry)), (10, .ptr 10 0), (11, .ptr 11 0), (12, .int .i64 v1.2.2), (13, .row 87 1)], [(10, [.int .i64 v1.1.Code, .int .i64 v1.1.At]), (11, [.int .i64 v1.2.1.Code, .int .i64 v1.2.1.At])], [(87, ⟨31, 2, 1, 0, 0, true, 0, [], (x3.map e_Entry)⟩)], [], []⟩ (.cons (Pe.ren (R_CopyLog_ok l x3 h4) ⟨[], [(4, 87)], [], []⟩) .nil) (by kernel_rfl) ?_
          refine Wk_seq ?_
          refine Wk_seq ?_
          refine WR [.nat (more.length : Int)] [0, 1, 3, 10, 11, 12, 13, 91] [10, 11] [87] [] [] [] ⟨[(0, .sl 2 (l.map e_Entry)), (1, .int .i64 at0), (3, .sl 2 (more.map e_Entry)), (10, .ptr 10 0), (11, .ptr 11 0), (12, .int .i64 v1.2.2), (13, .row 87 1), (91, .bool (decide (v1.2.2 < (more.length : Int))))], [(10, [.int .i64 v1.1.Code, .int .i64 v1.1.At]), (11, [.int .i64 v1.2.1.Code, .int .i64 v1.2.1.At])], [(87, ⟨31, 2, 1, 0, 0, true, 0, [], (x3.map e_Entry)⟩)], [], []⟩ (.cons (len_ok e_Entry more) .nil) (by kernel_rfl) ?_
          refine Wk_meetP (fun v2 : Fault × Fault × List Entry => (⟨[(10, .ptr 10 0), (11, .ptr 11 0), (13, .row 97 0)], [(10, [.int .i64 v2.1.Code, .int .i64 v2.1.At]), (11, [.int .i64 v2.2.1.Code, .int .i64 v2.2.1.At])], [(97, ⟨31, 2, 0, 0, 0, true, 0, [], (v2.2.2.map e_Entry)⟩)], [], []⟩ : S)) (fun v2 => R_PutLog_J2 v2 = some r) ?_ ?_
          · refine Wk_split rfl (fun hb => ?_) (fun hb => ?_)
            · have hF := ite_t hF hb
              refine Wk_seq ?_
              obtain ⟨h7, hF⟩ := asrt_elim hF
              obtain ⟨x6, h8, hF⟩ := ob_elim hF
              obtain ⟨h9, hF⟩ := asrt_elim hF
              obtain ⟨h10, hF⟩ := asrt_elim hF
              refine WD [.xs ((ltake l (w64 (at0 + v1.2.2))).map e_Entry), .callE [] [] [] [] (.row 97 1) ⟨[], [], [(97, ⟨31, 2, 1, 0, 0, true, 0, [], (x6.map e_Entry)⟩)], [], []⟩, .xs ((ldrop more v1.2.2).map e_Entry), .xs ((x6 ++ (ldrop more v1.2.2)).map e_Entry)] [1, 3, 10, 11, 12, 13] [10, 11] [97] [] [] [] ⟨[(1, .int .i64 at0), (3, .sl 2 (more.map e_Entry)), (10, .ptr 10 0), (11, .ptr 11 0), (12, .int .i64 v1.2.2), (13, .row 97 2)], [(10, [.int .i64 v1.1.Code, .int .i64 v1.1.At]), (11, [.int .i64 v1.2.1.Code, .int .i64 v1.2.1.At])], [(97, ⟨31, 2, 2, 0, 0, true, 0, [], ((x6 ++ (ldrop more v1.2.2)).map e_Entry)⟩)], [], []⟩ (.cons (sl01_ok e_Entry h7) (.cons (Pe.ren (R_CopyLog_ok (ltake l (w64 (at0 + v1.2.2))) x6 h8) ⟨[], [(4, 97)], [], []⟩) (.cons (sl10_ok e_Entry h9) (.cons (app_ok e_Entry x6 (ldrop more v1.2.2)) (.cons (appl_ok e_Entry h10) .nil))))) (by kernel_rfl) ?_
              refine Wk_seq ?_
              refine WR [] [1, 3, 10, 11, 13, 14] [10, 11] [97] [] [] [] ⟨[(1, .int .i64 at0), (3, .sl 2 (more.map e_Entry)), (10, .ptr 10 0), (11, .ptr 11 0), (13, .row 97 2), (14, .int .i64 v1.2.2)], [(10, [.int .i64 v1.1.Code, .int .i64 v1.1.At]), (11, [.int .i64 v1.2.1.Code, .int .i64 v1.2.1.At])], [(97, ⟨31, 2, 2, 0, 0, true, 0, [], ((x6 ++ (ldrop more v1.2.2)).map e_Entry)⟩)], [], []⟩ .nil (by kernel_rfl) ?_
              refine Wk_meetP (fun v3 : Fault × Fault × List Entry => (⟨[(10, .ptr 10 0), (11, .ptr 11 0), (13, .row 97 2)], [(10, [.int .i64 v3.1.Code, .int .i64 v3.1.At]), (11, [.int .i64 v3.2.1.Code, .int .i64 v3.2.1.At])], [(97, ⟨31, 2, 2, 0, 0, true, 0, [], (v3.2.2.map e_Entry)⟩)], [], []⟩ : S)) (fun v3 => R_PutLog_J3 v3 = some r) ?_ ?_
              · refine Wk_block ?_
                unfold R_PutLog_L1 at hF
                refine Wk_trim (fs := [1, 3, 10, 11, 13, 14]) (bs := [10, 11]) (rs := [97]) (ms := []) (aa := []) (nv := []) (t := (fun v4 : Fault × Fault × List Entry × Int => (⟨[(1, .int .i64 at0), (3, .sl 2 (more.map e_Entry)), (10, .ptr 10 0), (11, .ptr 11 0), (13, .row 97 2), (14, .int .i64 v4.2.2.2)], [(10, [.int .i64 v4.1.Code, .int .i64 v4.1.At]), (11, [.int .i64 v4.2.1.Code, .int .i64 v4.2.1.At])], [(97, ⟨31, 2, 2, 0, 0, true, 0, [], (v4.2.2.1.map e_Entry)⟩)], [], []⟩ : S)) (v1.1, v1.2.1, (x6 ++ (ldrop more v1.2.2)), v1.2.2)) (by kernel_rfl) ?_
                refine Wk_iter (step := fun y => R_PutLog_B1 at0 more y) (r := r) (fun v4 : Fault × Fault × List Entry × Int => (⟨[(1, .int .i64 at0), (3, .sl 2 (more.map e_Entry)), (10, .ptr 10 0), (11, .ptr 11 0), (13, .row 97 2), (14, .int .i64 v4.2.2.2)], [(10, [.int .i64 v4.1.Code, .int .i64 v4.1.At]), (11, [.int .i64 v4.2.1.Code, .int .i64 v4.2.1.At])], [(97, ⟨31, 2, 2, 0, 0, true, 0, [], (v4.2.2.1.map e_Entry)⟩)], [], []⟩ : S)) (v1.1, v1.2.1, (x6 ++ (ldrop more v1.2.2)), v1.2.2) hF ?_
                intro n1 v4 y1 hF ih1 dn1
                have hF : R_PutLog_B1 at0 more v4 = some y1 := hF
                unfold R_PutLog_B1 at hF
                refine Wk_seq ?_
                refine Wk_seq ?_
                refine WR [.nat (more.length : Int)] [1, 3, 10, 11, 13, 14, 106] [10, 11] [97] [] [] [] ⟨[(1, .int .i64 at0), (3, .sl 2 (more.map e_Entry)), (10, .ptr 10 0), (11, .ptr 11 0), (13, .row 97 2), (14, .int .i64 v4.2.2.2), (106, .bool (decide (v4.2.2.2 < (more.length : Int))))], [(10, [.int .i64 v4.1.Code, .int .i64 v4.1.At]), (11, [.int .i64 v4.2.1.Code, .int .i64 v4.2.1.At])], [(97, ⟨31, 2, 2, 0, 0, true, 0, [], (v4.2.2.1.map e_Entry)⟩)], [], []⟩ (.cons (len_ok e_Entry more) .nil) (by kernel_rfl) ?_
                refine Wk_split rfl (fun hb => ?_) (fun hb => ?_)
                · have hF := ite_t hF hb
                  refine Wk_skip ?_
                  refine Wk_seq ?_
                  refine Wk_block ?_
                  obtain ⟨h11, hF⟩ := asrt_elim hF
                  obtain ⟨h12, hF⟩ := asrt_elim hF
                  obtain ⟨h13, hF⟩ := asrt_elim hF
                  refine WRL ((lset v4.2.2.1 (w64 (at0 + v4.2.2.2)) (⟨(lget more v4.2.2.2).Term, (lget more v4.2.2.2).Text⟩ : Entry))) (fun v5 : List Entry => ⟨[(1, .int .i64 at0), (3, .sl 2 (more.map e_Entry)), (10, .ptr 10 0), (11, .ptr 11 0), (13, .row 97 2), (14, .int .i64 v4.2.2.2)], [(10, [.int .i64 v4.1.Code, .int .i64 v4.1.At]), (11, [.int .i64 v4.2.1.Code, .int .i64 v4.2.1.At])], [(97, ⟨31, 2, 2, 0, 0, true, 0, [], (v5.map e_Entry)⟩)], [], []⟩) [.av (e_Entry (lget more v4.2.2.2)), .av (e_Entry (lget v4.2.2.1 (w64 (at0 + v4.2.2.2)))), .xs ((lset v4.2.2.1 (w64 (at0 + v4.2.2.2)) (⟨(lget more v4.2.2.2).Term, (lget more v4.2.2.2).Text⟩ : Entry)).map e_Entry)] [1, 3, 10, 11, 13, 14] [10, 11] [97] [] [] [] (.cons (idx_ok e_Entry h11) (.cons (ixr_ok e_Entry h12) (.cons (ldr_ok e_Entry h13) (.cons (set_ok e_Entry v4.2.2.1 (w64 (at0 + v4.2.2.2)) (⟨(lget more v4.2.2.2).Term, (lget more v4.2.2.2).Text⟩ : Entry)) (.cons (Nat.zero_le ((w64 (at0 + v4.2.2.2)).toNat)) .nil))))) (by kernel_rfl) (fun v5 hv => ?_)
                  have hF := lt_elim hF hv
                  refine Wk_blk ?_
                  refine WR [] [1, 3, 10, 11, 13, 14] [10, 11] [97] [] [] [] ⟨[(1, .int .i64 at0), (3, .sl 2 (more.map e_Entry)), (10, .ptr 10 0), (11, .ptr 11 0), (13, .row 97 2), (14, .int .i64 (w64 (v4.2.2.2 + 1)))], [(10, [.int .i64 v4.1.Code, .int .i64 v4.1.At]), (11, [.int .i64 v4.2.1.Code, .int .i64 v4.2.1.At])], [(97, ⟨31, 2, 2, 0, 0, true, 0, [], (v5.map e_Entry)⟩)], [], []⟩ .nil (by kernel_rfl) ?_
                  refine Wk_trim (fs := [1, 3, 10, 11, 13, 14]) (bs := [10, 11]) (rs := [97]) (ms := []) (aa := []) (nv := []) ?_ (ih1 _ (some_elim hF).symm)
                  kernel_rfl
                · have hF := ite_f hF hb
                  refine Wk_exit rfl ?_
                  have hF := inrO_done hF dn1
                  exact Wk_metP (v4.1, v4.2.1, v4.2.2.1) [10, 11, 13] [10, 11] [97] [] [] [] hF (by kernel_rfl)
              · intro v3 hF
                have hF : R_PutLog_J3 v3 = some r := hF
                unfold R_PutLog_J3 at hF
                exact Wk_metP (v3.1, v3.2.1, v3.2.2) [10, 11, 13] [10, 11] [97] [] [] [(97, ⟨0, true, true, false⟩)] hF (by kernel_rfl)
            · have hF := ite_f hF hb
              refine Wk_skip ?_
              refine Wk_trim (fs := [10, 11, 13]) (bs := [10, 11]) (rs := [87]) (ms := []) (aa := []) (nv := []) rfl ?_
              refine Wk_ren' ⟨[], [(87, 97)], [], []⟩ rfl ?_
              exact Wk_metP (v1.1, v1.2.1, x3) [10, 11, 13] [10, 11] [97] [] [] [(97, ⟨0, true, true, false⟩)] hF (by kernel_rfl)
          · intro v2 hF
            have hF : R_PutLog_J2 v2 = some r := hF
            unfold R_PutLog_J2 at hF
            refine Wk_seq ?_
            obtain ⟨x4, h5, hF⟩ := ob_elim hF
            refine WR [.callB (.agg [.int .i64 x4.Code, .int .i64 x4.At])] [10, 11, 13] [10, 11] [97] [] [] [] ⟨[(10, .ptr 10 0), (11, .ptr 11 0), (13, .row 97 0)], [(10, [.int .i64 v2.1.Code, .int .i64 v2.1.At]), (11, [.int .i64 x4.Code, .int .i64 x4.At])], [(97, ⟨31, 2, 0, 0, 0, true, 0, [], (v2.2.2.map e_Entry)⟩)], [], []⟩ (.cons (R_LogFault_ok v2.2.2 x4 h5) .nil) (by kernel_rfl) ?_
            refine Wk_seq ?_
            refine Wk_seq ?_
            refine WR [] [10, 11, 13, 122] [10, 11] [97] [] [] [] ⟨[(10, .ptr 10 0), (11, .ptr 11 0), (13, .row 97 0), (122, .bool (!decide (x4.Code = 0)))], [(10, [.int .i64 v2.1.Code, .int .i64 v2.1.At]), (11, [.int .i64 x4.Code, .int .i64 x4.At])], [(97, ⟨31, 2, 0, 0, 0, true, 0, [], (v2.2.2.map e_Entry)⟩)], [], []⟩ .nil (by kernel_rfl) ?_
            refine Wk_split rfl (fun hb => ?_) (fun hb => ?_)
            · have hF := ite_t hF hb
              refine Wk_seq ?_
              obtain ⟨x5, h6, hF⟩ := lt_split hF
              refine WR [.callB (.agg [.int .i64 x5.Code, .int .i64 x5.At])] [8, 9, 10] [10] [] [] [] [] ⟨[(8, .nils), (9, .bool false), (10, .ptr 10 0)], [(10, [.int .i64 x5.Code, .int .i64 x5.At])], [], [], []⟩ (.cons (R_F_ok x4.Code (-1) x5 h6) .nil) (by kernel_rfl) ?_
              have hF := some_elim hF
              refine Wk_nilrow 8 60001 31 2 rfl rfl rfl ?_
              refine Wk_ren' ⟨[], [(60001, 55)], [], []⟩ rfl ?_
              exact Wk_ret (hfin _ ⟨[55], [], [55], [], [], [], by first | (rw [← hF]; kernel_rfl) | kernel_rfl⟩)
            · have hF := ite_f hF hb
              refine Wk_skip ?_
              refine Wk_seq ?_
              refine WD [] [8, 9, 10] [10] [97] [] [] [] ⟨[(8, .row 97 0), (9, .bool true), (10, .ptr 10 0)], [(10, [.int .i64 x4.Code, .int .i64 x4.At])], [(97, ⟨31, 2, 0, 0, 0, true, 0, [], (v2.2.2.map e_Entry)⟩)], [], []⟩ .nil (by kernel_rfl) ?_
              have hF := some_elim hF
              refine Wk_ren' ⟨[], [(97, 55)], [], []⟩ rfl ?_
              exact Wk_ret (hfin _ ⟨[55], [], [55], [], [], [], by first | (rw [← hF]; kernel_rfl) | kernel_rfl⟩)

/- tabularyref.PutLog -/
noncomputable def R_PutLog_v1_J2 (v2 : Fault × Fault × List Entry) : Option (List Entry × Bool × Fault) :=
  ob (R_LogFault v2.2.2) fun x4 =>
  if (!decide (x4.Code = 0)) = true then
    lt (R_F x4.Code (-1)) fun x5 =>
    some (([] : List Entry), false, x5)
  else
    some (v2.2.2, true, x4)
noncomputable def R_PutLog_v1_J3 (v3 : Fault × Fault × List Entry) : Option (List Entry × Bool × Fault) :=
  R_PutLog_v1_J2 (v3.1, v3.2.1, v3.2.2)
noncomputable def R_PutLog_v1_B1 (at0 : Int) (more : List Entry) (v4 : Fault × Fault × List Entry × Int) : Option ((Fault × Fault × List Entry × Int) ⊕ (List Entry × Bool × Fault)) :=
  if (decide (v4.2.2.2 < (more.length : Int))) = true then
    asrt (0 ≤ v4.2.2.2 ∧ v4.2.2.2 < (more.length : Int)) <|
    asrt (0 ≤ w64 (at0 + v4.2.2.2) ∧ w64 (at0 + v4.2.2.2) < (v4.2.2.1.length : Int)) <|
    asrt (0 ≤ w64 (at0 + v4.2.2.2) ∧ w64 (at0 + v4.2.2.2) < (v4.2.2.1.length : Int)) <|
    lt ((lset v4.2.2.1 (w64 (at0 + v4.2.2.2)) (⟨(lget more v4.2.2.2).Term, (lget more v4.2.2.2).Text⟩ : Entry))) fun (v5 : List Entry) =>
    some (Sum.inl (v4.1, v4.2.1, v5, w64 (v4.2.2.2 + 1)))
  else
    inrO (R_PutLog_v1_J3 (v4.1, v4.2.1, v4.2.2.1))
noncomputable def R_PutLog_v1_L1 (at0 : Int) (more : List Entry) (v0 : Fault × Fault × List Entry × Int) : Option (List Entry × Bool × Fault) :=
  loopO (fun y => R_PutLog_v1_B1 at0 more y) v0
noncomputable def R_PutLog_v1_J1 (l : List Entry) (at0 : Int) (more : List Entry) (v1 : Fault × Fault × Int) : Option (List Entry × Bool × Fault) :=
  ob (R_CopyLog l) fun x3 =>
  if (decide (v1.2.2 < (more.length : Int))) = true then
    asrt (0 ≤ w64 (at0 + v1.2.2) ∧ w64 (at0 + v1.2.2) ≤ (l.length : Int)) <|
    ob (R_CopyLog (ltake l (w64 (at0 + v1.2.2)))) fun x6 =>
    asrt (0 ≤ v1.2.2 ∧ v1.2.2 ≤ (more.length : Int)) <|
    asrt (((x6 ++ (ldrop more v1.2.2)).length : Int) * 24 ≤ 140737488351232) <|
    R_PutLog_v1_L1 at0 more (v1.1, v1.2.1, (x6 ++ (ldrop more v1.2.2)), v1.2.2)
  else
    R_PutLog_v1_J2 (v1.1, v1.2.1, x3)
noncomputable def R_PutLog_v1_B2 (l : List Entry) (at0 : Int) (more : List Entry) (v6 : Fault × Fault × Int) : Option ((Fault × Fault × Int) ⊕ (List Entry × Bool × Fault)) :=
  asrt (((decide (v6.2.2 < (more.length : Int))) && (decide ((w64 (at0 + v6.2.2)) < (l.length : Int)))) = true → 0 ≤ w64 (at0 + v6.2.2) ∧ w64 (at0 + v6.2.2) < (l.length : Int)) <|
  asrt (((decide (v6.2.2 < (more.length : Int))) && (decide ((w64 (at0 + v6.2.2)) < (l.length : Int)))) = true → 0 ≤ v6.2.2 ∧ v6.2.2 < (more.length : Int)) <|
  if (((decide (v6.2.2 < (more.length : Int))) && (decide ((w64 (at0 + v6.2.2)) < (l.length : Int)))) && (decide (((lget l (w64 (at0 + v6.2.2))).Term) = ((lget more v6.2.2).Term)))) = true then
    some (Sum.inl (v6.1, v6.2.1, w64 (v6.2.2 + 1)))
  else
    inrO (R_PutLog_v1_J1 l at0 more (v6.1, v6.2.1, v6.2.2))
noncomputable def R_PutLog_v1_L2 (l : List Entry) (at0 : Int) (more : List Entry) (v0 : Fault × Fault × Int) : Option (List Entry × Bool × Fault) :=
  loopO (fun y => R_PutLog_v1_B2 l at0 more y) v0
noncomputable def R_PutLog_v1 (l : List Entry) (at0 : Int) (term : Int) (more : List Entry) : Option (List Entry × Bool × Fault) :=
  ob (R_LogsFault l more) fun x =>
  ob (
    if (decide (x.Code = 0)) = true then
      lt (R_PlaceFault at0 term) fun x1 =>
      some ((⟨0, 0⟩ : Fault), x1)
    else
      some ((⟨0, 0⟩ : Fault), x)) fun (v : Fault × Fault) =>
  if (!decide (v.2.Code = 0)) = true then
    some (([] : List Entry), false, v.2)
  else
    asrt ((decide (0 < at0)) = true → (!((decide ((l.length : Int) < at0)) || ((decide (at0 = 0)) && (!decide (term = 0))))) = true → 0 ≤ w64 (at0 - 1) ∧ w64 (at0 - 1) < (l.length : Int)) <|
    if (((decide ((l.length : Int) < at0)) || ((decide (at0 = 0)) && (!decide (term = 0)))) || ((decide (0 < at0)) && (!decide (((lget l (w64 (at0 - 1))).Term) = term)))) = true then
      ob (R_CopyLog l) fun x2 =>
      some (x2, false, v.2)
    else
      R_PutLog_v1_L2 l at0 more (v.1, v.2, 0)
theorem R_PutLog_v1_ok (l : List Entry) (at0 : Int) (term : Int) (more : List Entry) (r : List Entry × Bool × Fault) (hF : R_PutLog_v1 l at0 term more = some r) : Pe Try.prog 25 S.none [.sl 2 (l.map e_Entry), .int .i64 at0, .int .i64 term, .sl 2 (more.map e_Entry)] (.tup [.sl 2 (r.1.map e_Entry), .bool r.2.1, .agg [.int .i64 r.2.2.Code, .int .i64 r.2.2.At]]) S.none := by
  refine Pe_of (N := 128) (res := [.tmp 8, .tmp 9, .cell 10 26]) (ts := [22, 4, 26]) Ty.ok Fn.b25 Try.func25 rfl rfl rfl rfl rfl rfl ?_
  intro Q g hfin
  unfold R_PutLog_v1 at hF
  refine Wk_seq ?_
  refine WR [] [0, 1, 2, 3, 10] [10] [] [] [] [] ⟨[(0, .sl 2 (l.map e_Entry)), (1, .int .i64 at0), (2, .int .i64 term), (3, .sl 2 (more.map e_Entry)), (10, .ptr 10 0)], [(10, [.int .i64 0, .int .i64 0])], [], [], []⟩ .nil (by kernel_rfl) ?_
  refine Wk_seq ?_
  obtain ⟨x, h0, hF⟩ := ob_elim hF
  refine WR [.callB (.agg [.int .i64 x.Code, .int .i64 x.At])] [0, 1, 2, 3, 10, 11] [10, 11] [] [] [] [] ⟨[(0, .sl 2 (l.map e_Entry)), (1, .int .i64 at0), (2, .int .i64 term), (3, .sl 2 (more.map e_Entry)), (10, .ptr 10 0), (11, .ptr 11 0)], [(10, [.int .i64 0, .int .i64 0]), (11, [.int .i64 x.Code, .int .i64 x.At])], [], [], []⟩ (.cons (R_LogsFault_ok l more x h0) .nil) (by kernel_rfl) ?_
  refine Wk_seq ?_
  refine Wk_seq ?_
  refine WR [] [0, 1, 2, 3, 10, 11, 20] [10, 11] [] [] [] [] ⟨[(0, .sl 2 (l.map e_Entry)), (1, .int .i64 at0), (2, .int .i64 term), (3, .sl 2 (more.map e_Entry)), (10, .ptr 10 0), (11, .ptr 11 0), (20, .bool (decide (x.Code = 0)))], [(10, [.int .i64 0, .int .i64 0]), (11, [.int .i64 x.Code, .int .i64 x.At])], [], [], []⟩ .nil (by kernel_rfl) ?_
  obtain ⟨v, hv, hF⟩ := ob_elim hF
  refine Wk_meet (⟨[(0, .sl 2 (l.map e_Entry)), (1, .int .i64 at0), (2, .int .i64 term), (3, .sl 2 (more.map e_Entry)), (10, .ptr 10 0), (11, .ptr 11 0)], [(10, [.int .i64 v.1.Code, .int .i64 v.1.At]), (11, [.int .i64 v.2.Code, .int .i64 v.2.At])], [], [], []⟩ : S) ?_ ?_
  · have hF := hv
    refine Wk_split rfl (fun hb => ?_) (fun hb => ?_)
    · have hF := ite_t hF hb
      obtain ⟨x1, h1, hF⟩ := lt_split hF
      refine WR [.callB (.agg [.int .i64 x1.Code, .int .i64 x1.At])] [0, 1, 2, 3, 10, 11] [10, 11] [] [] [] [] ⟨[(0, .sl 2 (l.map e_Entry)), (1, .int .i64 at0), (2, .int .i64 term), (3, .sl 2 (more.map e_Entry)), (10, .ptr 10 0), (11, .ptr 11 0)], [(10, [.int .i64 0, .int .i64 0]), (11, [.int .i64 x1.Code, .int .i64 x1.At])], [], [], []⟩ (.cons (R_PlaceFault_ok at0 term x1 h1) .nil) (by kernel_rfl) ?_
      exact Wk_met (fs := [0, 1, 2, 3, 10, 11]) (bs := [10, 11]) (rs := []) (ms := []) (aa := []) (nv := []) (by first | (rw [← some_elim hF]; kernel_rfl) | kernel_rfl)
    · have hF := ite_f hF hb
      refine Wk_skip ?_
      exact Wk_met (fs := [0, 1, 2, 3, 10, 11]) (bs := [10, 11]) (rs := []) (ms := []) (aa := []) (nv := []) (by first | (rw [← some_elim hF]; kernel_rfl) | kernel_rfl)
  · refine Wk_seq ?_
    refine Wk_seq ?_
    refine WR [] [0, 1, 2, 3, 10, 11, 26] [10, 11] [] [] [] [] ⟨[(0, .sl 2 (l.map e_Entry)), (1, .int .i64 at0), (2, .int .i64 term), (3, .sl 2 (more.map e_Entry)), (10, .ptr 10 0), (11, .ptr 11 0), (26, .bool (!decide (v.2.Code = 0)))], [(10, [.int .i64 v.1.Code, .int .i64 v.1.At]), (11, [.int .i64 v.2.Code, .int .i64 v.2.At])], [], [], []⟩ .nil (by kernel_rfl) ?_
    refine Wk_split rfl (fun hb => ?_) (fun hb => ?_)
    · have hF := ite_t hF hb
      refine Wk_seq ?_
      refine WD [] [8, 9, 10] [10] [] [] [] [] ⟨[(8, .nils), (9, .bool false), (10, .ptr 10 0)], [(10, [.int .i64 v.2.Code, .int .i64 v.2.At])], [], [], []⟩ .nil (by kernel_rfl) ?_
      have hF := some_elim hF
      exact Wk_ret (hfin _ ⟨[], [], [], [], [], [], by first | (rw [← hF]; kernel_rfl) | kernel_rfl⟩)
    · have hF := ite_f hF hb
      refine Wk_skip ?_
      refine Wk_seq ?_
      refine Wk_seq ?_
      obtain ⟨h2, hF⟩ := asrt_elim hF
      refine WR [.nat (l.length : Int), .av (e_Entry (lget l (w64 (at0 - 1))))] [0, 1, 3, 10, 11, 53] [10, 11] [] [] [] [] ⟨[(0, .sl 2 (l.map e_Entry)), (1, .int .i64 at0), (3, .sl 2 (more.map e_Entry)), (10, .ptr 10 0), (11, .ptr 11 0), (53, .bool (((decide ((l.length : Int) < at0)) || ((decide (at0 = 0)) && (!decide (term = 0)))) || ((decide (0 < at0)) && (!decide (((lget l (w64 (at0 - 1))).Term) = term)))))], [(10, [.int .i64 v.1.Code, .int .i64 v.1.At]), (11, [.int .i64 v.2.Code, .int .i64 v.2.At])], [], [], []⟩ (.cons (len_ok e_Entry l) (.cons (fun (ga0 : (decide (0 < at0)) = true) (ga1 : (!((decide ((l.length : Int) < at0)) || ((decide (at0 = 0)) && (!decide (term = 0))))) = true) => (idx_ok e_Entry (h2 ga0 ga1))) .nil)) (by kernel_rfl) ?_
      refine Wk_split rfl (fun hb => ?_) (fun hb => ?_)
      · have hF := ite_t hF hb
        refine Wk_seq ?_
        obtain ⟨x2, h3, hF⟩ := ob_elim hF
        refine WD [.callE [] [] [] [] (.row 55 1) ⟨[], [], [(55, ⟨31, 2, 1, 0, 0, true, 0, [], (x2.map e_Entry)⟩)], [], []⟩] [8, 9, 10] [10] [55] [] [] [] ⟨[(8, .row 55 1), (9, .bool false), (10, .ptr 10 0)], [(10, [.int .i64 v.2.Code, .int .i64 v.2.At])], [(55, ⟨31, 2, 1, 0, 0, true, 0, [], (x2.map e_Entry)⟩)], [], []⟩ (.cons (Pe.ren (R_CopyLog_ok l x2 h3) ⟨[], [(4, 55)], [], []⟩) .nil) (by kernel_rfl) ?_
        have hF := some_elim hF
        exact Wk_ret (hfin _ ⟨[], [], [], [], [], [], by first | (rw [← hF]; kernel_rfl) | kernel_rfl⟩)
      · have hF := ite_f hF hb
        refine Wk_skip ?_
        refine Wk_seq ?_
        refine WR [] [0, 1, 3, 10, 11, 12] [10, 11] [] [] [] [] ⟨[(0, .sl 2 (l.map e_Entry)), (1, .int .i64 at0), (3, .sl 2 (more.map e_Entry)), (10, .ptr 10 0), (11, .ptr 11 0), (12, .int .i64 0)], [(10, [.int .i64 v.1.Code, .int .i64 v.1.At]), (11, [.int .i64 v.2.Code, .int .i64 v.2.At])], [], [], []⟩ .nil (by kernel_rfl) ?_
        refine Wk_seq ?_
        refine Wk_meetP (fun v1 : Fault × Fault × Int => (⟨[(0, .sl 2 (l.map e_Entry)), (1, .int .i64 at0), (3, .sl 2 (more.map e_Entry)), (10, .ptr 10 0), (11, .ptr 11 0), (12, .int .i64 v1.2.2)], [(10, [.int .i64 v1.1.Code, .int .i64 v1.1.At]), (11, [.int .i64 v1.2.1.Code, .int .i64 v1.2.1.At])], [], [], []⟩ : S)) (fun v1 => R_PutLog_v1_J1 l at0 more v1 = some r) ?_ ?_
        · refine Wk_block ?_
          unfold R_PutLog_v1_L2 at hF
          refine Wk_trim (fs := [0, 1, 3, 10, 11, 12]) (bs := [10, 11]) (rs := []) (ms := []) (aa := []) (nv := []) (t := (fun v6 : Fault × Fault × Int => (⟨[(0, .sl 2 (l.map e_Entry)), (1, .int .i64 at0), (3, .sl 2 (more.map e_Entry)), (10, .ptr 10 0), (11, .ptr 11 0), (12, .int .i64 v6.2.2)], [(10, [.int .i64 v6.1.Code, .int .i64 v6.1.At]), (11, [.int .i64 v6.2.1.Code, .int .i64 v6.2.1.At])], [], [], []⟩ : S)) (v.1, v.2, 0)) (by kernel_rfl) ?_
          refine Wk_iter (step := fun y => R_PutLog_v1_B2 l at0 more y) (r := r) (fun v6 : Fault × Fault × Int => (⟨[(0, .sl 2 (l.map e_Entry)), (1, .int .i64 at0), (3, .sl 2 (more.map e_Entry)), (10, .ptr 10 0), (11, .ptr 11 0), (12, .int .i64 v6.2.2)], [(10, [.int .i64 v6.1.Code, .int .i64 v6.1.At]), (11, [.int .i64 v6.2.1.Code, .int .i64 v6.2.1.At])], [], [], []⟩ : S)) (v.1, v.2, 0) hF ?_
          intro n1 v6 y1 hF ih1 dn1
          have hF : R_PutLog_v1_B2 l at0 more v6 = some y1 := hF
          unfold R_PutLog_v1_B2 at hF
          refine Wk_seq ?_
          refine Wk_seq ?_
          obtain ⟨h14, hF⟩ := asrt_elim hF
          obtain ⟨h15, hF⟩ := asrt_elim hF
          refine WD [.nat (more.length : Int), .nat (l.length : Int), .av (e_Entry (lget l (w64 (at0 + v6.2.2)))), .av (e_Entry (lget more v6.2.2))] [0, 1, 3, 10, 11, 12, 83] [10, 11] [] [] [] [] ⟨[(0, .sl 2 (l.map e_Entry)), (1, .int .i64 at0), (3, .sl 2 (more.map e_Entry)), (10, .ptr 10 0), (11, .ptr 11 0), (12, .int .i64 v6.2.2), (83, .bool (((decide (v6.2.2 < (more.length : Int))) && (decide ((w64 (at0 + v6.2.2)) < (l.length : Int)))) && (decide (((lget l (w64 (at0 + v6.2.2))).Term) = ((lget more v6.2.2).Term)))))], [(10, [.int .i64 v6.1.Code, .int .i64 v6.1.At]), (11, [.int .i64 v6.2.1.Code, .int .i64 v6.2.1.At])], [], [], []⟩ (.cons (len_ok e_Entry more) (.cons (fun (_ : (decide (v6.2.2 < (more.length : Int))) = true) => (len_ok e_Entry l)) (.cons (fun (ga0 : ((decide (v6.2.2 < (more.length : Int))) && (decide ((w64 (at0 + v6.2.2)) < (l.length : Int)))) = true) => (idx_ok e_Entry (h14 ga0))) (.cons (fun (ga0 : ((decide (v6.2.2 < (more.length : Int))) && (decide ((w64 (at0 + v6.2.2)) < (l.length : Int)))) = true) => (idx_ok e_Entry (h15 ga0))) .nil)))) (by kernel_rfl) ?_
          refine Wk_split rfl (fun hb => ?_) (fun hb => ?_)
          · have hF := ite_t hF hb
            refine Wk_skip ?_
            refine Wk_block ?_
            refine WR [] [0, 1, 3, 10, 11, 12] [10, 11] [] [] [] [] ⟨[(0, .sl 2 (l.map e_Entry)), (1, .int .i64 at0), (3, .sl 2 (more.map e_Entry)), (10, .ptr 10 0), (11, .ptr 11 0), (12, .int .i64 (w64 (v6.2.2 + 1)))], [(10, [.int .i64 v6.1.Code, .int .i64 v6.1.At]), (11, [.int .i64 v6.2.1.Code, .int .i64 v6.2.1.At])], [], [], []⟩ .nil (by kernel_rfl) ?_
            refine Wk_blk ?_
            refine Wk_trim (fs := [0, 1, 3, 10, 11, 12]) (bs := [10, 11]) (rs := []) (ms := []) (aa := []) (nv := []) ?_ (ih1 _ (some_elim hF).symm)
            kernel_rfl
          · have hF := ite_f hF hb
            refine Wk_exit rfl ?_
            have hF := inrO_done hF dn1
            exact Wk_metP (v6.1, v6.2.1, v6.2.2) [0, 1, 3, 10, 11, 12] [10, 11] [] [] [] [] hF (by kernel_rfl)
        · intro v1 hF
          have hF : R_PutLog_v1_J1 l at0 more v1 = some r := hF
          unfold R_PutLog_v1_J1 at hF
          refine Wk_seq ?_
          obtain ⟨x3, h4, hF⟩ := ob_elim hF
          refine WR [.callE [] [] [] [] (.row 87 1) ⟨[], [], [(87, ⟨31, 2, 1, 0, 0, true, 0, [], (x3.map e_Entry)⟩)], [], []⟩] [0, 1, 3, 10, 11, 12, 13] [10, 11] [87] [] [] [] ⟨[(0, .sl 2 (l.map e_Entry)), (1, .int .i64 at0), (3, .sl 2 (more.map e_Entry)), (10, .ptr 10 0), (11, .ptr 11 0), (12, .int .i64 v1.2.2), (13, .row 87 1)], [(10, [.int .i64 v1.1.Code, .int .i64 v1.1.At]), (11, [.int .i64 v1.2.1.Code, .int .i64 v1.2.1.At])], [(87, ⟨31, 2, 1, 0, 0, true, 0, [], (x3.map e_Entry)⟩)], [], []⟩ (.cons (Pe.ren (R_CopyLog_ok l x3 h4) ⟨[], [(4, 87)], [], []⟩) .nil) (by kernel_rfl) ?_
          refine Wk_seq ?_
          refine Wk_seq ?_
          refine WR [.nat (more.length : Int)] [0, 1, 3, 10, 11, 12, 13, 91] [10, 11] [87] [] [] [] ⟨[(0, .sl 2 (l.map e_Entry)), (1, .int .i64 at0), (3, .sl 2 (more.map e_Entry)), (10, .ptr 10 0), (11, .ptr 11 0), (12, .int .i64 v1.2.2), (13, .row 87 1), (91, .bool (decide (v1.2.2 < (more.length : Int))))], [(10, [.int .i64 v1.1.Code, .int .i64 v1.1.At]), (11, [.int .i64 v1.2.1.Code, .int .i64 v1.2.1.At])], [(87, ⟨31, 2, 1, 0, 0, true, 0, [], (x3.map e_Entry)⟩)], [], []⟩ (.cons (len_ok e_Entry more) .nil) (by kernel_rfl) ?_
          refine Wk_meetP (fun v2 : Fault × Fault × List Entry => (⟨[(10, .ptr 10 0), (11, .ptr 11 0), (13, .row 97 0)], [(10, [.int .i64 v2.1.Code, .int .i64 v2.1.At]), (11, [.int .i64 v2.2.1.Code, .int .i64 v2.2.1.At])], [(97, ⟨31, 2, 0, 0, 0, true, 0, [], (v2.2.2.map e_Entry)⟩)], [], []⟩ : S)) (fun v2 => R_PutLog_v1_J2 v2 = some r) ?_ ?_
          · refine Wk_split rfl (fun hb => ?_) (fun hb => ?_)
            · have hF := ite_t hF hb
              refine Wk_seq ?_
              obtain ⟨h7, hF⟩ := asrt_elim hF
              obtain ⟨x6, h8, hF⟩ := ob_elim hF
              obtain ⟨h9, hF⟩ := asrt_elim hF
              obtain ⟨h10, hF⟩ := asrt_elim hF
              refine WD [.xs ((ltake l (w64 (at0 + v1.2.2))).map e_Entry), .callE [] [] [] [] (.row 97 1) ⟨[], [], [(97, ⟨31, 2, 1, 0, 0, true, 0, [], (x6.map e_Entry)⟩)], [], []⟩, .xs ((ldrop more v1.2.2).map e_Entry), .xs ((x6 ++ (ldrop more v1.2.2)).map e_Entry)] [1, 3, 10, 11, 12, 13] [10, 11] [97] [] [] [] ⟨[(1, .int .i64 at0), (3, .sl 2 (more.map e_Entry)), (10, .ptr 10 0), (11, .ptr 11 0), (12, .int .i64 v1.2.2), (13, .row 97 2)], [(10, [.int .i64 v1.1.Code, .int .i64 v1.1.At]), (11, [.int .i64 v1.2.1.Code, .int .i64 v1.2.1.At])], [(97, ⟨31, 2, 2, 0, 0, true, 0, [], ((x6 ++ (ldrop more v1.2.2)).map e_Entry)⟩)], [], []⟩ (.cons (sl01_ok e_Entry h7) (.cons (Pe.ren (R_CopyLog_ok (ltake l (w64 (at0 + v1.2.2))) x6 h8) ⟨[], [(4, 97)], [], []⟩) (.cons (sl10_ok e_Entry h9) (.cons (app_ok e_Entry x6 (ldrop more v1.2.2)) (.cons (appl_ok e_Entry h10) .nil))))) (by kernel_rfl) ?_
              refine Wk_seq ?_
              refine WR [] [1, 3, 10, 11, 13, 14] [10, 11] [97] [] [] [] ⟨[(1, .int .i64 at0), (3, .sl 2 (more.map e_Entry)), (10, .ptr 10 0), (11, .ptr 11 0), (13, .row 97 2), (14, .int .i64 v1.2.2)], [(10, [.int .i64 v1.1.Code, .int .i64 v1.1.At]), (11, [.int .i64 v1.2.1.Code, .int .i64 v1.2.1.At])], [(97, ⟨31, 2, 2, 0, 0, true, 0, [], ((x6 ++ (ldrop more v1.2.2)).map e_Entry)⟩)], [], []⟩ .nil (by kernel_rfl) ?_
              refine Wk_meetP (fun v3 : Fault × Fault × List Entry => (⟨[(10, .ptr 10 0), (11, .ptr 11 0), (13, .row 97 2)], [(10, [.int .i64 v3.1.Code, .int .i64 v3.1.At]), (11, [.int .i64 v3.2.1.Code, .int .i64 v3.2.1.At])], [(97, ⟨31, 2, 2, 0, 0, true, 0, [], (v3.2.2.map e_Entry)⟩)], [], []⟩ : S)) (fun v3 => R_PutLog_v1_J3 v3 = some r) ?_ ?_
              · refine Wk_block ?_
                unfold R_PutLog_v1_L1 at hF
                refine Wk_trim (fs := [1, 3, 10, 11, 13, 14]) (bs := [10, 11]) (rs := [97]) (ms := []) (aa := []) (nv := []) (t := (fun v4 : Fault × Fault × List Entry × Int => (⟨[(1, .int .i64 at0), (3, .sl 2 (more.map e_Entry)), (10, .ptr 10 0), (11, .ptr 11 0), (13, .row 97 2), (14, .int .i64 v4.2.2.2)], [(10, [.int .i64 v4.1.Code, .int .i64 v4.1.At]), (11, [.int .i64 v4.2.1.Code, .int .i64 v4.2.1.At])], [(97, ⟨31, 2, 2, 0, 0, true, 0, [], (v4.2.2.1.map e_Entry)⟩)], [], []⟩ : S)) (v1.1, v1.2.1, (x6 ++ (ldrop more v1.2.2)), v1.2.2)) (by kernel_rfl) ?_
                refine Wk_iter (step := fun y => R_PutLog_v1_B1 at0 more y) (r := r) (fun v4 : Fault × Fault × List Entry × Int => (⟨[(1, .int .i64 at0), (3, .sl 2 (more.map e_Entry)), (10, .ptr 10 0), (11, .ptr 11 0), (13, .row 97 2), (14, .int .i64 v4.2.2.2)], [(10, [.int .i64 v4.1.Code, .int .i64 v4.1.At]), (11, [.int .i64 v4.2.1.Code, .int .i64 v4.2.1.At])], [(97, ⟨31, 2, 2, 0, 0, true, 0, [], (v4.2.2.1.map e_Entry)⟩)], [], []⟩ : S)) (v1.1, v1.2.1, (x6 ++ (ldrop more v1.2.2)), v1.2.2) hF ?_
                intro n1 v4 y1 hF ih1 dn1
                have hF : R_PutLog_v1_B1 at0 more v4 = some y1 := hF
                unfold R_PutLog_v1_B1 at hF
                refine Wk_seq ?_
                refine Wk_seq ?_
                refine WR [.nat (more.length : Int)] [1, 3, 10, 11, 13, 14, 106] [10, 11] [97] [] [] [] ⟨[(1, .int .i64 at0), (3, .sl 2 (more.map e_Entry)), (10, .ptr 10 0), (11, .ptr 11 0), (13, .row 97 2), (14, .int .i64 v4.2.2.2), (106, .bool (decide (v4.2.2.2 < (more.length : Int))))], [(10, [.int .i64 v4.1.Code, .int .i64 v4.1.At]), (11, [.int .i64 v4.2.1.Code, .int .i64 v4.2.1.At])], [(97, ⟨31, 2, 2, 0, 0, true, 0, [], (v4.2.2.1.map e_Entry)⟩)], [], []⟩ (.cons (len_ok e_Entry more) .nil) (by kernel_rfl) ?_
                refine Wk_split rfl (fun hb => ?_) (fun hb => ?_)
                · have hF := ite_t hF hb
                  refine Wk_skip ?_
                  refine Wk_seq ?_
                  refine Wk_block ?_
                  obtain ⟨h11, hF⟩ := asrt_elim hF
                  obtain ⟨h12, hF⟩ := asrt_elim hF
                  obtain ⟨h13, hF⟩ := asrt_elim hF
                  refine WRL ((lset v4.2.2.1 (w64 (at0 + v4.2.2.2)) (⟨(lget more v4.2.2.2).Term, (lget more v4.2.2.2).Text⟩ : Entry))) (fun v5 : List Entry => ⟨[(1, .int .i64 at0), (3, .sl 2 (more.map e_Entry)), (10, .ptr 10 0), (11, .ptr 11 0), (13, .row 97 2), (14, .int .i64 v4.2.2.2)], [(10, [.int .i64 v4.1.Code, .int .i64 v4.1.At]), (11, [.int .i64 v4.2.1.Code, .int .i64 v4.2.1.At])], [(97, ⟨31, 2, 2, 0, 0, true, 0, [], (v5.map e_Entry)⟩)], [], []⟩) [.av (e_Entry (lget more v4.2.2.2)), .av (e_Entry (lget v4.2.2.1 (w64 (at0 + v4.2.2.2)))), .xs ((lset v4.2.2.1 (w64 (at0 + v4.2.2.2)) (⟨(lget more v4.2.2.2).Term, (lget more v4.2.2.2).Text⟩ : Entry)).map e_Entry)] [1, 3, 10, 11, 13, 14] [10, 11] [97] [] [] [] (.cons (idx_ok e_Entry h11) (.cons (ixr_ok e_Entry h12) (.cons (ldr_ok e_Entry h13) (.cons (set_ok e_Entry v4.2.2.1 (w64 (at0 + v4.2.2.2)) (⟨(lget more v4.2.2.2).Term, (lget more v4.2.2.2).Text⟩ : Entry)) (.cons (Nat.zero_le ((w64 (at0 + v4.2.2.2)).toNat)) .nil))))) (by kernel_rfl) (fun v5 hv => ?_)
                  have hF := lt_elim hF hv
                  refine Wk_blk ?_
                  refine WR [] [1, 3, 10, 11, 13, 14] [10, 11] [97] [] [] [] ⟨[(1, .int .i64 at0), (3, .sl 2 (more.map e_Entry)), (10, .ptr 10 0), (11, .ptr 11 0), (13, .row 97 2), (14, .int .i64 (w64 (v4.2.2.2 + 1)))], [(10, [.int .i64 v4.1.Code, .int .i64 v4.1.At]), (11, [.int .i64 v4.2.1.Code, .int .i64 v4.2.1.At])], [(97, ⟨31, 2, 2, 0, 0, true, 0, [], (v5.map e_Entry)⟩)], [], []⟩ .nil (by kernel_rfl) ?_
                  refine Wk_trim (fs := [1, 3, 10, 11, 13, 14]) (bs := [10, 11]) (rs := [97]) (ms := []) (aa := []) (nv := []) ?_ (ih1 _ (some_elim hF).symm)
                  kernel_rfl
                · have hF := ite_f hF hb
                  refine Wk_exit rfl ?_
                  have hF := inrO_done hF dn1
                  exact Wk_metP (v4.1, v4.2.1, v4.2.2.1) [10, 11, 13] [10, 11] [97] [] [] [] hF (by kernel_rfl)
              · intro v3 hF
                have hF : R_PutLog_v1_J3 v3 = some r := hF
                unfold R_PutLog_v1_J3 at hF
                exact Wk_metP (v3.1, v3.2.1, v3.2.2) [10, 11, 13] [10, 11] [97] [] [] [(97, ⟨0, true, true, false⟩)] hF (by kernel_rfl)
            · have hF := ite_f hF hb
              refine Wk_skip ?_
              refine Wk_trim (fs := [10, 11, 13]) (bs := [10, 11]) (rs := [87]) (ms := []) (aa := []) (nv := []) rfl ?_
              refine Wk_ren' ⟨[], [(87, 97)], [], []⟩ rfl ?_
              exact Wk_metP (v1.1, v1.2.1, x3) [10, 11, 13] [10, 11] [97] [] [] [(97, ⟨0, true, true, false⟩)] hF (by kernel_rfl)
          · intro v2 hF
            have hF : R_PutLog_v1_J2 v2 = some r := hF
            unfold R_PutLog_v1_J2 at hF
            refine Wk_seq ?_
            obtain ⟨x4, h5, hF⟩ := ob_elim hF
            refine WR [.callB (.agg [.int .i64 x4.Code, .int .i64 x4.At])] [10, 11, 13] [10, 11] [97] [] [] [] ⟨[(10, .ptr 10 0), (11, .ptr 11 0), (13, .row 97 0)], [(10, [.int .i64 v2.1.Code, .int .i64 v2.1.At]), (11, [.int .i64 x4.Code, .int .i64 x4.At])], [(97, ⟨31, 2, 0, 0, 0, true, 0, [], (v2.2.2.map e_Entry)⟩)], [], []⟩ (.cons (R_LogFault_ok v2.2.2 x4 h5) .nil) (by kernel_rfl) ?_
            refine Wk_seq ?_
            refine Wk_seq ?_
            refine WR [] [10, 11, 13, 122] [10, 11] [97] [] [] [] ⟨[(10, .ptr 10 0), (11, .ptr 11 0), (13, .row 97 0), (122, .bool (!decide (x4.Code = 0)))], [(10, [.int .i64 v2.1.Code, .int .i64 v2.1.At]), (11, [.int .i64 x4.Code, .int .i64 x4.At])], [(97, ⟨31, 2, 0, 0, 0, true, 0, [], (v2.2.2.map e_Entry)⟩)], [], []⟩ .nil (by kernel_rfl) ?_
            refine Wk_split rfl (fun hb => ?_) (fun hb => ?_)
            · have hF := ite_t hF hb
              refine Wk_seq ?_
              obtain ⟨x5, h6, hF⟩ := lt_split hF
              refine WR [.callB (.agg [.int .i64 x5.Code, .int .i64 x5.At])] [8, 9, 10] [10] [] [] [] [] ⟨[(8, .nils), (9, .bool false), (10, .ptr 10 0)], [(10, [.int .i64 x5.Code, .int .i64 x5.At])], [], [], []⟩ (.cons (R_F_ok x4.Code (-1) x5 h6) .nil) (by kernel_rfl) ?_
              have hF := some_elim hF
              exact Wk_ret (hfin _ ⟨[], [], [], [], [], [], by first | (rw [← hF]; kernel_rfl) | kernel_rfl⟩)
            · have hF := ite_f hF hb
              refine Wk_skip ?_
              refine Wk_seq ?_
              refine WD [] [8, 9, 10] [10] [97] [] [] [] ⟨[(8, .row 97 0), (9, .bool true), (10, .ptr 10 0)], [(10, [.int .i64 x4.Code, .int .i64 x4.At])], [(97, ⟨31, 2, 0, 0, 0, true, 0, [], (v2.2.2.map e_Entry)⟩)], [], []⟩ .nil (by kernel_rfl) ?_
              have hF := some_elim hF
              exact Wk_ret (hfin _ ⟨[], [], [], [], [], [], by first | (rw [← hF]; kernel_rfl) | kernel_rfl⟩)

/- tabularylaw.EntryDoes -/
noncomputable def law_EntryDoes_J1 (x8 : Int × Fault) (v1 : Fault × Fault × Int) : Option Bool :=
  lt ((decide (v1.1.Code = v1.2.1.Code) && (decide (v1.1.At = v1.2.1.At) && true)) && (decide (x8.1 = v1.2.2))) fun (v2 : Bool) =>
  some v2
noncomputable def law_EntryDoes_B1 (a0 : List Entry) (b : List Entry) (x8 : Int × Fault) (v3 : Fault × Fault × Int × Int) : Option ((Fault × Fault × Int × Int) ⊕ Bool) :=
  if (((decide (v3.2.2.2 < (a0.length : Int))) && (decide (v3.2.2.2 < (b.length : Int)))) && (decide (v3.2.1.Code = 0))) = true then
    asrt (0 ≤ v3.2.2.2 ∧ v3.2.2.2 < (a0.length : Int)) <|
    asrt (0 ≤ v3.2.2.2 ∧ v3.2.2.2 < (b.length : Int)) <|
    ob (
      if (decide (((lget a0 v3.2.2.2).Term) = ((lget b v3.2.2.2).Term))) = true then
        some (v3.1, v3.2.1, w64 (v3.2.2.2 + 1))
      else
        some (v3.1, v3.2.1, v3.2.2.1)) fun (v4 : Fault × Fault × Int) =>
    some (Sum.inl (v4.1, v4.2.1, v4.2.2, w64 (v3.2.2.2 + 1)))
  else
    inrO (law_EntryDoes_J1 x8 (v3.1, v3.2.1, v3.2.2.1))
noncomputable def law_EntryDoes_L1 (a0 : List Entry) (b : List Entry) (x8 : Int × Fault) (v0 : Fault × Fault × Int × Int) : Option Bool :=
  loopO (fun y => law_EntryDoes_B1 a0 b x8 y) v0
noncomputable def law_EntryDoes (a0 : List Entry) (b : List Entry) (at0 : Int) (term : Int) : Option Bool :=
  ob (law_entryBegun) fun x =>
  if (!x) = true then
    some false
  else
    lt (law_vastLog a0) fun x1 =>
    lt (law_vastLog b) fun x2 =>
    if (x1 || x2) = true then
      some true
    else
      ob (R_CopyLog_v1 a0) fun x3 =>
      ob (R_CopyLog_v1 b) fun x4 =>
      ob (entry_Check x3) fun x5 =>
      ob (entry_Older x3 at0 term) fun x6 =>
      ob (entry_Put_v1 x3 at0 term x4) fun x7 =>
      ob (entry_Agree x3 x4) fun x8 =>
      ob (R_SameLog x3 a0) fun x9 =>
      ob (if (!(!x9)) = true then (R_SameLog x4 b) else some default) fun x10 =>
      ob (if (!((!x9) || (!x10))) = true then (R_LogFault a0) else some default) fun x11 =>
      if (((!x9) || (!x10)) || (!(decide (x5.Code = x11.Code) && (decide (x5.At = x11.At) && true)))) = true then
        some false
      else
        ob (R_LogFault a0) fun x12 =>
        ob (
          if (decide (x12.Code = 0)) = true then
            lt (R_PlaceFault at0 term) fun x13 =>
            some (x6.2, x7.2.2, x8.2, x13)
          else
            some (x6.2, x7.2.2, x8.2, x12)) fun (v : Fault × Fault × Fault × Fault) =>
        ob (if (decide (v.2.2.2.Code = 0)) = true then (if (!(!(decide (v.1.Code = v.2.2.2.Code) && (decide (v.1.At = v.2.2.2.At) && true)))) = true then (R_OlderLog a0 at0 term) else some default) else some default) fun x14 =>
        if ((!(decide (v.1.Code = v.2.2.2.Code) && (decide (v.1.At = v.2.2.2.At) && true))) || (!(x6.1 == ((decide (v.2.2.2.Code = 0)) && x14)))) = true then
          some false
        else
          ob (R_PutLog_v1 a0 at0 term b) fun x15 =>
          ob (if (!((!(decide (v.2.1.Code = x15.2.2.Code) && (decide (v.2.1.At = x15.2.2.At) && true))) || (!(x7.2.1 == x15.2.1)))) = true then (R_SameLog x7.1 x15.1) else some default) fun x16 =>
          if (((!(decide (v.2.1.Code = x15.2.2.Code) && (decide (v.2.1.At = x15.2.2.At) && true))) || (!(x7.2.1 == x15.2.1))) || (!x16)) = true then
            some false
          else
            ob (R_LogsFault a0 b) fun x17 =>
            law_EntryDoes_L1 a0 b x8 (v.2.2.1, x17, 0, 0)
theorem law_EntryDoes_ok (a0 : List Entry) (b : List Entry) (at0 : Int) (term : Int) (r : Bool) (hF : law_EntryDoes a0 b at0 term = some r) : Pe Try.prog 5 S.none [.sl 2 (a0.map e_Entry), .sl 2 (b.map e_Entry), .int .i64 at0, .int .i64 term] (.bool r) S.none := by
  refine Pe_of (N := 164) (res := [.tmp 8]) (ts := [4]) Ty.ok Fn.b5 Try.func5 rfl rfl rfl rfl rfl rfl ?_
  intro Q g hfin
  unfold law_EntryDoes at hF
  refine Wk_seq ?_
  refine WR [] [0, 1, 2, 3] [] [] [] [] [] ⟨[(0, .sl 2 (a0.map e_Entry)), (1, .sl 2 (b.map e_Entry)), (2, .int .i64 at0), (3, .int .i64 term)], [], [], [], []⟩ .nil (by kernel_rfl) ?_
  refine Wk_seq ?_
  refine Wk_seq ?_
  obtain ⟨x, h0, hF⟩ := ob_elim hF
  refine WR [.callB (.bool x)] [0, 1, 2, 3, 25] [] [] [] [] [] ⟨[(0, .sl 2 (a0.map e_Entry)), (1, .sl 2 (b.map e_Entry)), (2, .int .i64 at0), (3, .int .i64 term), (25, .bool (!x))], [], [], [], []⟩ (.cons (law_entryBegun_ok  x h0) .nil) (by kernel_rfl) ?_
  refine Wk_split rfl (fun hb => ?_) (fun hb => ?_)
  · have hF := ite_t hF hb
    refine Wk_seq ?_
    refine WR [] [8] [] [] [] [] [] ⟨[(8, .bool false)], [], [], [], []⟩ .nil (by kernel_rfl) ?_
    have hF := some_elim hF
    exact Wk_ret (hfin _ ⟨[], [], [], [], [], [], by first | (rw [← hF]; kernel_rfl) | kernel_rfl⟩)
  · have hF := ite_f hF hb
    refine Wk_skip ?_
    refine Wk_seq ?_
    refine Wk_seq ?_
    obtain ⟨x1, h1, hF⟩ := lt_split hF
    obtain ⟨x2, h2, hF⟩ := lt_split hF
    refine WR [.callB (.bool x1), .callB (.bool x2)] [0, 1, 2, 3, 31] [] [] [] [] [] ⟨[(0, .sl 2 (a0.map e_Entry)), (1, .sl 2 (b.map e_Entry)), (2, .int .i64 at0), (3, .int .i64 term), (31, .bool (x1 || x2))], [], [], [], []⟩ (.cons (law_vastLog_ok a0 x1 h1) (.cons (fun (ga0 : (!x1) = true) => (law_vastLog_ok b x2 h2)) .nil)) (by kernel_rfl) ?_
    refine Wk_split rfl (fun hb => ?_) (fun hb => ?_)
    · have hF := ite_t hF hb
      refine Wk_seq ?_
      refine WR [] [8] [] [] [] [] [] ⟨[(8, .bool true)], [], [], [], []⟩ .nil (by kernel_rfl) ?_
      have hF := some_elim hF
      exact Wk_ret (hfin _ ⟨[], [], [], [], [], [], by first | (rw [← hF]; kernel_rfl) | kernel_rfl⟩)
    · have hF := ite_f hF hb
      refine Wk_skip ?_
      refine Wk_seq ?_
      obtain ⟨x3, h3, hF⟩ := ob_elim hF
      refine WR [.call (.sl 2 (x3.map e_Entry))] [0, 1, 2, 3, 9] [] [] [] [] [] ⟨[(0, .sl 2 (a0.map e_Entry)), (1, .sl 2 (b.map e_Entry)), (2, .int .i64 at0), (3, .int .i64 term), (9, .sl 2 (x3.map e_Entry))], [], [], [], []⟩ (.cons (R_CopyLog_v1_ok a0 x3 h3) .nil) (by kernel_rfl) ?_
      refine Wk_seq ?_
      obtain ⟨x4, h4, hF⟩ := ob_elim hF
      refine WR [.call (.sl 2 (x4.map e_Entry))] [0, 1, 2, 3, 9, 10] [] [] [] [] [] ⟨[(0, .sl 2 (a0.map e_Entry)), (1, .sl 2 (b.map e_Entry)), (2, .int .i64 at0), (3, .int .i64 term), (9, .sl 2 (x3.map e_Entry)), (10, .sl 2 (x4.map e_Entry))], [], [], [], []⟩ (.cons (R_CopyLog_v1_ok b x4 h4) .nil) (by kernel_rfl) ?_
      refine Wk_seq ?_
      obtain ⟨x5, h5, hF⟩ := ob_elim hF
      refine WR [.callB (.agg [.int .i64 x5.Code, .int .i64 x5.At])] [0, 1, 2, 3, 9, 10, 11] [11] [] [] [] [] ⟨[(0, .sl 2 (a0.map e_Entry)), (1, .sl 2 (b.map e_Entry)), (2, .int .i64 at0), (3, .int .i64 term), (9, .sl 2 (x3.map e_Entry)), (10, .sl 2 (x4.map e_Entry)), (11, .ptr 11 0)], [(11, [.int .i64 x5.Code, .int .i64 x5.At])], [], [], []⟩ (.cons (entry_Check_ok x3 x5 h5) .nil) (by kernel_rfl) ?_
      refine Wk_seq ?_
      obtain ⟨x6, h6, hF⟩ := ob_elim hF
      refine WR [.callB (.tup [.bool x6.1, .agg [.int .i64 x6.2.Code, .int .i64 x6.2.At]])] [0, 1, 2, 3, 9, 10, 11, 12, 13] [11, 13] [] [] [] [] ⟨[(0, .sl 2 (a0.map e_Entry)), (1, .sl 2 (b.map e_Entry)), (2, .int .i64 at0), (3, .int .i64 term), (9, .sl 2 (x3.map e_Entry)), (10, .sl 2 (x4.map e_Entry)), (11, .ptr 11 0), (12, .bool x6.1), (13, .ptr 13 0)], [(11, [.int .i64 x5.Code, .int .i64 x5.At]), (13, [.int .i64 x6.2.Code, .int .i64 x6.2.At])], [], [], []⟩ (.cons (entry_Older_ok x3 at0 term x6 h6) .nil) (by kernel_rfl) ?_
      refine Wk_seq ?_
      obtain ⟨x7, h7, hF⟩ := ob_elim hF
      refine WR [.call (.tup [.sl 2 (x7.1.map e_Entry), .bool x7.2.1, .agg [.int .i64 x7.2.2.Code, .int .i64 x7.2.2.At]])] [0, 1, 2, 3, 9, 10, 11, 12, 13, 14, 15, 16] [11, 13, 16] [] [] [] [] ⟨[(0, .sl 2 (a0.map e_Entry)), (1, .sl 2 (b.map e_Entry)), (2, .int .i64 at0), (3, .int .i64 term), (9, .sl 2 (x3.map e_Entry)), (10, .sl 2 (x4.map e_Entry)), (11, .ptr 11 0), (12, .bool x6.1), (13, .ptr 13 0), (14, .sl 2 (x7.1.map e_Entry)), (15, .bool x7.2.1), (16, .ptr 16 0)], [(11, [.int .i64 x5.Code, .int .i64 x5.At]), (13, [.int .i64 x6.2.Code, .int .i64 x6.2.At]), (16, [.int .i64 x7.2.2.Code, .int .i64 x7.2.2.At])], [], [], []⟩ (.cons (entry_Put_v1_ok x3 at0 term x4 x7 h7) .nil) (by kernel_rfl) ?_
      refine Wk_seq ?_
      obtain ⟨x8, h8, hF⟩ := ob_elim hF
      refine WR [.callB (.tup [.int .i64 x8.1, .agg [.int .i64 x8.2.Code, .int .i64 x8.2.At]])] [0, 1, 2, 3, 9, 10, 11, 12, 13, 14, 15, 16, 17, 18] [11, 13, 16, 18] [] [] [] [] ⟨[(0, .sl 2 (a0.map e_Entry)), (1, .sl 2 (b.map e_Entry)), (2, .int .i64 at0), (3, .int .i64 term), (9, .sl 2 (x3.map e_Entry)), (10, .sl 2 (x4.map e_Entry)), (11, .ptr 11 0), (12, .bool x6.1), (13, .ptr 13 0), (14, .sl 2 (x7.1.map e_Entry)), (15, .bool x7.2.1), (16, .ptr 16 0), (17, .int .i64 x8.1), (18, .ptr 18 0)], [(11, [.int .i64 x5.Code, .int .i64 x5.At]), (13, [.int .i64 x6.2.Code, .int .i64 x6.2.At]), (16, [.int .i64 x7.2.2.Code, .int .i64 x7.2.2.At]), (18, [.int .i64 x8.2.Code, .int .i64 x8.2.At])], [], [], []⟩ (.cons (entry_Agree_ok x3 x4 x8 h8) .nil) (by kernel_rfl) ?_
      refine Wk_seq ?_
      refine Wk_seq ?_
      obtain ⟨x9, h9, hF⟩ := ob_elim hF
      obtain ⟨x10, h10, hF⟩ := ob_elim hF
      obtain ⟨x11, h11, hF⟩ := ob_elim hF
      refine WD [.callB (.bool x9), .callB (.bool x10), .callB (.agg [.int .i64 x11.Code, .int .i64 x11.At])] [0, 1, 2, 3, 12, 13, 14, 15, 16, 17, 18, 75] [13, 16, 18] [] [] [] [] ⟨[(0, .sl 2 (a0.map e_Entry)), (1, .sl 2 (b.map e_Entry)), (2, .int .i64 at0), (3, .int .i64 term), (12, .bool x6.1), (13, .ptr 13 0), (14, .sl 2 (x7.1.map e_Entry)), (15, .bool x7.2.1), (16, .ptr 16 0), (17, .int .i64 x8.1), (18, .ptr 18 0), (75, .bool (((!x9) || (!x10)) || (!(decide (x5.Code = x11.Code) && (decide (x5.At = x11.At) && true)))))], [(13, [.int .i64 x6.2.Code, .int .i64 x6.2.At]), (16, [.int .i64 x7.2.2.Code, .int .i64 x7.2.2.At]), (18, [.int .i64 x8.2.Code, .int .i64 x8.2.At])], [], [], []⟩ (.cons (R_SameLog_ok x3 a0 x9 h9) (.cons (fun (ga0 : (!(!x9)) = true) => (R_SameLog_ok x4 b x10 (ite_t h10 ga0))) (.cons (fun (ga0 : (!((!x9) || (!x10))) = true) => (R_LogFault_ok a0 x11 (ite_t h11 ga0))) .nil))) (by kernel_rfl) ?_
      refine Wk_split rfl (fun hb => ?_) (fun hb => ?_)
      · have hF := ite_t hF hb
        refine Wk_seq ?_
        refine WR [] [8] [] [] [] [] [] ⟨[(8, .bool false)], [], [], [], []⟩ .nil (by kernel_rfl) ?_
        have hF := some_elim hF
        exact Wk_ret (hfin _ ⟨[], [], [], [], [], [], by first | (rw [← hF]; kernel_rfl) | kernel_rfl⟩)
      · have hF := ite_f hF hb
        refine Wk_skip ?_
        refine Wk_seq ?_
        obtain ⟨x12, h12, hF⟩ := ob_elim hF
        refine WR [.callB (.agg [.int .i64 x12.Code, .int .i64 x12.At])] [0, 1, 2, 3, 12, 13, 14, 15, 16, 17, 18, 19] [13, 16, 18, 19] [] [] [] [] ⟨[(0, .sl 2 (a0.map e_Entry)), (1, .sl 2 (b.map e_Entry)), (2, .int .i64 at0), (3, .int .i64 term), (12, .bool x6.1), (13, .ptr 13 0), (14, .sl 2 (x7.1.map e_Entry)), (15, .bool x7.2.1), (16, .ptr 16 0), (17, .int .i64 x8.1), (18, .ptr 18 0), (19, .ptr 19 0)], [(13, [.int .i64 x6.2.Code, .int .i64 x6.2.At]), (16, [.int .i64 x7.2.2.Code, .int .i64 x7.2.2.At]), (18, [.int .i64 x8.2.Code, .int .i64 x8.2.At]), (19, [.int .i64 x12.Code, .int .i64 x12.At])], [], [], []⟩ (.cons (R_LogFault_ok a0 x12 h12) .nil) (by kernel_rfl) ?_
        refine Wk_seq ?_
        refine Wk_seq ?_
        refine WR [] [0, 1, 2, 3, 12, 13, 14, 15, 16, 17, 18, 19, 80] [13, 16, 18, 19] [] [] [] [] ⟨[(0, .sl 2 (a0.map e_Entry)), (1, .sl 2 (b.map e_Entry)), (2, .int .i64 at0), (3, .int .i64 term), (12, .bool x6.1), (13, .ptr 13 0), (14, .sl 2 (x7.1.map e_Entry)), (15, .bool x7.2.1), (16, .ptr 16 0), (17, .int .i64 x8.1), (18, .ptr 18 0), (19, .ptr 19 0), (80, .bool (decide (x12.Code = 0)))], [(13, [.int .i64 x6.2.Code, .int .i64 x6.2.At]), (16, [.int .i64 x7.2.2.Code, .int .i64 x7.2.2.At]), (18, [.int .i64 x8.2.Code, .int .i64 x8.2.At]), (19, [.int .i64 x12.Code, .int .i64 x12.At])], [], [], []⟩ .nil (by kernel_rfl) ?_
        obtain ⟨v, hv, hF⟩ := ob_elim hF
        refine Wk_meet (⟨[(0, .sl 2 (a0.map e_Entry)), (1, .sl 2 (b.map e_Entry)), (2, .int .i64 at0), (3, .int .i64 term), (12, .bool x6.1), (13, .ptr 13 0), (14, .sl 2 (x7.1.map e_Entry)), (15, .bool x7.2.1), (16, .ptr 16 0), (17, .int .i64 x8.1), (18, .ptr 18 0), (19, .ptr 19 0)], [(13, [.int .i64 v.1.Code, .int .i64 v.1.At]), (16, [.int .i64 v.2.1.Code, .int .i64 v.2.1.At]), (18, [.int .i64 v.2.2.1.Code, .int .i64 v.2.2.1.At]), (19, [.int .i64 v.2.2.2.Code, .int .i64 v.2.2.2.At])], [], [], []⟩ : S) ?_ ?_
        · have hF := hv
          refine Wk_split rfl (fun hb => ?_) (fun hb => ?_)
          · have hF := ite_t hF hb
            obtain ⟨x13, h13, hF⟩ := lt_split hF
            refine WR [.callB (.agg [.int .i64 x13.Code, .int .i64 x13.At])] [0, 1, 2, 3, 12, 13, 14, 15, 16, 17, 18, 19] [13, 16, 18, 19] [] [] [] [] ⟨[(0, .sl 2 (a0.map e_Entry)), (1, .sl 2 (b.map e_Entry)), (2, .int .i64 at0), (3, .int .i64 term), (12, .bool x6.1), (13, .ptr 13 0), (14, .sl 2 (x7.1.map e_Entry)), (15, .bool x7.2.1), (16, .ptr 16 0), (17, .int .i64 x8.1), (18, .ptr 18 0), (19, .ptr 19 0)], [(13, [.int .i64 x6.2.Code, .int .i64 x6.2.At]), (16, [.int .i64 x7.2.2.Code, .int .i64 x7.2.2.At]), (18, [.int .i64 x8.2.Code, .int .i64 x8.2.At]), (19, [.int .i64 x13.Code, .int .i64 x13.At])], [], [], []⟩ (.cons (R_PlaceFault_ok at0 term x13 h13) .nil) (by kernel_rfl) ?_
            exact Wk_met (fs := [0, 1, 2, 3, 12, 13, 14, 15, 16, 17, 18, 19]) (bs := [13, 16, 18, 19]) (rs := []) (ms := []) (aa := []) (nv := []) (by first | (rw [← some_elim hF]; kernel_rfl) | kernel_rfl)
          · have hF := ite_f hF hb
            refine Wk_skip ?_
            exact Wk_met (fs := [0, 1, 2, 3, 12, 13, 14, 15, 16, 17, 18, 19]) (bs := [13, 16, 18, 19]) (rs := []) (ms := []) (aa := []) (nv := []) (by first | (rw [← some_elim hF]; kernel_rfl) | kernel_rfl)
        · refine Wk_seq ?_
          refine Wk_seq ?_
          obtain ⟨x14, h14, hF⟩ := ob_elim hF
          refine WR [.callB (.bool x14)] [0, 1, 2, 3, 14, 15, 16, 17, 18, 19, 99] [16, 18, 19] [] [] [] [] ⟨[(0, .sl 2 (a0.map e_Entry)), (1, .sl 2 (b.map e_Entry)), (2, .int .i64 at0), (3, .int .i64 term), (14, .sl 2 (x7.1.map e_Entry)), (15, .bool x7.2.1), (16, .ptr 16 0), (17, .int .i64 x8.1), (18, .ptr 18 0), (19, .ptr 19 0), (99, .bool ((!(decide (v.1.Code = v.2.2.2.Code) && (decide (v.1.At = v.2.2.2.At) && true))) || (!(x6.1 == ((decide (v.2.2.2.Code = 0)) && x14)))))], [(16, [.int .i64 v.2.1.Code, .int .i64 v.2.1.At]), (18, [.int .i64 v.2.2.1.Code, .int .i64 v.2.2.1.At]), (19, [.int .i64 v.2.2.2.Code, .int .i64 v.2.2.2.At])], [], [], []⟩ (.cons (fun (ga0 : (decide (v.2.2.2.Code = 0)) = true) (ga1 : (!(!(decide (v.1.Code = v.2.2.2.Code) && (decide (v.1.At = v.2.2.2.At) && true)))) = true) => (R_OlderLog_ok a0 at0 term x14 (ite_t (ite_t h14 ga0) ga1))) .nil) (by kernel_rfl) ?_
          refine Wk_split rfl (fun hb => ?_) (fun hb => ?_)
          · have hF := ite_t hF hb
            refine Wk_seq ?_
            refine WR [] [8] [] [] [] [] [] ⟨[(8, .bool false)], [], [], [], []⟩ .nil (by kernel_rfl) ?_
            have hF := some_elim hF
            exact Wk_ret (hfin _ ⟨[], [], [], [], [], [], by first | (rw [← hF]; kernel_rfl) | kernel_rfl⟩)
          · have hF := ite_f hF hb
            refine Wk_skip ?_
            refine Wk_seq ?_
            obtain ⟨x15, h15, hF⟩ := ob_elim hF
            refine WR [.call (.tup [.sl 2 (x15.1.map e_Entry), .bool x15.2.1, .agg [.int .i64 x15.2.2.Code, .int .i64 x15.2.2.At]])] [0, 1, 14, 15, 16, 17, 18, 19, 20, 21] [16, 18, 19] [] [] [] [] ⟨[(0, .sl 2 (a0.map e_Entry)), (1, .sl 2 (b.map e_Entry)), (14, .sl 2 (x7.1.map e_Entry)), (15, .bool x7.2.1), (16, .ptr 16 0), (17, .int .i64 x8.1), (18, .ptr 18 0), (19, .ptr 19 0), (20, .sl 2 (x15.1.map e_Entry)), (21, .bool x15.2.1)], [(16, [.int .i64 v.2.1.Code, .int .i64 v.2.1.At]), (18, [.int .i64 v.2.2.1.Code, .int .i64 v.2.2.1.At]), (19, [.int .i64 x15.2.2.Code, .int .i64 x15.2.2.At])], [], [], []⟩ (.cons (R_PutLog_v1_ok a0 at0 term b x15 h15) .nil) (by kernel_rfl) ?_
            refine Wk_seq ?_
            refine Wk_seq ?_
            obtain ⟨x16, h16, hF⟩ := ob_elim hF
            refine WR [.callB (.bool x16)] [0, 1, 17, 18, 19, 122] [18, 19] [] [] [] [] ⟨[(0, .sl 2 (a0.map e_Entry)), (1, .sl 2 (b.map e_Entry)), (17, .int .i64 x8.1), (18, .ptr 18 0), (19, .ptr 19 0), (122, .bool (((!(decide (v.2.1.Code = x15.2.2.Code) && (decide (v.2.1.At = x15.2.2.At) && true))) || (!(x7.2.1 == x15.2.1))) || (!x16)))], [(18, [.int .i64 v.2.2.1.Code, .int .i64 v.2.2.1.At]), (19, [.int .i64 x15.2.2.Code, .int .i64 x15.2.2.At])], [], [], []⟩ (.cons (fun (ga0 : (!((!(decide (v.2.1.Code = x15.2.2.Code) && (decide (v.2.1.At = x15.2.2.At) && true))) || (!(x7.2.1 == x15.2.1)))) = true) => (R_SameLog_ok x7.1 x15.1 x16 (ite_t h16 ga0))) .nil) (by kernel_rfl) ?_
            refine Wk_split rfl (fun hb => ?_) (fun hb => ?_)
            · have hF := ite_t hF hb
              refine Wk_seq ?_
              refine WR [] [8] [] [] [] [] [] ⟨[(8, .bool false)], [], [], [], []⟩ .nil (by kernel_rfl) ?_
              have hF := some_elim hF
              exact Wk_ret (hfin _ ⟨[], [], [], [], [], [], by first | (rw [← hF]; kernel_rfl) | kernel_rfl⟩)
            · have hF := ite_f hF hb
              refine Wk_skip ?_
              refine Wk_seq ?_
              obtain ⟨x17, h17, hF⟩ := ob_elim hF
              refine WR [.callB (.agg [.int .i64 x17.Code, .int .i64 x17.At])] [0, 1, 17, 18, 19] [18, 19] [] [] [] [] ⟨[(0, .sl 2 (a0.map e_Entry)), (1, .sl 2 (b.map e_Entry)), (17, .int .i64 x8.1), (18, .ptr 18 0), (19, .ptr 19 0)], [(18, [.int .i64 v.2.2.1.Code, .int .i64 v.2.2.1.At]), (19, [.int .i64 x17.Code, .int .i64 x17.At])], [], [], []⟩ (.cons (R_LogsFault_ok a0 b x17 h17) .nil) (by kernel_rfl) ?_
              refine Wk_seq ?_
              refine WR [] [0, 1, 17, 18, 19, 22] [18, 19] [] [] [] [] ⟨[(0, .sl 2 (a0.map e_Entry)), (1, .sl 2 (b.map e_Entry)), (17, .int .i64 x8.1), (18, .ptr 18 0), (19, .ptr 19 0), (22, .int .i64 0)], [(18, [.int .i64 v.2.2.1.Code, .int .i64 v.2.2.1.At]), (19, [.int .i64 x17.Code, .int .i64 x17.At])], [], [], []⟩ .nil (by kernel_rfl) ?_
              refine Wk_seq ?_
              refine Wk_seq ?_
              refine WR [] [0, 1, 17, 18, 19, 22, 23] [18, 19] [] [] [] [] ⟨[(0, .sl 2 (a0.map e_Entry)), (1, .sl 2 (b.map e_Entry)), (17, .int .i64 x8.1), (18, .ptr 18 0), (19, .ptr 19 0), (22, .int .i64 0), (23, .int .i64 0)], [(18, [.int .i64 v.2.2.1.Code, .int .i64 v.2.2.1.At]), (19, [.int .i64 x17.Code, .int .i64 x17.At])], [], [], []⟩ .nil (by kernel_rfl) ?_
              refine Wk_meetP (fun v1 : Fault × Fault × Int => (⟨[(17, .int .i64 x8.1), (18, .ptr 18 0), (19, .ptr 19 0), (22, .int .i64 v1.2.2)], [(18, [.int .i64 v1.1.Code, .int .i64 v1.1.At]), (19, [.int .i64 v1.2.1.Code, .int .i64 v1.2.1.At])], [], [], []⟩ : S)) (fun v1 => law_EntryDoes_J1 x8 v1 = some r) ?_ ?_
              · refine Wk_block ?_
                unfold law_EntryDoes_L1 at hF
                refine Wk_trim (fs := [0, 1, 17, 18, 19, 22, 23]) (bs := [18, 19]) (rs := []) (ms := []) (aa := []) (nv := []) (t := (fun v3 : Fault × Fault × Int × Int => (⟨[(0, .sl 2 (a0.map e_Entry)), (1, .sl 2 (b.map e_Entry)), (17, .int .i64 x8.1), (18, .ptr 18 0), (19, .ptr 19 0), (22, .int .i64 v3.2.2.1), (23, .int .i64 v3.2.2.2)], [(18, [.int .i64 v3.1.Code, .int .i64 v3.1.At]), (19, [.int .i64 v3.2.1.Code, .int .i64 v3.2.1.At])], [], [], []⟩ : S)) (v.2.2.1, x17, 0, 0)) (by kernel_rfl) ?_
                refine Wk_iter (step := fun y => law_EntryDoes_B1 a0 b x8 y) (r := r) (fun v3 : Fault × Fault × Int × Int => (⟨[(0, .sl 2 (a0.map e_Entry)), (1, .sl 2 (b.map e_Entry)), (17, .int .i64 x8.1), (18, .ptr 18 0), (19, .ptr 19 0), (22, .int .i64 v3.2.2.1), (23, .int .i64 v3.2.2.2)], [(18, [.int .i64 v3.1.Code, .int .i64 v3.1.At]), (19, [.int .i64 v3.2.1.Code, .int .i64 v3.2.1.At])], [], [], []⟩ : S)) (v.2.2.1, x17, 0, 0) hF ?_
                intro n1 v3 y1 hF ih1 dn1
                have hF : law_EntryDoes_B1 a0 b x8 v3 = some y1 := hF
                unfold law_EntryDoes_B1 at hF
                refine Wk_seq ?_
                refine Wk_seq ?_
                refine WR [.nat (a0.length : Int), .nat (b.length : Int)] [0, 1, 17, 18, 19, 22, 23, 140] [18, 19] [] [] [] [] ⟨[(0, .sl 2 (a0.map e_Entry)), (1, .sl 2 (b.map e_Entry)), (17, .int .i64 x8.1), (18, .ptr 18 0), (19, .ptr 19 0), (22, .int .i64 v3.2.2.1), (23, .int .i64 v3.2.2.2), (140, .bool (((decide (v3.2.2.2 < (a0.length : Int))) && (decide (v3.2.2.2 < (b.length : Int)))) && (decide (v3.2.1.Code = 0))))], [(18, [.int .i64 v3.1.Code, .int .i64 v3.1.At]), (19, [.int .i64 v3.2.1.Code, .int .i64 v3.2.1.At])], [], [], []⟩ (.cons (len_ok e_Entry a0) (.cons (fun (_ : (decide (v3.2.2.2 < (a0.length : Int))) = true) => (len_ok e_Entry b)) .nil)) (by kernel_rfl) ?_
                refine Wk_split rfl (fun hb => ?_) (fun hb => ?_)
                · have hF := ite_t hF hb
                  refine Wk_skip ?_
                  refine Wk_seq ?_
                  refine Wk_block ?_
                  refine Wk_seq ?_
                  obtain ⟨h18, hF⟩ := asrt_elim hF
                  obtain ⟨h19, hF⟩ := asrt_elim hF
                  refine WD [.av (e_Entry (lget a0 v3.2.2.2)), .av (e_Entry (lget b v3.2.2.2))] [0, 1, 17, 18, 19, 22, 23, 153] [18, 19] [] [] [] [] ⟨[(0, .sl 2 (a0.map e_Entry)), (1, .sl 2 (b.map e_Entry)), (17, .int .i64 x8.1), (18, .ptr 18 0), (19, .ptr 19 0), (22, .int .i64 v3.2.2.1), (23, .int .i64 v3.2.2.2), (153, .bool (decide (((lget a0 v3.2.2.2).Term) = ((lget b v3.2.2.2).Term))))], [(18, [.int .i64 v3.1.Code, .int .i64 v3.1.At]), (19, [.int .i64 v3.2.1.Code, .int .i64 v3.2.1.At])], [], [], []⟩ (.cons (idx_ok e_Entry h18) (.cons (idx_ok e_Entry h19) .nil)) (by kernel_rfl) ?_
                  obtain ⟨v4, hv, hF⟩ := ob_elim hF
                  refine Wk_meet (⟨[(0, .sl 2 (a0.map e_Entry)), (1, .sl 2 (b.map e_Entry)), (17, .int .i64 x8.1), (18, .ptr 18 0), (19, .ptr 19 0), (22, .int .i64 v4.2.2), (23, .int .i64 v3.2.2.2)], [(18, [.int .i64 v4.1.Code, .int .i64 v4.1.At]), (19, [.int .i64 v4.2.1.Code, .int .i64 v4.2.1.At])], [], [], []⟩ : S) ?_ ?_
                  · have hF := hv
                    refine Wk_split rfl (fun hb => ?_) (fun hb => ?_)
                    · have hF := ite_t hF hb
                      refine WR [] [0, 1, 17, 18, 19, 22, 23] [18, 19] [] [] [] [] ⟨[(0, .sl 2 (a0.map e_Entry)), (1, .sl 2 (b.map e_Entry)), (17, .int .i64 x8.1), (18, .ptr 18 0), (19, .ptr 19 0), (22, .int .i64 (w64 (v3.2.2.2 + 1))), (23, .int .i64 v3.2.2.2)], [(18, [.int .i64 v3.1.Code, .int .i64 v3.1.At]), (19, [.int .i64 v3.2.1.Code, .int .i64 v3.2.1.At])], [], [], []⟩ .nil (by kernel_rfl) ?_
                      exact Wk_met (fs := [0, 1, 17, 18, 19, 22, 23]) (bs := [18, 19]) (rs := []) (ms := []) (aa := []) (nv := []) (by first | (rw [← some_elim hF]; kernel_rfl) | kernel_rfl)
                    · have hF := ite_f hF hb
                      refine Wk_skip ?_
                      exact Wk_met (fs := [0, 1, 17, 18, 19, 22, 23]) (bs := [18, 19]) (rs := []) (ms := []) (aa := []) (nv := []) (by first | (rw [← some_elim hF]; kernel_rfl) | kernel_rfl)
                  · refine Wk_blk ?_
                    refine WR [] [0, 1, 17, 18, 19, 22, 23] [18, 19] [] [] [] [] ⟨[(0, .sl 2 (a0.map e_Entry)), (1, .sl 2 (b.map e_Entry)), (17, .int .i64 x8.1), (18, .ptr 18 0), (19, .ptr 19 0), (22, .int .i64 v4.2.2), (23, .int .i64 (w64 (v3.2.2.2 + 1)))], [(18, [.int .i64 v4.1.Code, .int .i64 v4.1.At]), (19, [.int .i64 v4.2.1.Code, .int .i64 v4.2.1.At])], [], [], []⟩ .nil (by kernel_rfl) ?_
                    refine Wk_trim (fs := [0, 1, 17, 18, 19, 22, 23]) (bs := [18, 19]) (rs := []) (ms := []) (aa := []) (nv := []) ?_ (ih1 _ (some_elim hF).symm)
                    kernel_rfl
                · have hF := ite_f hF hb
                  refine Wk_exit rfl ?_
                  have hF := inrO_done hF dn1
                  exact Wk_metP (v3.1, v3.2.1, v3.2.2.1) [17, 18, 19, 22] [18, 19] [] [] [] [] hF (by kernel_rfl)
              · intro v1 hF
                have hF : law_EntryDoes_J1 x8 v1 = some r := hF
                unfold law_EntryDoes_J1 at hF
                refine Wk_seq ?_
                refine WRL ((decide (v1.1.Code = v1.2.1.Code) && (decide (v1.1.At = v1.2.1.At) && true)) && (decide (x8.1 = v1.2.2))) (fun v2 : Bool => ⟨[(8, .bool v2)], [], [], [], []⟩) [] [8] [] [] [] [] [] .nil (by kernel_rfl) (fun v2 hv => ?_)
                have hF := lt_elim hF hv
                have hF := some_elim hF
                exact Wk_ret (hfin _ ⟨[], [], [], [], [], [], by first | (rw [← hF]; kernel_rfl) | kernel_rfl⟩)

end G
end Go.Proofs.Ytcnngkigpfpalaa
