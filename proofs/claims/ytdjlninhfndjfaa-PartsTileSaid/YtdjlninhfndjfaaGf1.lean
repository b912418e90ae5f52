/- The program's functions as plain functions, and that they are these. Written by a program (dec2.py). -/
import Derived.Test.YtdjlninhfndjfaaGf0
namespace Go.Proofs.Ytdjlninhfndjfaa
open Go Go.Dm
set_option linter.unusedVariables false
set_option linter.unusedSimpArgs false
set_option maxRecDepth 100000
namespace G
/- tabularyref.Instead -/
noncomputable def R_Instead_v1_J2 (v1 : List Part) : Option (List Part) :=
  some v1
noncomputable def R_Instead_v1_B1 (l : List Part) (v2 : List Part × Int) : Option ((List Part × Int) ⊕ (List Part)) :=
  if (decide (v2.2 < (l.length : Int))) = true then
    asrt (0 ≤ v2.2 ∧ v2.2 < (l.length : Int)) <|
    asrt (((v2.1 ++ [(⟨(lget l v2.2).From, (lget l v2.2).To, (lget l v2.2).ID⟩ : Part)]).length : Int) * 40 ≤ 140737488351232) <|
    lt ((v2.1 ++ [(⟨(lget l v2.2).From, (lget l v2.2).To, (lget l v2.2).ID⟩ : Part)])) fun (v3 : List Part) =>
    some (Sum.inl (v3, w64 (v2.2 + 1)))
  else
    inrO (R_Instead_v1_J2 v2.1)
noncomputable def R_Instead_v1_L1 (l : List Part) (v0 : List Part × Int) : Option (List Part) :=
  loopO (fun y => R_Instead_v1_B1 l y) v0
noncomputable def R_Instead_v1_J1 (l : List Part) (at0 : Int) (num : Int) (by0 : List Part) (v : List Part) : Option (List Part) :=
  asrt (((v ++ by0).length : Int) * 40 ≤ 140737488351232) <|
  R_Instead_v1_L1 l ((v ++ by0), w64 (at0 + num))
noncomputable def R_Instead_v1_B2 (l : List Part) (at0 : Int) (num : Int) (by0 : List Part) (v4 : List Part × Int) : Option ((List Part × Int) ⊕ (List Part)) :=
  if (decide (v4.2 < at0)) = true then
    asrt (0 ≤ v4.2 ∧ v4.2 < (l.length : Int)) <|
    asrt (((v4.1 ++ [(⟨(lget l v4.2).From, (lget l v4.2).To, (lget l v4.2).ID⟩ : Part)]).length : Int) * 40 ≤ 140737488351232) <|
    lt ((v4.1 ++ [(⟨(lget l v4.2).From, (lget l v4.2).To, (lget l v4.2).ID⟩ : Part)])) fun (v5 : List Part) =>
    some (Sum.inl (v5, w64 (v4.2 + 1)))
  else
    inrO (R_Instead_v1_J1 l at0 num by0 v4.1)
noncomputable def R_Instead_v1_L2 (l : List Part) (at0 : Int) (num : Int) (by0 : List Part) (v0 : List Part × Int) : Option (List Part) :=
  loopO (fun y => R_Instead_v1_B2 l at0 num by0 y) v0
noncomputable def R_Instead_v1 (l : List Part) (at0 : Int) (num : Int) (by0 : List Part) : Option (List Part) :=
  R_Instead_v1_L2 l at0 num by0 (([] : List Part), 0)
theorem R_Instead_v1_ok (l : List Part) (at0 : Int) (num : Int) (by0 : List Part) (r : List Part) (hF : R_Instead_v1 l at0 num by0 = some r) : Pe Try.prog 28 S.none [.sl 3 (l.map e_Part), .int .i64 at0, .int .i64 num, .sl 3 (by0.map e_Part)] (.sl 3 (r.map e_Part)) S.none := by
  refine Pe_of (N := 44) (res := [.tmp 8]) (ts := [22]) Ty.ok Fn.b28 Try.func28 rfl rfl rfl rfl rfl rfl ?_
  intro Q g hfin
  unfold R_Instead_v1 at hF
  refine Wk_seq ?_
  refine WR [] [0, 1, 2, 3] [] [] [] [] [] ⟨[(0, .sl 3 (l.map e_Part)), (1, .int .i64 at0), (2, .int .i64 num), (3, .sl 3 (by0.map e_Part))], [], [], [], []⟩ .nil (by kernel_rfl) ?_
  refine Wk_seq ?_
  refine WR [] [0, 1, 2, 3, 9] [] [] [] [] [] ⟨[(0, .sl 3 (l.map e_Part)), (1, .int .i64 at0), (2, .int .i64 num), (3, .sl 3 (by0.map e_Part)), (9, .nils)], [], [], [], []⟩ .nil (by kernel_rfl) ?_
  refine Wk_seq ?_
  refine Wk_seq ?_
  refine WR [] [0, 1, 2, 3, 9, 10] [] [] [] [] [] ⟨[(0, .sl 3 (l.map e_Part)), (1, .int .i64 at0), (2, .int .i64 num), (3, .sl 3 (by0.map e_Part)), (9, .nils), (10, .int .i64 0)], [], [], [], []⟩ .nil (by kernel_rfl) ?_
  refine Wk_meetP (fun v : List Part => (⟨[(0, .sl 3 (l.map e_Part)), (1, .int .i64 at0), (2, .int .i64 num), (3, .sl 3 (by0.map e_Part)), (9, .row 23 0)], [], [(23, ⟨34, 3, 0, 0, 0, true, 0, [], (v.map e_Part)⟩)], [], []⟩ : S)) (fun v => R_Instead_v1_J1 l at0 num by0 v = some r) ?_ ?_
  · refine Wk_block ?_
    unfold R_Instead_v1_L2 at hF
    refine Wk_nilrow 9 60000 34 3 rfl rfl rfl ?_
    refine Wk_trim (fs := [0, 1, 2, 3, 9, 10]) (bs := []) (rs := [60000]) (ms := []) (aa := []) (nv := []) rfl ?_
    refine Wk_ren' ⟨[], [(60000, 23)], [], []⟩ rfl ?_
    refine Wk_trim (fs := [0, 1, 2, 3, 9, 10]) (bs := []) (rs := [23]) (ms := []) (aa := []) (nv := []) (t := (fun v4 : List Part × Int => (⟨[(0, .sl 3 (l.map e_Part)), (1, .int .i64 at0), (2, .int .i64 num), (3, .sl 3 (by0.map e_Part)), (9, .row 23 0), (10, .int .i64 v4.2)], [], [(23, ⟨34, 3, 0, 0, 0, true, 0, [], (v4.1.map e_Part)⟩)], [], []⟩ : S)) (([] : List Part), 0)) (by kernel_rfl) ?_
    refine Wk_iter (step := fun y => R_Instead_v1_B2 l at0 num by0 y) (r := r) (fun v4 : List Part × Int => (⟨[(0, .sl 3 (l.map e_Part)), (1, .int .i64 at0), (2, .int .i64 num), (3, .sl 3 (by0.map e_Part)), (9, .row 23 0), (10, .int .i64 v4.2)], [], [(23, ⟨34, 3, 0, 0, 0, true, 0, [], (v4.1.map e_Part)⟩)], [], []⟩ : S)) (([] : List Part), 0) hF ?_
    intro n1 v4 y1 hF ih1 dn1
    have hF : R_Instead_v1_B2 l at0 num by0 v4 = some y1 := hF
    unfold R_Instead_v1_B2 at hF
    refine Wk_seq ?_
    refine Wk_seq ?_
    refine WR [] [0, 1, 2, 3, 9, 10, 14] [] [23] [] [] [] ⟨[(0, .sl 3 (l.map e_Part)), (1, .int .i64 at0), (2, .int .i64 num), (3, .sl 3 (by0.map e_Part)), (9, .row 23 0), (10, .int .i64 v4.2), (14, .bool (decide (v4.2 < at0)))], [], [(23, ⟨34, 3, 0, 0, 0, true, 0, [], (v4.1.map e_Part)⟩)], [], []⟩ .nil (by kernel_rfl) ?_
    refine Wk_split rfl (fun hb => ?_) (fun hb => ?_)
    · have hF := ite_t hF hb
      refine Wk_skip ?_
      refine Wk_seq ?_
      refine Wk_block ?_
      obtain ⟨h3, hF⟩ := asrt_elim hF
      obtain ⟨h4, hF⟩ := asrt_elim hF
      refine WRL ((v4.1 ++ [(⟨(lget l v4.2).From, (lget l v4.2).To, (lget l v4.2).ID⟩ : Part)])) (fun v5 : List Part => ⟨[(0, .sl 3 (l.map e_Part)), (1, .int .i64 at0), (2, .int .i64 num), (3, .sl 3 (by0.map e_Part)), (9, .row 23 1), (10, .int .i64 v4.2)], [], [(23, ⟨34, 3, 1, 0, 0, true, 0, [], (v5.map e_Part)⟩)], [], []⟩) [.av (e_Part (lget l v4.2)), .sealed, .xs ((v4.1 ++ [(⟨(lget l v4.2).From, (lget l v4.2).To, (lget l v4.2).ID⟩ : Part)]).map e_Part)] [0, 1, 2, 3, 9, 10] [] [23] [] [] [] (.cons (idx_ok e_Part h3) (.cons (app_ok e_Part v4.1 [(⟨(lget l v4.2).From, (lget l v4.2).To, (lget l v4.2).ID⟩ : Part)]) (.cons (appl_ok e_Part h4) .nil))) (by kernel_rfl) (fun v5 hv => ?_)
      have hF := lt_elim hF hv
      refine Wk_blk ?_
      refine WR [] [0, 1, 2, 3, 9, 10] [] [23] [] [] [] ⟨[(0, .sl 3 (l.map e_Part)), (1, .int .i64 at0), (2, .int .i64 num), (3, .sl 3 (by0.map e_Part)), (9, .row 23 1), (10, .int .i64 (w64 (v4.2 + 1)))], [], [(23, ⟨34, 3, 1, 0, 0, true, 0, [], (v5.map e_Part)⟩)], [], []⟩ .nil (by kernel_rfl) ?_
      refine Wk_trim (fs := [0, 1, 2, 3, 9, 10]) (bs := []) (rs := [23]) (ms := []) (aa := []) (nv := [(23, ⟨0, true, true, false⟩)]) ?_ (ih1 _ (some_elim hF).symm)
      kernel_rfl
    · have hF := ite_f hF hb
      refine Wk_exit rfl ?_
      have hF := inrO_done hF dn1
      exact Wk_metP v4.1 [0, 1, 2, 3, 9] [] [23] [] [] [] hF (by kernel_rfl)
  · intro v hF
    have hF : R_Instead_v1_J1 l at0 num by0 v = some r := hF
    unfold R_Instead_v1_J1 at hF
    refine Wk_seq ?_
    obtain ⟨h0, hF⟩ := asrt_elim hF
    refine WR [.xs ((v ++ by0).map e_Part)] [0, 1, 2, 9] [] [23] [] [] [] ⟨[(0, .sl 3 (l.map e_Part)), (1, .int .i64 at0), (2, .int .i64 num), (9, .row 23 1)], [], [(23, ⟨34, 3, 1, 0, 0, true, 0, [], ((v ++ by0).map e_Part)⟩)], [], []⟩ (.cons (app_ok e_Part v by0) (.cons (appl_ok e_Part h0) .nil)) (by kernel_rfl) ?_
    refine Wk_seq ?_
    refine Wk_seq ?_
    refine WR [] [0, 9, 11] [] [23] [] [] [] ⟨[(0, .sl 3 (l.map e_Part)), (9, .row 23 1), (11, .int .i64 (w64 (at0 + num)))], [], [(23, ⟨34, 3, 1, 0, 0, true, 0, [], ((v ++ by0).map e_Part)⟩)], [], []⟩ .nil (by kernel_rfl) ?_
    refine Wk_meetP (fun v1 : List Part => (⟨[(9, .row 23 0)], [], [(23, ⟨34, 3, 0, 0, 0, true, 0, [], (v1.map e_Part)⟩)], [], []⟩ : S)) (fun v1 => R_Instead_v1_J2 v1 = some r) ?_ ?_
    · refine Wk_block ?_
      unfold R_Instead_v1_L1 at hF
      refine Wk_trim (fs := [0, 9, 11]) (bs := []) (rs := [23]) (ms := []) (aa := []) (nv := [(23, ⟨0, true, true, false⟩)]) (t := (fun v2 : List Part × Int => (⟨[(0, .sl 3 (l.map e_Part)), (9, .row 23 0), (11, .int .i64 v2.2)], [], [(23, ⟨34, 3, 0, 0, 0, true, 0, [], (v2.1.map e_Part)⟩)], [], []⟩ : S)) ((v ++ by0), w64 (at0 + num))) (by kernel_rfl) ?_
      refine Wk_iter (step := fun y => R_Instead_v1_B1 l y) (r := r) (fun v2 : List Part × Int => (⟨[(0, .sl 3 (l.map e_Part)), (9, .row 23 0), (11, .int .i64 v2.2)], [], [(23, ⟨34, 3, 0, 0, 0, true, 0, [], (v2.1.map e_Part)⟩)], [], []⟩ : S)) ((v ++ by0), w64 (at0 + num)) hF ?_
      intro n1 v2 y1 hF ih1 dn1
      have hF : R_Instead_v1_B1 l v2 = some y1 := hF
      unfold R_Instead_v1_B1 at hF
      refine Wk_seq ?_
      refine Wk_seq ?_
      refine WR [.nat (l.length : Int)] [0, 9, 11, 33] [] [23] [] [] [] ⟨[(0, .sl 3 (l.map e_Part)), (9, .row 23 0), (11, .int .i64 v2.2), (33, .bool (decide (v2.2 < (l.length : Int))))], [], [(23, ⟨34, 3, 0, 0, 0, true, 0, [], (v2.1.map e_Part)⟩)], [], []⟩ (.cons (len_ok e_Part l) .nil) (by kernel_rfl) ?_
      refine Wk_split rfl (fun hb => ?_) (fun hb => ?_)
      · have hF := ite_t hF hb
        refine Wk_skip ?_
        refine Wk_seq ?_
        refine Wk_block ?_
        obtain ⟨h1, hF⟩ := asrt_elim hF
        obtain ⟨h2, hF⟩ := asrt_elim hF
        refine WRL ((v2.1 ++ [(⟨(lget l v2.2).From, (lget l v2.2).To, (lget l v2.2).ID⟩ : Part)])) (fun v3 : List Part => ⟨[(0, .sl 3 (l.map e_Part)), (9, .row 23 1), (11, .int .i64 v2.2)], [], [(23, ⟨34, 3, 1, 0, 0, true, 0, [], (v3.map e_Part)⟩)], [], []⟩) [.av (e_Part (lget l v2.2)), .sealed, .xs ((v2.1 ++ [(⟨(lget l v2.2).From, (lget l v2.2).To, (lget l v2.2).ID⟩ : Part)]).map e_Part)] [0, 9, 11] [] [23] [] [] [] (.cons (idx_ok e_Part h1) (.cons (app_ok e_Part v2.1 [(⟨(lget l v2.2).From, (lget l v2.2).To, (lget l v2.2).ID⟩ : Part)]) (.cons (appl_ok e_Part h2) .nil))) (by kernel_rfl) (fun v3 hv => ?_)
        have hF := lt_elim hF hv
        refine Wk_blk ?_
        refine WR [] [0, 9, 11] [] [23] [] [] [] ⟨[(0, .sl 3 (l.map e_Part)), (9, .row 23 1), (11, .int .i64 (w64 (v2.2 + 1)))], [], [(23, ⟨34, 3, 1, 0, 0, true, 0, [], (v3.map e_Part)⟩)], [], []⟩ .nil (by kernel_rfl) ?_
        refine Wk_trim (fs := [0, 9, 11]) (bs := []) (rs := [23]) (ms := []) (aa := []) (nv := [(23, ⟨0, true, true, false⟩)]) ?_ (ih1 _ (some_elim hF).symm)
        kernel_rfl
      · have hF := ite_f hF hb
        refine Wk_exit rfl ?_
        have hF := inrO_done hF dn1
        exact Wk_metP v2.1 [9] [] [23] [] [] [] hF (by kernel_rfl)
    · intro v1 hF
      have hF : R_Instead_v1_J2 v1 = some r := hF
      unfold R_Instead_v1_J2 at hF
      refine Wk_seq ?_
      refine WR [] [8] [] [23] [] [] [] ⟨[(8, .row 23 0)], [], [(23, ⟨34, 3, 0, 0, 0, true, 0, [], (v1.map e_Part)⟩)], [], []⟩ .nil (by kernel_rfl) ?_
      have hF := some_elim hF
      exact Wk_ret (hfin _ ⟨[], [], [], [], [], [], by first | (rw [← hF]; kernel_rfl) | kernel_rfl⟩)

/- tabularylaw.PartsDoes$1 -/
noncomputable def law_PartsDoes_1 (box : List Part) (box1 : Int) (box2 : List UInt8) (box3 : Int) (box4 : Int) : Option (List Part) :=
  asrt (0 ≤ box1 ∧ box1 < (box.length : Int)) <|
  asrt (0 ≤ box1 ∧ box1 < (box.length : Int)) <|
  ob (R_Instead_v1 box box1 1 [(⟨(lget box box1).From, box2, box3⟩ : Part), (⟨box2, (lget box box1).To, box4⟩ : Part)]) fun x =>
  some x
theorem law_PartsDoes_1_ok (box : List Part) (box1 : Int) (box2 : List UInt8) (box3 : Int) (box4 : Int) (r : List Part) (hF : law_PartsDoes_1 box box1 box2 box3 box4 = some r) : Pe Try.prog 27 ⟨[], [(100000, [.sl 3 (box.map e_Part)]), (100001, [.int .i64 box1]), (100002, [.str box2]), (100003, [.int .i64 box3]), (100004, [.int .i64 box4])], [], [], []⟩ [.ptr 100000 0, .ptr 100001 0, .ptr 100002 0, .ptr 100003 0, .ptr 100004 0] (.sl 3 (r.map e_Part)) ⟨[], [(100000, [.sl 3 (box.map e_Part)]), (100001, [.int .i64 box1]), (100002, [.str box2]), (100003, [.int .i64 box3]), (100004, [.int .i64 box4])], [], [], []⟩ := by
  refine Pe_of (N := 26) (res := [.tmp 5]) (ts := [22]) Ty.ok Fn.b27 Try.func27 rfl rfl rfl rfl rfl rfl ?_
  intro Q g hfin
  unfold law_PartsDoes_1 at hF
  refine Wk_seq ?_
  refine WR [] [0, 1, 2, 3, 4] [100000, 100001, 100002, 100003, 100004] [] [] [] [] ⟨[(0, .ptr 100000 0), (1, .ptr 100001 0), (2, .ptr 100002 0), (3, .ptr 100003 0), (4, .ptr 100004 0)], [(100000, [.sl 3 (box.map e_Part)]), (100001, [.int .i64 box1]), (100002, [.str box2]), (100003, [.int .i64 box3]), (100004, [.int .i64 box4])], [], [], []⟩ .nil (by kernel_rfl) ?_
  refine Wk_seq ?_
  obtain ⟨h0, hF⟩ := asrt_elim hF
  obtain ⟨h1, hF⟩ := asrt_elim hF
  obtain ⟨x, h2, hF⟩ := ob_elim hF
  refine WD [.av (e_Part (lget box box1)), .av (e_Part (lget box box1)), .sealed, .call (.sl 3 (x.map e_Part))] [5] [100000, 100001, 100002, 100003, 100004] [] [] [] [] ⟨[(5, .sl 3 (x.map e_Part))], [(100000, [.sl 3 (box.map e_Part)]), (100001, [.int .i64 box1]), (100002, [.str box2]), (100003, [.int .i64 box3]), (100004, [.int .i64 box4])], [], [], []⟩ (.cons (idx_ok e_Part h0) (.cons (idx_ok e_Part h1) (.cons (R_Instead_v1_ok box box1 1 [(⟨(lget box box1).From, box2, box3⟩ : Part), (⟨box2, (lget box box1).To, box4⟩ : Part)] x h2) .nil))) (by kernel_rfl) ?_
  have hF := some_elim hF
  exact Wk_ret (hfin _ ⟨[], [100000, 100001, 100002, 100003, 100004], [], [], [], [], by first | (rw [← hF]; kernel_rfl) | kernel_rfl⟩)

/- tabularylaw.partsAs -/
noncomputable def law_partsAs (l : List Part) (f : Fault) (w0 : Fault) (box : List Part) (box1 : Int) (box2 : List UInt8) (box3 : Int) (box4 : Int) : Option Bool :=
  if (!(decide (f.Code = w0.Code) && (decide (f.At = w0.At) && true))) = true then
    some false
  else
    if (!decide (w0.Code = 0)) = true then
      some (decide ((l.length : Int) = 0))
    else
      ob (law_PartsDoes_1 box box1 box2 box3 box4) fun x =>
      ob (R_SameParts l x) fun x1 =>
      some x1
theorem law_partsAs_ok (l : List Part) (f : Fault) (w0 : Fault) (box : List Part) (box1 : Int) (box2 : List UInt8) (box3 : Int) (box4 : Int) (r : Bool) (hF : law_partsAs l f w0 box box1 box2 box3 box4 = some r) : Pe Try.prog 26 ⟨[], [(100000, [.sl 3 (box.map e_Part)]), (100001, [.int .i64 box1]), (100002, [.str box2]), (100003, [.int .i64 box3]), (100004, [.int .i64 box4])], [], [], []⟩ [.sl 3 (l.map e_Part), .agg [.int .i64 f.Code, .int .i64 f.At], .agg [.int .i64 w0.Code, .int .i64 w0.At], .fn 27 [.ptr 100000 0, .ptr 100001 0, .ptr 100002 0, .ptr 100003 0, .ptr 100004 0]] (.bool r) ⟨[], [(100000, [.sl 3 (box.map e_Part)]), (100001, [.int .i64 box1]), (100002, [.str box2]), (100003, [.int .i64 box3]), (100004, [.int .i64 box4])], [], [], []⟩ := by
  refine Pe_of (N := 22) (res := [.tmp 8]) (ts := [4]) Ty.ok Fn.b26 Try.func26 rfl rfl rfl rfl rfl rfl ?_
  intro Q g hfin
  unfold law_partsAs at hF
  refine Wk_seq ?_
  refine WR [] [0, 3, 5, 6] [5, 6, 100000, 100001, 100002, 100003, 100004] [] [] [] [] ⟨[(0, .sl 3 (l.map e_Part)), (3, .fn 27 [.ptr 100000 0, .ptr 100001 0, .ptr 100002 0, .ptr 100003 0, .ptr 100004 0]), (5, .ptr 5 0), (6, .ptr 6 0)], [(5, [.int .i64 f.Code, .int .i64 f.At]), (6, [.int .i64 w0.Code, .int .i64 w0.At]), (100000, [.sl 3 (box.map e_Part)]), (100001, [.int .i64 box1]), (100002, [.str box2]), (100003, [.int .i64 box3]), (100004, [.int .i64 box4])], [], [], []⟩ .nil (by kernel_rfl) ?_
  refine Wk_seq ?_
  refine Wk_seq ?_
  refine WR [] [0, 3, 6, 11] [6, 100000, 100001, 100002, 100003, 100004] [] [] [] [] ⟨[(0, .sl 3 (l.map e_Part)), (3, .fn 27 [.ptr 100000 0, .ptr 100001 0, .ptr 100002 0, .ptr 100003 0, .ptr 100004 0]), (6, .ptr 6 0), (11, .bool (!(decide (f.Code = w0.Code) && (decide (f.At = w0.At) && true))))], [(6, [.int .i64 w0.Code, .int .i64 w0.At]), (100000, [.sl 3 (box.map e_Part)]), (100001, [.int .i64 box1]), (100002, [.str box2]), (100003, [.int .i64 box3]), (100004, [.int .i64 box4])], [], [], []⟩ .nil (by kernel_rfl) ?_
  refine Wk_split rfl (fun hb => ?_) (fun hb => ?_)
  · have hF := ite_t hF hb
    refine Wk_seq ?_
    refine WR [] [8] [100000, 100001, 100002, 100003, 100004] [] [] [] [] ⟨[(8, .bool false)], [(100000, [.sl 3 (box.map e_Part)]), (100001, [.int .i64 box1]), (100002, [.str box2]), (100003, [.int .i64 box3]), (100004, [.int .i64 box4])], [], [], []⟩ .nil (by kernel_rfl) ?_
    have hF := some_elim hF
    exact Wk_ret (hfin _ ⟨[], [100000, 100001, 100002, 100003, 100004], [], [], [], [], by first | (rw [← hF]; kernel_rfl) | kernel_rfl⟩)
  · have hF := ite_f hF hb
    refine Wk_skip ?_
    refine Wk_seq ?_
    refine Wk_seq ?_
    refine WR [] [0, 3, 14] [100000, 100001, 100002, 100003, 100004] [] [] [] [] ⟨[(0, .sl 3 (l.map e_Part)), (3, .fn 27 [.ptr 100000 0, .ptr 100001 0, .ptr 100002 0, .ptr 100003 0, .ptr 100004 0]), (14, .bool (!decide (w0.Code = 0)))], [(100000, [.sl 3 (box.map e_Part)]), (100001, [.int .i64 box1]), (100002, [.str box2]), (100003, [.int .i64 box3]), (100004, [.int .i64 box4])], [], [], []⟩ .nil (by kernel_rfl) ?_
    refine Wk_split rfl (fun hb => ?_) (fun hb => ?_)
    · have hF := ite_t hF hb
      refine Wk_seq ?_
      refine WR [.nat (l.length : Int)] [8] [100000, 100001, 100002, 100003, 100004] [] [] [] [] ⟨[(8, .bool (decide ((l.length : Int) = 0)))], [(100000, [.sl 3 (box.map e_Part)]), (100001, [.int .i64 box1]), (100002, [.str box2]), (100003, [.int .i64 box3]), (100004, [.int .i64 box4])], [], [], []⟩ (.cons (len_ok e_Part l) .nil) (by kernel_rfl) ?_
      have hF := some_elim hF
      exact Wk_ret (hfin _ ⟨[], [100000, 100001, 100002, 100003, 100004], [], [], [], [], by first | (rw [← hF]; kernel_rfl) | kernel_rfl⟩)
    · have hF := ite_f hF hb
      refine Wk_skip ?_
      refine Wk_seq ?_
      obtain ⟨x, h0, hF⟩ := ob_elim hF
      obtain ⟨x1, h1, hF⟩ := ob_elim hF
      refine WR [.callR [100000, 100001, 100002, 100003, 100004] [] [] [] (.sl 3 (x.map e_Part)), .callB (.bool x1)] [8] [100000, 100001, 100002, 100003, 100004] [] [] [] [] ⟨[(8, .bool x1)], [(100000, [.sl 3 (box.map e_Part)]), (100001, [.int .i64 box1]), (100002, [.str box2]), (100003, [.int .i64 box3]), (100004, [.int .i64 box4])], [], [], []⟩ (.cons (Pe.ren (law_PartsDoes_1_ok box box1 box2 box3 box4 x h0) ⟨[], [], [], []⟩) (.cons (R_SameParts_ok l x x1 h1) .nil)) (by kernel_rfl) ?_
      have hF := some_elim hF
      exact Wk_ret (hfin _ ⟨[], [100000, 100001, 100002, 100003, 100004], [], [], [], [], by first | (rw [← hF]; kernel_rfl) | kernel_rfl⟩)

/- tabularylaw.PartsDoes$2 -/
noncomputable def law_PartsDoes_2 (box : List Part) (box1 : Int) (box2 : Int) : Option (List Part) :=
  asrt (0 ≤ box1 ∧ box1 < (box.length : Int)) <|
  asrt (0 ≤ w64 (box1 + 1) ∧ w64 (box1 + 1) < (box.length : Int)) <|
  ob (R_Instead_v1 box box1 2 [(⟨(lget box box1).From, (lget box (w64 (box1 + 1))).To, box2⟩ : Part)]) fun x =>
  some x
theorem law_PartsDoes_2_ok (box : List Part) (box1 : Int) (box2 : Int) (r : List Part) (hF : law_PartsDoes_2 box box1 box2 = some r) : Pe Try.prog 29 ⟨[], [(100000, [.sl 3 (box.map e_Part)]), (100001, [.int .i64 box1]), (100002, [.int .i64 box2])], [], [], []⟩ [.ptr 100000 0, .ptr 100001 0, .ptr 100002 0] (.sl 3 (r.map e_Part)) ⟨[], [(100000, [.sl 3 (box.map e_Part)]), (100001, [.int .i64 box1]), (100002, [.int .i64 box2])], [], [], []⟩ := by
  refine Pe_of (N := 21) (res := [.tmp 3]) (ts := [22]) Ty.ok Fn.b29 Try.func29 rfl rfl rfl rfl rfl rfl ?_
  intro Q g hfin
  unfold law_PartsDoes_2 at hF
  refine Wk_seq ?_
  refine WR [] [0, 1, 2] [100000, 100001, 100002] [] [] [] [] ⟨[(0, .ptr 100000 0), (1, .ptr 100001 0), (2, .ptr 100002 0)], [(100000, [.sl 3 (box.map e_Part)]), (100001, [.int .i64 box1]), (100002, [.int .i64 box2])], [], [], []⟩ .nil (by kernel_rfl) ?_
  refine Wk_seq ?_
  obtain ⟨h0, hF⟩ := asrt_elim hF
  obtain ⟨h1, hF⟩ := asrt_elim hF
  obtain ⟨x, h2, hF⟩ := ob_elim hF
  refine WD [.av (e_Part (lget box box1)), .av (e_Part (lget box (w64 (box1 + 1)))), .sealed, .call (.sl 3 (x.map e_Part))] [3] [100000, 100001, 100002] [] [] [] [] ⟨[(3, .sl 3 (x.map e_Part))], [(100000, [.sl 3 (box.map e_Part)]), (100001, [.int .i64 box1]), (100002, [.int .i64 box2])], [], [], []⟩ (.cons (idx_ok e_Part h0) (.cons (idx_ok e_Part h1) (.cons (R_Instead_v1_ok box box1 2 [(⟨(lget box box1).From, (lget box (w64 (box1 + 1))).To, box2⟩ : Part)] x h2) .nil))) (by kernel_rfl) ?_
  have hF := some_elim hF
  exact Wk_ret (hfin _ ⟨[], [100000, 100001, 100002], [], [], [], [], by first | (rw [← hF]; kernel_rfl) | kernel_rfl⟩)

/- tabularylaw.partsAs -/
noncomputable def law_partsAs_v1 (l : List Part) (f : Fault) (w0 : Fault) (box : List Part) (box1 : Int) (box2 : Int) : Option Bool :=
  if (!(decide (f.Code = w0.Code) && (decide (f.At = w0.At) && true))) = true then
    some false
  else
    if (!decide (w0.Code = 0)) = true then
      some (decide ((l.length : Int) = 0))
    else
      ob (law_PartsDoes_2 box box1 box2) fun x =>
      ob (R_SameParts l x) fun x1 =>
      some x1
theorem law_partsAs_v1_ok (l : List Part) (f : Fault) (w0 : Fault) (box : List Part) (box1 : Int) (box2 : Int) (r : Bool) (hF : law_partsAs_v1 l f w0 box box1 box2 = some r) : Pe Try.prog 26 ⟨[], [(100000, [.sl 3 (box.map e_Part)]), (100001, [.int .i64 box1]), (100002, [.int .i64 box2])], [], [], []⟩ [.sl 3 (l.map e_Part), .agg [.int .i64 f.Code, .int .i64 f.At], .agg [.int .i64 w0.Code, .int .i64 w0.At], .fn 29 [.ptr 100000 0, .ptr 100001 0, .ptr 100002 0]] (.bool r) ⟨[], [(100000, [.sl 3 (box.map e_Part)]), (100001, [.int .i64 box1]), (100002, [.int .i64 box2])], [], [], []⟩ := by
  refine Pe_of (N := 22) (res := [.tmp 8]) (ts := [4]) Ty.ok Fn.b26 Try.func26 rfl rfl rfl rfl rfl rfl ?_
  intro Q g hfin
  unfold law_partsAs_v1 at hF
  refine Wk_seq ?_
  refine WR [] [0, 3, 5, 6] [5, 6, 100000, 100001, 100002] [] [] [] [] ⟨[(0, .sl 3 (l.map e_Part)), (3, .fn 29 [.ptr 100000 0, .ptr 100001 0, .ptr 100002 0]), (5, .ptr 5 0), (6, .ptr 6 0)], [(5, [.int .i64 f.Code, .int .i64 f.At]), (6, [.int .i64 w0.Code, .int .i64 w0.At]), (100000, [.sl 3 (box.map e_Part)]), (100001, [.int .i64 box1]), (100002, [.int .i64 box2])], [], [], []⟩ .nil (by kernel_rfl) ?_
  refine Wk_seq ?_
  refine Wk_seq ?_
  refine WR [] [0, 3, 6, 11] [6, 100000, 100001, 100002] [] [] [] [] ⟨[(0, .sl 3 (l.map e_Part)), (3, .fn 29 [.ptr 100000 0, .ptr 100001 0, .ptr 100002 0]), (6, .ptr 6 0), (11, .bool (!(decide (f.Code = w0.Code) && (decide (f.At = w0.At) && true))))], [(6, [.int .i64 w0.Code, .int .i64 w0.At]), (100000, [.sl 3 (box.map e_Part)]), (100001, [.int .i64 box1]), (100002, [.int .i64 box2])], [], [], []⟩ .nil (by kernel_rfl) ?_
  refine Wk_split rfl (fun hb => ?_) (fun hb => ?_)
  · have hF := ite_t hF hb
    refine Wk_seq ?_
    refine WR [] [8] [100000, 100001, 100002] [] [] [] [] ⟨[(8, .bool false)], [(100000, [.sl 3 (box.map e_Part)]), (100001, [.int .i64 box1]), (100002, [.int .i64 box2])], [], [], []⟩ .nil (by kernel_rfl) ?_
    have hF := some_elim hF
    exact Wk_ret (hfin _ ⟨[], [100000, 100001, 100002], [], [], [], [], by first | (rw [← hF]; kernel_rfl) | kernel_rfl⟩)
  · have hF := ite_f hF hb
    refine Wk_skip ?_
    refine Wk_seq ?_
    refine Wk_seq ?_
    refine WR [] [0, 3, 14] [100000, 100001, 100002] [] [] [] [] ⟨[(0, .sl 3 (l.map e_Part)), (3, .fn 29 [.ptr 100000 0, .ptr 100001 0, .ptr 100002 0]), (14, .bool (!decide (w0.Code = 0)))], [(100000, [.sl 3 (box.map e_Part)]), (100001, [.int .i64 box1]), (100002, [.int .i64 box2])], [], [], []⟩ .nil (by kernel_rfl) ?_
    refine Wk_split rfl (fun hb => ?_) (fun hb => ?_)
    · have hF := ite_t hF hb
      refine Wk_seq ?_
      refine WR [.nat (l.length : Int)] [8] [100000, 100001, 100002] [] [] [] [] ⟨[(8, .bool (decide ((l.length : Int) = 0)))], [(100000, [.sl 3 (box.map e_Part)]), (100001, [.int .i64 box1]), (100002, [.int .i64 box2])], [], [], []⟩ (.cons (len_ok e_Part l) .nil) (by kernel_rfl) ?_
      have hF := some_elim hF
      exact Wk_ret (hfin _ ⟨[], [100000, 100001, 100002], [], [], [], [], by first | (rw [← hF]; kernel_rfl) | kernel_rfl⟩)
    · have hF := ite_f hF hb
      refine Wk_skip ?_
      refine Wk_seq ?_
      obtain ⟨x, h0, hF⟩ := ob_elim hF
      obtain ⟨x1, h1, hF⟩ := ob_elim hF
      refine WR [.callR [100000, 100001, 100002] [] [] [] (.sl 3 (x.map e_Part)), .callB (.bool x1)] [8] [100000, 100001, 100002] [] [] [] [] ⟨[(8, .bool x1)], [(100000, [.sl 3 (box.map e_Part)]), (100001, [.int .i64 box1]), (100002, [.int .i64 box2])], [], [], []⟩ (.cons (Pe.ren (law_PartsDoes_2_ok box box1 box2 x h0) ⟨[], [], [], []⟩) (.cons (R_SameParts_ok l x x1 h1) .nil)) (by kernel_rfl) ?_
      have hF := some_elim hF
      exact Wk_ret (hfin _ ⟨[], [100000, 100001, 100002], [], [], [], [], by first | (rw [← hF]; kernel_rfl) | kernel_rfl⟩)

/- tabularylaw.PartsDoes -/
noncomputable def law_PartsDoes (l : List Part) (at0 : Int) (row : List UInt8) (left : Int) (right : Int) : Option Bool :=
  ob (law_partsBegun) fun x =>
  if (!x) = true then
    some false
  else
    if (decide (1000 < (l.length : Int))) = true then
      some true
    else
      ob (law_ownParts_v1 l) fun x1 =>
      ob (parts_Check x1) fun x2 =>
      ob (parts_Split_v1 x1 at0 row left right) fun x3 =>
      ob (parts_Join_v1 x1 at0 left) fun x4 =>
      ob (R_PartsFault l) fun x5 =>
      ob (if (!(!(decide (x2.Code = x5.Code) && (decide (x2.At = x5.At) && true)))) = true then (R_SameParts x1 l) else some default) fun x6 =>
      if ((!(decide (x2.Code = x5.Code) && (decide (x2.At = x5.At) && true))) || (!x6)) = true then
        some false
      else
        ob (
          if ((decide (x5.Code = 0)) && ((decide (at0 < 0)) || (decide ((l.length : Int) ≤ at0)))) = true then
            lt (R_F 3 (-1)) fun x7 =>
            some (x3.2, x4.2, x5, x7)
          else
            some (x3.2, x4.2, x5, x5)) fun (v : Fault × Fault × Fault × Fault) =>
        ob (
          if ((decide (v.2.2.2.Code = 0)) && (decide (40 < (row.length : Int)))) = true then
            lt (R_F 8 (-2)) fun x8 =>
            some (v.1, v.2.1, v.2.2.1, x8)
          else
            some (v.1, v.2.1, v.2.2.1, v.2.2.2)) fun (v1 : Fault × Fault × Fault × Fault) =>
        asrt ((decide (v1.2.2.2.Code = 0)) = true → 0 ≤ at0 ∧ at0 < (l.length : Int)) <|
        asrt ((!(decide (row = ((lget l at0).From)))) = true → (decide (v1.2.2.2.Code = 0)) = true → 0 ≤ at0 ∧ at0 < (l.length : Int)) <|
        lt (R_InPart (⟨(lget l at0).From, (lget l at0).To, (lget l at0).ID⟩ : Part) row) fun x9 =>
        ob (
          if ((decide (v1.2.2.2.Code = 0)) && ((decide (row = ((lget l at0).From))) || (!x9))) = true then
            lt (R_F 5 (-2)) fun x10 =>
            some (v1.1, v1.2.1, v1.2.2.1, x10)
          else
            some (v1.1, v1.2.1, v1.2.2.1, v1.2.2.2)) fun (v2 : Fault × Fault × Fault × Fault) =>
        lt (R_Num left) fun x11 =>
        lt (R_Num right) fun x12 =>
        ob (
          if ((decide (v2.2.2.2.Code = 0)) && ((!x11) || (!x12))) = true then
            lt (R_F 3 (-3)) fun x13 =>
            some (v2.1, v2.2.1, v2.2.2.1, x13)
          else
            some (v2.1, v2.2.1, v2.2.2.1, v2.2.2.2)) fun (v3 : Fault × Fault × Fault × Fault) =>
        ob (if (!(decide (left = right))) = true then (if (decide (v3.2.2.2.Code = 0)) = true then (R_HasID l at0 1 left) else some default) else some default) fun x14 =>
        ob (if (!((decide (left = right)) || x14)) = true then (if (decide (v3.2.2.2.Code = 0)) = true then (R_HasID l at0 1 right) else some default) else some default) fun x15 =>
        ob (
          if ((decide (v3.2.2.2.Code = 0)) && (((decide (left = right)) || x14) || x15)) = true then
            lt (R_F 10 (-3)) fun x16 =>
            some (v3.1, v3.2.1, v3.2.2.1, x16)
          else
            some (v3.1, v3.2.1, v3.2.2.1, v3.2.2.2)) fun (v4 : Fault × Fault × Fault × Fault) =>
        ob (
          if ((decide (v4.2.2.2.Code = 0)) && (decide ((l.length : Int) = 200))) = true then
            lt (R_F 2 (-1)) fun x17 =>
            some (v4.1, v4.2.1, v4.2.2.1, x17)
          else
            some (v4.1, v4.2.1, v4.2.2.1, v4.2.2.2)) fun (v5 : Fault × Fault × Fault × Fault) =>
        ob (law_partsAs x3.1 v5.1 v5.2.2.2 l at0 row left right) fun x18 =>
        if (!x18) = true then
          some false
        else
          ob (
            if ((decide (v5.2.2.1.Code = 0)) && ((decide (at0 < 0)) || (decide ((w64 ((l.length : Int) - 1)) ≤ at0)))) = true then
              lt (R_F 3 (-1)) fun x19 =>
              some (v5.2.1, x19)
            else
              some (v5.2.1, v5.2.2.1)) fun (v6 : Fault × Fault) =>
          lt (R_Num left) fun x20 =>
          ob (
            if ((decide (v6.2.Code = 0)) && (!x20)) = true then
              lt (R_F 3 (-3)) fun x21 =>
              some (v6.1, x21)
            else
              some (v6.1, v6.2)) fun (v7 : Fault × Fault) =>
          ob (if (decide (v7.2.Code = 0)) = true then (R_HasID l at0 2 left) else some default) fun x22 =>
          ob (
            if ((decide (v7.2.Code = 0)) && x22) = true then
              lt (R_F 10 (-3)) fun x23 =>
              some (v7.1, x23)
            else
              some (v7.1, v7.2)) fun (v8 : Fault × Fault) =>
          ob (law_partsAs_v1 x4.1 v8.1 v8.2 l at0 left) fun x24 =>
          some x24
theorem law_PartsDoes_ok (l : List Part) (at0 : Int) (row : List UInt8) (left : Int) (right : Int) (r : Bool) (hF : law_PartsDoes l at0 row left right = some r) : Pe Try.prog 3 S.none [.sl 3 (l.map e_Part), .int .i64 at0, .str row, .int .i64 left, .int .i64 right] (.bool r) S.none := by
  refine Pe_of (N := 191) (res := [.tmp 10]) (ts := [4]) Ty.ok Fn.b3 Try.func3 rfl rfl rfl rfl rfl rfl ?_
  intro Q g hfin
  unfold law_PartsDoes at hF
  refine Wk_seq ?_
  refine WR [] [5, 6, 7, 8, 9] [5, 6, 7, 8, 9] [] [] [] [] ⟨[(5, .ptr 5 0), (6, .ptr 6 0), (7, .ptr 7 0), (8, .ptr 8 0), (9, .ptr 9 0)], [(5, [.sl 3 (l.map e_Part)]), (6, [.int .i64 at0]), (7, [.str row]), (8, [.int .i64 left]), (9, [.int .i64 right])], [], [], []⟩ .nil (by kernel_rfl) ?_
  refine Wk_seq ?_
  refine Wk_seq ?_
  obtain ⟨x, h0, hF⟩ := ob_elim hF
  refine WR [.callB (.bool x)] [5, 6, 7, 8, 9, 20] [5, 6, 7, 8, 9] [] [] [] [] ⟨[(5, .ptr 5 0), (6, .ptr 6 0), (7, .ptr 7 0), (8, .ptr 8 0), (9, .ptr 9 0), (20, .bool (!x))], [(5, [.sl 3 (l.map e_Part)]), (6, [.int .i64 at0]), (7, [.str row]), (8, [.int .i64 left]), (9, [.int .i64 right])], [], [], []⟩ (.cons (law_partsBegun_ok  x h0) .nil) (by kernel_rfl) ?_
  refine Wk_split rfl (fun hb => ?_) (fun hb => ?_)
  · have hF := ite_t hF hb
    refine Wk_seq ?_
    refine WR [] [10] [] [] [] [] [] ⟨[(10, .bool false)], [], [], [], []⟩ .nil (by kernel_rfl) ?_
    have hF := some_elim hF
    exact Wk_ret (hfin _ ⟨[], [], [], [], [], [], by first | (rw [← hF]; kernel_rfl) | kernel_rfl⟩)
  · have hF := ite_f hF hb
    refine Wk_skip ?_
    refine Wk_seq ?_
    refine Wk_seq ?_
    refine WR [.nat (l.length : Int)] [5, 6, 7, 8, 9, 23] [5, 6, 7, 8, 9] [] [] [] [] ⟨[(5, .ptr 5 0), (6, .ptr 6 0), (7, .ptr 7 0), (8, .ptr 8 0), (9, .ptr 9 0), (23, .bool (decide (1000 < (l.length : Int))))], [(5, [.sl 3 (l.map e_Part)]), (6, [.int .i64 at0]), (7, [.str row]), (8, [.int .i64 left]), (9, [.int .i64 right])], [], [], []⟩ (.cons (len_ok e_Part l) .nil) (by kernel_rfl) ?_
    refine Wk_split rfl (fun hb => ?_) (fun hb => ?_)
    · have hF := ite_t hF hb
      refine Wk_seq ?_
      refine WR [] [10] [] [] [] [] [] ⟨[(10, .bool true)], [], [], [], []⟩ .nil (by kernel_rfl) ?_
      have hF := some_elim hF
      exact Wk_ret (hfin _ ⟨[], [], [], [], [], [], by first | (rw [← hF]; kernel_rfl) | kernel_rfl⟩)
    · have hF := ite_f hF hb
      refine Wk_skip ?_
      refine Wk_seq ?_
      obtain ⟨x1, h1, hF⟩ := ob_elim hF
      refine WR [.call (.sl 3 (x1.map e_Part))] [5, 6, 7, 8, 9, 11] [5, 6, 7, 8, 9] [] [] [] [] ⟨[(5, .ptr 5 0), (6, .ptr 6 0), (7, .ptr 7 0), (8, .ptr 8 0), (9, .ptr 9 0), (11, .sl 3 (x1.map e_Part))], [(5, [.sl 3 (l.map e_Part)]), (6, [.int .i64 at0]), (7, [.str row]), (8, [.int .i64 left]), (9, [.int .i64 right])], [], [], []⟩ (.cons (law_ownParts_v1_ok l x1 h1) .nil) (by kernel_rfl) ?_
      refine Wk_seq ?_
      obtain ⟨x2, h2, hF⟩ := ob_elim hF
      refine WR [.callB (.agg [.int .i64 x2.Code, .int .i64 x2.At])] [5, 6, 7, 8, 9, 11, 12] [5, 6, 7, 8, 9, 12] [] [] [] [] ⟨[(5, .ptr 5 0), (6, .ptr 6 0), (7, .ptr 7 0), (8, .ptr 8 0), (9, .ptr 9 0), (11, .sl 3 (x1.map e_Part)), (12, .ptr 12 0)], [(5, [.sl 3 (l.map e_Part)]), (6, [.int .i64 at0]), (7, [.str row]), (8, [.int .i64 left]), (9, [.int .i64 right]), (12, [.int .i64 x2.Code, .int .i64 x2.At])], [], [], []⟩ (.cons (parts_Check_ok x1 x2 h2) .nil) (by kernel_rfl) ?_
      refine Wk_seq ?_
      obtain ⟨x3, h3, hF⟩ := ob_elim hF
      refine WR [.call (.tup [.sl 3 (x3.1.map e_Part), .agg [.int .i64 x3.2.Code, .int .i64 x3.2.At]])] [5, 6, 7, 8, 9, 11, 12, 13, 14] [5, 6, 7, 8, 9, 12, 14] [] [] [] [] ⟨[(5, .ptr 5 0), (6, .ptr 6 0), (7, .ptr 7 0), (8, .ptr 8 0), (9, .ptr 9 0), (11, .sl 3 (x1.map e_Part)), (12, .ptr 12 0), (13, .sl 3 (x3.1.map e_Part)), (14, .ptr 14 0)], [(5, [.sl 3 (l.map e_Part)]), (6, [.int .i64 at0]), (7, [.str row]), (8, [.int .i64 left]), (9, [.int .i64 right]), (12, [.int .i64 x2.Code, .int .i64 x2.At]), (14, [.int .i64 x3.2.Code, .int .i64 x3.2.At])], [], [], []⟩ (.cons (parts_Split_v1_ok x1 at0 row left right x3 h3) .nil) (by kernel_rfl) ?_
      refine Wk_seq ?_
      obtain ⟨x4, h4, hF⟩ := ob_elim hF
      refine WR [.call (.tup [.sl 3 (x4.1.map e_Part), .agg [.int .i64 x4.2.Code, .int .i64 x4.2.At]])] [5, 6, 7, 8, 9, 11, 12, 13, 14, 15, 16] [5, 6, 7, 8, 9, 12, 14, 16] [] [] [] [] ⟨[(5, .ptr 5 0), (6, .ptr 6 0), (7, .ptr 7 0), (8, .ptr 8 0), (9, .ptr 9 0), (11, .sl 3 (x1.map e_Part)), (12, .ptr 12 0), (13, .sl 3 (x3.1.map e_Part)), (14, .ptr 14 0), (15, .sl 3 (x4.1.map e_Part)), (16, .ptr 16 0)], [(5, [.sl 3 (l.map e_Part)]), (6, [.int .i64 at0]), (7, [.str row]), (8, [.int .i64 left]), (9, [.int .i64 right]), (12, [.int .i64 x2.Code, .int .i64 x2.At]), (14, [.int .i64 x3.2.Code, .int .i64 x3.2.At]), (16, [.int .i64 x4.2.Code, .int .i64 x4.2.At])], [], [], []⟩ (.cons (parts_Join_v1_ok x1 at0 left x4 h4) .nil) (by kernel_rfl) ?_
      refine Wk_seq ?_
      obtain ⟨x5, h5, hF⟩ := ob_elim hF
      refine WR [.callB (.agg [.int .i64 x5.Code, .int .i64 x5.At])] [5, 6, 7, 8, 9, 11, 12, 13, 14, 15, 16, 17] [5, 6, 7, 8, 9, 12, 14, 16, 17] [] [] [] [] ⟨[(5, .ptr 5 0), (6, .ptr 6 0), (7, .ptr 7 0), (8, .ptr 8 0), (9, .ptr 9 0), (11, .sl 3 (x1.map e_Part)), (12, .ptr 12 0), (13, .sl 3 (x3.1.map e_Part)), (14, .ptr 14 0), (15, .sl 3 (x4.1.map e_Part)), (16, .ptr 16 0), (17, .ptr 17 0)], [(5, [.sl 3 (l.map e_Part)]), (6, [.int .i64 at0]), (7, [.str row]), (8, [.int .i64 left]), (9, [.int .i64 right]), (12, [.int .i64 x2.Code, .int .i64 x2.At]), (14, [.int .i64 x3.2.Code, .int .i64 x3.2.At]), (16, [.int .i64 x4.2.Code, .int .i64 x4.2.At]), (17, [.int .i64 x5.Code, .int .i64 x5.At])], [], [], []⟩ (.cons (R_PartsFault_ok l x5 h5) .nil) (by kernel_rfl) ?_
      refine Wk_seq ?_
      refine Wk_seq ?_
      obtain ⟨x6, h6, hF⟩ := ob_elim hF
      refine WR [.callB (.bool x6)] [5, 6, 7, 8, 9, 13, 14, 15, 16, 17, 54] [5, 6, 7, 8, 9, 14, 16, 17] [] [] [] [] ⟨[(5, .ptr 5 0), (6, .ptr 6 0), (7, .ptr 7 0), (8, .ptr 8 0), (9, .ptr 9 0), (13, .sl 3 (x3.1.map e_Part)), (14, .ptr 14 0), (15, .sl 3 (x4.1.map e_Part)), (16, .ptr 16 0), (17, .ptr 17 0), (54, .bool ((!(decide (x2.Code = x5.Code) && (decide (x2.At = x5.At) && true))) || (!x6)))], [(5, [.sl 3 (l.map e_Part)]), (6, [.int .i64 at0]), (7, [.str row]), (8, [.int .i64 left]), (9, [.int .i64 right]), (14, [.int .i64 x3.2.Code, .int .i64 x3.2.At]), (16, [.int .i64 x4.2.Code, .int .i64 x4.2.At]), (17, [.int .i64 x5.Code, .int .i64 x5.At])], [], [], []⟩ (.cons (fun (ga0 : (!(!(decide (x2.Code = x5.Code) && (decide (x2.At = x5.At) && true)))) = true) => (R_SameParts_ok x1 l x6 (ite_t h6 ga0))) .nil) (by kernel_rfl) ?_
      refine Wk_split rfl (fun hb => ?_) (fun hb => ?_)
      · have hF := ite_t hF hb
        refine Wk_seq ?_
        refine WR [] [10] [] [] [] [] [] ⟨[(10, .bool false)], [], [], [], []⟩ .nil (by kernel_rfl) ?_
        have hF := some_elim hF
        exact Wk_ret (hfin _ ⟨[], [], [], [], [], [], by first | (rw [← hF]; kernel_rfl) | kernel_rfl⟩)
      · have hF := ite_f hF hb
        refine Wk_skip ?_
        refine Wk_seq ?_
        refine WR [] [5, 6, 7, 8, 9, 13, 14, 15, 16, 17, 18] [5, 6, 7, 8, 9, 14, 16, 17, 18] [] [] [] [] ⟨[(5, .ptr 5 0), (6, .ptr 6 0), (7, .ptr 7 0), (8, .ptr 8 0), (9, .ptr 9 0), (13, .sl 3 (x3.1.map e_Part)), (14, .ptr 14 0), (15, .sl 3 (x4.1.map e_Part)), (16, .ptr 16 0), (17, .ptr 17 0), (18, .ptr 18 0)], [(5, [.sl 3 (l.map e_Part)]), (6, [.int .i64 at0]), (7, [.str row]), (8, [.int .i64 left]), (9, [.int .i64 right]), (14, [.int .i64 x3.2.Code, .int .i64 x3.2.At]), (16, [.int .i64 x4.2.Code, .int .i64 x4.2.At]), (17, [.int .i64 x5.Code, .int .i64 x5.At]), (18, [.int .i64 x5.Code, .int .i64 x5.At])], [], [], []⟩ .nil (by kernel_rfl) ?_
        refine Wk_seq ?_
        refine Wk_seq ?_
        refine WR [.nat (l.length : Int)] [5, 6, 7, 8, 9, 13, 14, 15, 16, 17, 18, 68] [5, 6, 7, 8, 9, 14, 16, 17, 18] [] [] [] [] ⟨[(5, .ptr 5 0), (6, .ptr 6 0), (7, .ptr 7 0), (8, .ptr 8 0), (9, .ptr 9 0), (13, .sl 3 (x3.1.map e_Part)), (14, .ptr 14 0), (15, .sl 3 (x4.1.map e_Part)), (16, .ptr 16 0), (17, .ptr 17 0), (18, .ptr 18 0), (68, .bool ((decide (x5.Code = 0)) && ((decide (at0 < 0)) || (decide ((l.length : Int) ≤ at0)))))], [(5, [.sl 3 (l.map e_Part)]), (6, [.int .i64 at0]), (7, [.str row]), (8, [.int .i64 left]), (9, [.int .i64 right]), (14, [.int .i64 x3.2.Code, .int .i64 x3.2.At]), (16, [.int .i64 x4.2.Code, .int .i64 x4.2.At]), (17, [.int .i64 x5.Code, .int .i64 x5.At]), (18, [.int .i64 x5.Code, .int .i64 x5.At])], [], [], []⟩ (.cons (fun (_ : (!(decide (at0 < 0))) = true) (_ : (decide (x5.Code = 0)) = true) => (len_ok e_Part l)) .nil) (by kernel_rfl) ?_
        obtain ⟨v, hv, hF⟩ := ob_elim hF
        refine Wk_meet (⟨[(5, .ptr 5 0), (6, .ptr 6 0), (7, .ptr 7 0), (8, .ptr 8 0), (9, .ptr 9 0), (13, .sl 3 (x3.1.map e_Part)), (14, .ptr 14 0), (15, .sl 3 (x4.1.map e_Part)), (16, .ptr 16 0), (17, .ptr 17 0), (18, .ptr 18 0)], [(5, [.sl 3 (l.map e_Part)]), (6, [.int .i64 at0]), (7, [.str row]), (8, [.int .i64 left]), (9, [.int .i64 right]), (14, [.int .i64 v.1.Code, .int .i64 v.1.At]), (16, [.int .i64 v.2.1.Code, .int .i64 v.2.1.At]), (17, [.int .i64 v.2.2.1.Code, .int .i64 v.2.2.1.At]), (18, [.int .i64 v.2.2.2.Code, .int .i64 v.2.2.2.At])], [], [], []⟩ : S) ?_ ?_
        · have hF := hv
          refine Wk_split rfl (fun hb => ?_) (fun hb => ?_)
          · have hF := ite_t hF hb
            obtain ⟨x7, h7, hF⟩ := lt_split hF
            refine WR [.callB (.agg [.int .i64 x7.Code, .int .i64 x7.At])] [5, 6, 7, 8, 9, 13, 14, 15, 16, 17, 18] [5, 6, 7, 8, 9, 14, 16, 17, 18] [] [] [] [] ⟨[(5, .ptr 5 0), (6, .ptr 6 0), (7, .ptr 7 0), (8, .ptr 8 0), (9, .ptr 9 0), (13, .sl 3 (x3.1.map e_Part)), (14, .ptr 14 0), (15, .sl 3 (x4.1.map e_Part)), (16, .ptr 16 0), (17, .ptr 17 0), (18, .ptr 18 0)], [(5, [.sl 3 (l.map e_Part)]), (6, [.int .i64 at0]), (7, [.str row]), (8, [.int .i64 left]), (9, [.int .i64 right]), (14, [.int .i64 x3.2.Code, .int .i64 x3.2.At]), (16, [.int .i64 x4.2.Code, .int .i64 x4.2.At]), (17, [.int .i64 x5.Code, .int .i64 x5.At]), (18, [.int .i64 x7.Code, .int .i64 x7.At])], [], [], []⟩ (.cons (R_F_ok 3 (-1) x7 h7) .nil) (by kernel_rfl) ?_
            exact Wk_met (fs := [5, 6, 7, 8, 9, 13, 14, 15, 16, 17, 18]) (bs := [5, 6, 7, 8, 9, 14, 16, 17, 18]) (rs := []) (ms := []) (aa := []) (nv := []) (by first | (rw [← some_elim hF]; kernel_rfl) | kernel_rfl)
          · have hF := ite_f hF hb
            refine Wk_skip ?_
            exact Wk_met (fs := [5, 6, 7, 8, 9, 13, 14, 15, 16, 17, 18]) (bs := [5, 6, 7, 8, 9, 14, 16, 17, 18]) (rs := []) (ms := []) (aa := []) (nv := []) (by first | (rw [← some_elim hF]; kernel_rfl) | kernel_rfl)
        · refine Wk_seq ?_
          refine Wk_seq ?_
          refine WR [] [5, 6, 7, 8, 9, 13, 14, 15, 16, 17, 18, 77] [5, 6, 7, 8, 9, 14, 16, 17, 18] [] [] [] [] ⟨[(5, .ptr 5 0), (6, .ptr 6 0), (7, .ptr 7 0), (8, .ptr 8 0), (9, .ptr 9 0), (13, .sl 3 (x3.1.map e_Part)), (14, .ptr 14 0), (15, .sl 3 (x4.1.map e_Part)), (16, .ptr 16 0), (17, .ptr 17 0), (18, .ptr 18 0), (77, .bool ((decide (v.2.2.2.Code = 0)) && (decide (40 < (row.length : Int)))))], [(5, [.sl 3 (l.map e_Part)]), (6, [.int .i64 at0]), (7, [.str row]), (8, [.int .i64 left]), (9, [.int .i64 right]), (14, [.int .i64 v.1.Code, .int .i64 v.1.At]), (16, [.int .i64 v.2.1.Code, .int .i64 v.2.1.At]), (17, [.int .i64 v.2.2.1.Code, .int .i64 v.2.2.1.At]), (18, [.int .i64 v.2.2.2.Code, .int .i64 v.2.2.2.At])], [], [], []⟩ .nil (by kernel_rfl) ?_
          obtain ⟨v1, hv, hF⟩ := ob_elim hF
          refine Wk_meet (⟨[(5, .ptr 5 0), (6, .ptr 6 0), (7, .ptr 7 0), (8, .ptr 8 0), (9, .ptr 9 0), (13, .sl 3 (x3.1.map e_Part)), (14, .ptr 14 0), (15, .sl 3 (x4.1.map e_Part)), (16, .ptr 16 0), (17, .ptr 17 0), (18, .ptr 18 0)], [(5, [.sl 3 (l.map e_Part)]), (6, [.int .i64 at0]), (7, [.str row]), (8, [.int .i64 left]), (9, [.int .i64 right]), (14, [.int .i64 v1.1.Code, .int .i64 v1.1.At]), (16, [.int .i64 v1.2.1.Code, .int .i64 v1.2.1.At]), (17, [.int .i64 v1.2.2.1.Code, .int .i64 v1.2.2.1.At]), (18, [.int .i64 v1.2.2.2.Code, .int .i64 v1.2.2.2.At])], [], [], []⟩ : S) ?_ ?_
          · have hF := hv
            refine Wk_split rfl (fun hb => ?_) (fun hb => ?_)
            · have hF := ite_t hF hb
              obtain ⟨x8, h8, hF⟩ := lt_split hF
              refine WR [.callB (.agg [.int .i64 x8.Code, .int .i64 x8.At])] [5, 6, 7, 8, 9, 13, 14, 15, 16, 17, 18] [5, 6, 7, 8, 9, 14, 16, 17, 18] [] [] [] [] ⟨[(5, .ptr 5 0), (6, .ptr 6 0), (7, .ptr 7 0), (8, .ptr 8 0), (9, .ptr 9 0), (13, .sl 3 (x3.1.map e_Part)), (14, .ptr 14 0), (15, .sl 3 (x4.1.map e_Part)), (16, .ptr 16 0), (17, .ptr 17 0), (18, .ptr 18 0)], [(5, [.sl 3 (l.map e_Part)]), (6, [.int .i64 at0]), (7, [.str row]), (8, [.int .i64 left]), (9, [.int .i64 right]), (14, [.int .i64 v.1.Code, .int .i64 v.1.At]), (16, [.int .i64 v.2.1.Code, .int .i64 v.2.1.At]), (17, [.int .i64 v.2.2.1.Code, .int .i64 v.2.2.1.At]), (18, [.int .i64 x8.Code, .int .i64 x8.At])], [], [], []⟩ (.cons (R_F_ok 8 (-2) x8 h8) .nil) (by kernel_rfl) ?_
              exact Wk_met (fs := [5, 6, 7, 8, 9, 13, 14, 15, 16, 17, 18]) (bs := [5, 6, 7, 8, 9, 14, 16, 17, 18]) (rs := []) (ms := []) (aa := []) (nv := []) (by first | (rw [← some_elim hF]; kernel_rfl) | kernel_rfl)
            · have hF := ite_f hF hb
              refine Wk_skip ?_
              exact Wk_met (fs := [5, 6, 7, 8, 9, 13, 14, 15, 16, 17, 18]) (bs := [5, 6, 7, 8, 9, 14, 16, 17, 18]) (rs := []) (ms := []) (aa := []) (nv := []) (by first | (rw [← some_elim hF]; kernel_rfl) | kernel_rfl)
          · refine Wk_seq ?_
            refine Wk_seq ?_
            obtain ⟨h9, hF⟩ := asrt_elim hF
            obtain ⟨h10, hF⟩ := asrt_elim hF
            obtain ⟨x9, h11, hF⟩ := lt_split hF
            refine WD [.av (e_Part (lget l at0)), .av (e_Part (lget l at0)), .callB (.bool x9)] [5, 6, 7, 8, 9, 13, 14, 15, 16, 17, 18, 99] [5, 6, 7, 8, 9, 14, 16, 17, 18] [] [] [] [] ⟨[(5, .ptr 5 0), (6, .ptr 6 0), (7, .ptr 7 0), (8, .ptr 8 0), (9, .ptr 9 0), (13, .sl 3 (x3.1.map e_Part)), (14, .ptr 14 0), (15, .sl 3 (x4.1.map e_Part)), (16, .ptr 16 0), (17, .ptr 17 0), (18, .ptr 18 0), (99, .bool ((decide (v1.2.2.2.Code = 0)) && ((decide (row = ((lget l at0).From))) || (!x9))))], [(5, [.sl 3 (l.map e_Part)]), (6, [.int .i64 at0]), (7, [.str row]), (8, [.int .i64 left]), (9, [.int .i64 right]), (14, [.int .i64 v1.1.Code, .int .i64 v1.1.At]), (16, [.int .i64 v1.2.1.Code, .int .i64 v1.2.1.At]), (17, [.int .i64 v1.2.2.1.Code, .int .i64 v1.2.2.1.At]), (18, [.int .i64 v1.2.2.2.Code, .int .i64 v1.2.2.2.At])], [], [], []⟩ (.cons (fun (ga0 : (decide (v1.2.2.2.Code = 0)) = true) => (idx_ok e_Part (h9 ga0))) (.cons (fun (ga0 : (!(decide (row = ((lget l at0).From)))) = true) (ga1 : (decide (v1.2.2.2.Code = 0)) = true) => (idx_ok e_Part (h10 ga0 ga1))) (.cons (fun (ga0 : (!(decide (row = ((lget l at0).From)))) = true) (ga1 : (decide (v1.2.2.2.Code = 0)) = true) => (R_InPart_ok (⟨(lget l at0).From, (lget l at0).To, (lget l at0).ID⟩ : Part) row x9 h11)) .nil))) (by kernel_rfl) ?_
            obtain ⟨v2, hv, hF⟩ := ob_elim hF
            refine Wk_meet (⟨[(5, .ptr 5 0), (6, .ptr 6 0), (7, .ptr 7 0), (8, .ptr 8 0), (9, .ptr 9 0), (13, .sl 3 (x3.1.map e_Part)), (14, .ptr 14 0), (15, .sl 3 (x4.1.map e_Part)), (16, .ptr 16 0), (17, .ptr 17 0), (18, .ptr 18 0)], [(5, [.sl 3 (l.map e_Part)]), (6, [.int .i64 at0]), (7, [.str row]), (8, [.int .i64 left]), (9, [.int .i64 right]), (14, [.int .i64 v2.1.Code, .int .i64 v2.1.At]), (16, [.int .i64 v2.2.1.Code, .int .i64 v2.2.1.At]), (17, [.int .i64 v2.2.2.1.Code, .int .i64 v2.2.2.1.At]), (18, [.int .i64 v2.2.2.2.Code, .int .i64 v2.2.2.2.At])], [], [], []⟩ : S) ?_ ?_
            · have hF := hv
              refine Wk_split rfl (fun hb => ?_) (fun hb => ?_)
              · have hF := ite_t hF hb
                obtain ⟨x10, h12, hF⟩ := lt_split hF
                refine WR [.callB (.agg [.int .i64 x10.Code, .int .i64 x10.At])] [5, 6, 7, 8, 9, 13, 14, 15, 16, 17, 18] [5, 6, 7, 8, 9, 14, 16, 17, 18] [] [] [] [] ⟨[(5, .ptr 5 0), (6, .ptr 6 0), (7, .ptr 7 0), (8, .ptr 8 0), (9, .ptr 9 0), (13, .sl 3 (x3.1.map e_Part)), (14, .ptr 14 0), (15, .sl 3 (x4.1.map e_Part)), (16, .ptr 16 0), (17, .ptr 17 0), (18, .ptr 18 0)], [(5, [.sl 3 (l.map e_Part)]), (6, [.int .i64 at0]), (7, [.str row]), (8, [.int .i64 left]), (9, [.int .i64 right]), (14, [.int .i64 v1.1.Code, .int .i64 v1.1.At]), (16, [.int .i64 v1.2.1.Code, .int .i64 v1.2.1.At]), (17, [.int .i64 v1.2.2.1.Code, .int .i64 v1.2.2.1.At]), (18, [.int .i64 x10.Code, .int .i64 x10.At])], [], [], []⟩ (.cons (R_F_ok 5 (-2) x10 h12) .nil) (by kernel_rfl) ?_
                exact Wk_met (fs := [5, 6, 7, 8, 9, 13, 14, 15, 16, 17, 18]) (bs := [5, 6, 7, 8, 9, 14, 16, 17, 18]) (rs := []) (ms := []) (aa := []) (nv := []) (by first | (rw [← some_elim hF]; kernel_rfl) | kernel_rfl)
              · have hF := ite_f hF hb
                refine Wk_skip ?_
                exact Wk_met (fs := [5, 6, 7, 8, 9, 13, 14, 15, 16, 17, 18]) (bs := [5, 6, 7, 8, 9, 14, 16, 17, 18]) (rs := []) (ms := []) (aa := []) (nv := []) (by first | (rw [← some_elim hF]; kernel_rfl) | kernel_rfl)
            · refine Wk_seq ?_
              refine Wk_seq ?_
              obtain ⟨x11, h13, hF⟩ := lt_split hF
              obtain ⟨x12, h14, hF⟩ := lt_split hF
              refine WR [.callB (.bool x11), .callB (.bool x12)] [5, 6, 7, 8, 9, 13, 14, 15, 16, 17, 18, 113] [5, 6, 7, 8, 9, 14, 16, 17, 18] [] [] [] [] ⟨[(5, .ptr 5 0), (6, .ptr 6 0), (7, .ptr 7 0), (8, .ptr 8 0), (9, .ptr 9 0), (13, .sl 3 (x3.1.map e_Part)), (14, .ptr 14 0), (15, .sl 3 (x4.1.map e_Part)), (16, .ptr 16 0), (17, .ptr 17 0), (18, .ptr 18 0), (113, .bool ((decide (v2.2.2.2.Code = 0)) && ((!x11) || (!x12))))], [(5, [.sl 3 (l.map e_Part)]), (6, [.int .i64 at0]), (7, [.str row]), (8, [.int .i64 left]), (9, [.int .i64 right]), (14, [.int .i64 v2.1.Code, .int .i64 v2.1.At]), (16, [.int .i64 v2.2.1.Code, .int .i64 v2.2.1.At]), (17, [.int .i64 v2.2.2.1.Code, .int .i64 v2.2.2.1.At]), (18, [.int .i64 v2.2.2.2.Code, .int .i64 v2.2.2.2.At])], [], [], []⟩ (.cons (fun (ga0 : (decide (v2.2.2.2.Code = 0)) = true) => (R_Num_ok left x11 h13)) (.cons (fun (ga0 : (!(!x11)) = true) (ga1 : (decide (v2.2.2.2.Code = 0)) = true) => (R_Num_ok right x12 h14)) .nil)) (by kernel_rfl) ?_
              obtain ⟨v3, hv, hF⟩ := ob_elim hF
              refine Wk_meet (⟨[(5, .ptr 5 0), (6, .ptr 6 0), (7, .ptr 7 0), (8, .ptr 8 0), (9, .ptr 9 0), (13, .sl 3 (x3.1.map e_Part)), (14, .ptr 14 0), (15, .sl 3 (x4.1.map e_Part)), (16, .ptr 16 0), (17, .ptr 17 0), (18, .ptr 18 0)], [(5, [.sl 3 (l.map e_Part)]), (6, [.int .i64 at0]), (7, [.str row]), (8, [.int .i64 left]), (9, [.int .i64 right]), (14, [.int .i64 v3.1.Code, .int .i64 v3.1.At]), (16, [.int .i64 v3.2.1.Code, .int .i64 v3.2.1.At]), (17, [.int .i64 v3.2.2.1.Code, .int .i64 v3.2.2.1.At]), (18, [.int .i64 v3.2.2.2.Code, .int .i64 v3.2.2.2.At])], [], [], []⟩ : S) ?_ ?_
              · have hF := hv
                refine Wk_split rfl (fun hb => ?_) (fun hb => ?_)
                · have hF := ite_t hF hb
                  obtain ⟨x13, h15, hF⟩ := lt_split hF
                  refine WR [.callB (.agg [.int .i64 x13.Code, .int .i64 x13.At])] [5, 6, 7, 8, 9, 13, 14, 15, 16, 17, 18] [5, 6, 7, 8, 9, 14, 16, 17, 18] [] [] [] [] ⟨[(5, .ptr 5 0), (6, .ptr 6 0), (7, .ptr 7 0), (8, .ptr 8 0), (9, .ptr 9 0), (13, .sl 3 (x3.1.map e_Part)), (14, .ptr 14 0), (15, .sl 3 (x4.1.map e_Part)), (16, .ptr 16 0), (17, .ptr 17 0), (18, .ptr 18 0)], [(5, [.sl 3 (l.map e_Part)]), (6, [.int .i64 at0]), (7, [.str row]), (8, [.int .i64 left]), (9, [.int .i64 right]), (14, [.int .i64 v2.1.Code, .int .i64 v2.1.At]), (16, [.int .i64 v2.2.1.Code, .int .i64 v2.2.1.At]), (17, [.int .i64 v2.2.2.1.Code, .int .i64 v2.2.2.1.At]), (18, [.int .i64 x13.Code, .int .i64 x13.At])], [], [], []⟩ (.cons (R_F_ok 3 (-3) x13 h15) .nil) (by kernel_rfl) ?_
                  exact Wk_met (fs := [5, 6, 7, 8, 9, 13, 14, 15, 16, 17, 18]) (bs := [5, 6, 7, 8, 9, 14, 16, 17, 18]) (rs := []) (ms := []) (aa := []) (nv := []) (by first | (rw [← some_elim hF]; kernel_rfl) | kernel_rfl)
                · have hF := ite_f hF hb
                  refine Wk_skip ?_
                  exact Wk_met (fs := [5, 6, 7, 8, 9, 13, 14, 15, 16, 17, 18]) (bs := [5, 6, 7, 8, 9, 14, 16, 17, 18]) (rs := []) (ms := []) (aa := []) (nv := []) (by first | (rw [← some_elim hF]; kernel_rfl) | kernel_rfl)
              · refine Wk_seq ?_
                refine Wk_seq ?_
                obtain ⟨x14, h16, hF⟩ := ob_elim hF
                obtain ⟨x15, h17, hF⟩ := ob_elim hF
                refine WR [.callB (.bool x14), .callB (.bool x15)] [5, 6, 7, 8, 9, 13, 14, 15, 16, 17, 18, 134] [5, 6, 7, 8, 9, 14, 16, 17, 18] [] [] [] [] ⟨[(5, .ptr 5 0), (6, .ptr 6 0), (7, .ptr 7 0), (8, .ptr 8 0), (9, .ptr 9 0), (13, .sl 3 (x3.1.map e_Part)), (14, .ptr 14 0), (15, .sl 3 (x4.1.map e_Part)), (16, .ptr 16 0), (17, .ptr 17 0), (18, .ptr 18 0), (134, .bool ((decide (v3.2.2.2.Code = 0)) && (((decide (left = right)) || x14) || x15)))], [(5, [.sl 3 (l.map e_Part)]), (6, [.int .i64 at0]), (7, [.str row]), (8, [.int .i64 left]), (9, [.int .i64 right]), (14, [.int .i64 v3.1.Code, .int .i64 v3.1.At]), (16, [.int .i64 v3.2.1.Code, .int .i64 v3.2.1.At]), (17, [.int .i64 v3.2.2.1.Code, .int .i64 v3.2.2.1.At]), (18, [.int .i64 v3.2.2.2.Code, .int .i64 v3.2.2.2.At])], [], [], []⟩ (.cons (fun (ga0 : (!(decide (left = right))) = true) (ga1 : (decide (v3.2.2.2.Code = 0)) = true) => (R_HasID_ok l at0 1 left x14 (ite_t (ite_t h16 ga0) ga1))) (.cons (fun (ga0 : (!((decide (left = right)) || x14)) = true) (ga1 : (decide (v3.2.2.2.Code = 0)) = true) => (R_HasID_ok l at0 1 right x15 (ite_t (ite_t h17 ga0) ga1))) .nil)) (by kernel_rfl) ?_
                obtain ⟨v4, hv, hF⟩ := ob_elim hF
                refine Wk_meet (⟨[(5, .ptr 5 0), (6, .ptr 6 0), (7, .ptr 7 0), (8, .ptr 8 0), (9, .ptr 9 0), (13, .sl 3 (x3.1.map e_Part)), (14, .ptr 14 0), (15, .sl 3 (x4.1.map e_Part)), (16, .ptr 16 0), (17, .ptr 17 0), (18, .ptr 18 0)], [(5, [.sl 3 (l.map e_Part)]), (6, [.int .i64 at0]), (7, [.str row]), (8, [.int .i64 left]), (9, [.int .i64 right]), (14, [.int .i64 v4.1.Code, .int .i64 v4.1.At]), (16, [.int .i64 v4.2.1.Code, .int .i64 v4.2.1.At]), (17, [.int .i64 v4.2.2.1.Code, .int .i64 v4.2.2.1.At]), (18, [.int .i64 v4.2.2.2.Code, .int .i64 v4.2.2.2.At])], [], [], []⟩ : S) ?_ ?_
                · have hF := hv
                  refine Wk_split rfl (fun hb => ?_) (fun hb => ?_)
                  · have hF := ite_t hF hb
                    obtain ⟨x16, h18, hF⟩ := lt_split hF
                    refine WR [.callB (.agg [.int .i64 x16.Code, .int .i64 x16.At])] [5, 6, 7, 8, 9, 13, 14, 15, 16, 17, 18] [5, 6, 7, 8, 9, 14, 16, 17, 18] [] [] [] [] ⟨[(5, .ptr 5 0), (6, .ptr 6 0), (7, .ptr 7 0), (8, .ptr 8 0), (9, .ptr 9 0), (13, .sl 3 (x3.1.map e_Part)), (14, .ptr 14 0), (15, .sl 3 (x4.1.map e_Part)), (16, .ptr 16 0), (17, .ptr 17 0), (18, .ptr 18 0)], [(5, [.sl 3 (l.map e_Part)]), (6, [.int .i64 at0]), (7, [.str row]), (8, [.int .i64 left]), (9, [.int .i64 right]), (14, [.int .i64 v3.1.Code, .int .i64 v3.1.At]), (16, [.int .i64 v3.2.1.Code, .int .i64 v3.2.1.At]), (17, [.int .i64 v3.2.2.1.Code, .int .i64 v3.2.2.1.At]), (18, [.int .i64 x16.Code, .int .i64 x16.At])], [], [], []⟩ (.cons (R_F_ok 10 (-3) x16 h18) .nil) (by kernel_rfl) ?_
                    exact Wk_met (fs := [5, 6, 7, 8, 9, 13, 14, 15, 16, 17, 18]) (bs := [5, 6, 7, 8, 9, 14, 16, 17, 18]) (rs := []) (ms := []) (aa := []) (nv := []) (by first | (rw [← some_elim hF]; kernel_rfl) | kernel_rfl)
                  · have hF := ite_f hF hb
                    refine Wk_skip ?_
                    exact Wk_met (fs := [5, 6, 7, 8, 9, 13, 14, 15, 16, 17, 18]) (bs := [5, 6, 7, 8, 9, 14, 16, 17, 18]) (rs := []) (ms := []) (aa := []) (nv := []) (by first | (rw [← some_elim hF]; kernel_rfl) | kernel_rfl)
                · refine Wk_seq ?_
                  refine Wk_seq ?_
                  refine WR [.nat (l.length : Int)] [5, 6, 7, 8, 9, 13, 14, 15, 16, 17, 18, 143] [5, 6, 7, 8, 9, 14, 16, 17, 18] [] [] [] [] ⟨[(5, .ptr 5 0), (6, .ptr 6 0), (7, .ptr 7 0), (8, .ptr 8 0), (9, .ptr 9 0), (13, .sl 3 (x3.1.map e_Part)), (14, .ptr 14 0), (15, .sl 3 (x4.1.map e_Part)), (16, .ptr 16 0), (17, .ptr 17 0), (18, .ptr 18 0), (143, .bool ((decide (v4.2.2.2.Code = 0)) && (decide ((l.length : Int) = 200))))], [(5, [.sl 3 (l.map e_Part)]), (6, [.int .i64 at0]), (7, [.str row]), (8, [.int .i64 left]), (9, [.int .i64 right]), (14, [.int .i64 v4.1.Code, .int .i64 v4.1.At]), (16, [.int .i64 v4.2.1.Code, .int .i64 v4.2.1.At]), (17, [.int .i64 v4.2.2.1.Code, .int .i64 v4.2.2.1.At]), (18, [.int .i64 v4.2.2.2.Code, .int .i64 v4.2.2.2.At])], [], [], []⟩ (.cons (fun (_ : (decide (v4.2.2.2.Code = 0)) = true) => (len_ok e_Part l)) .nil) (by kernel_rfl) ?_
                  obtain ⟨v5, hv, hF⟩ := ob_elim hF
                  refine Wk_meet (⟨[(5, .ptr 5 0), (6, .ptr 6 0), (7, .ptr 7 0), (8, .ptr 8 0), (9, .ptr 9 0), (13, .sl 3 (x3.1.map e_Part)), (14, .ptr 14 0), (15, .sl 3 (x4.1.map e_Part)), (16, .ptr 16 0), (17, .ptr 17 0), (18, .ptr 18 0)], [(5, [.sl 3 (l.map e_Part)]), (6, [.int .i64 at0]), (7, [.str row]), (8, [.int .i64 left]), (9, [.int .i64 right]), (14, [.int .i64 v5.1.Code, .int .i64 v5.1.At]), (16, [.int .i64 v5.2.1.Code, .int .i64 v5.2.1.At]), (17, [.int .i64 v5.2.2.1.Code, .int .i64 v5.2.2.1.At]), (18, [.int .i64 v5.2.2.2.Code, .int .i64 v5.2.2.2.At])], [], [], []⟩ : S) ?_ ?_
                  · have hF := hv
                    refine Wk_split rfl (fun hb => ?_) (fun hb => ?_)
                    · have hF := ite_t hF hb
                      obtain ⟨x17, h19, hF⟩ := lt_split hF
                      refine WR [.callB (.agg [.int .i64 x17.Code, .int .i64 x17.At])] [5, 6, 7, 8, 9, 13, 14, 15, 16, 17, 18] [5, 6, 7, 8, 9, 14, 16, 17, 18] [] [] [] [] ⟨[(5, .ptr 5 0), (6, .ptr 6 0), (7, .ptr 7 0), (8, .ptr 8 0), (9, .ptr 9 0), (13, .sl 3 (x3.1.map e_Part)), (14, .ptr 14 0), (15, .sl 3 (x4.1.map e_Part)), (16, .ptr 16 0), (17, .ptr 17 0), (18, .ptr 18 0)], [(5, [.sl 3 (l.map e_Part)]), (6, [.int .i64 at0]), (7, [.str row]), (8, [.int .i64 left]), (9, [.int .i64 right]), (14, [.int .i64 v4.1.Code, .int .i64 v4.1.At]), (16, [.int .i64 v4.2.1.Code, .int .i64 v4.2.1.At]), (17, [.int .i64 v4.2.2.1.Code, .int .i64 v4.2.2.1.At]), (18, [.int .i64 x17.Code, .int .i64 x17.At])], [], [], []⟩ (.cons (R_F_ok 2 (-1) x17 h19) .nil) (by kernel_rfl) ?_
                      exact Wk_met (fs := [5, 6, 7, 8, 9, 13, 14, 15, 16, 17, 18]) (bs := [5, 6, 7, 8, 9, 14, 16, 17, 18]) (rs := []) (ms := []) (aa := []) (nv := []) (by first | (rw [← some_elim hF]; kernel_rfl) | kernel_rfl)
                    · have hF := ite_f hF hb
                      refine Wk_skip ?_
                      exact Wk_met (fs := [5, 6, 7, 8, 9, 13, 14, 15, 16, 17, 18]) (bs := [5, 6, 7, 8, 9, 14, 16, 17, 18]) (rs := []) (ms := []) (aa := []) (nv := []) (by first | (rw [← some_elim hF]; kernel_rfl) | kernel_rfl)
                  · refine Wk_seq ?_
                    refine Wk_seq ?_
                    obtain ⟨x18, h20, hF⟩ := ob_elim hF
                    refine WR [.callR [5, 6, 7, 8, 9] [] [] [] (.bool x18)] [5, 6, 8, 15, 16, 17, 18, 150] [5, 6, 8, 16, 17, 18] [] [] [] [] ⟨[(5, .ptr 5 0), (6, .ptr 6 0), (8, .ptr 8 0), (15, .sl 3 (x4.1.map e_Part)), (16, .ptr 16 0), (17, .ptr 17 0), (18, .ptr 18 0), (150, .bool (!x18))], [(5, [.sl 3 (l.map e_Part)]), (6, [.int .i64 at0]), (8, [.int .i64 left]), (16, [.int .i64 v5.2.1.Code, .int .i64 v5.2.1.At]), (17, [.int .i64 v5.2.2.1.Code, .int .i64 v5.2.2.1.At]), (18, [.int .i64 v5.2.2.2.Code, .int .i64 v5.2.2.2.At])], [], [], []⟩ (.cons (Pe.ren (law_partsAs_ok x3.1 v5.1 v5.2.2.2 l at0 row left right x18 h20) ⟨[(100000, 5), (100001, 6), (100002, 7), (100003, 8), (100004, 9)], [], [], []⟩) .nil) (by kernel_rfl) ?_
                    refine Wk_split rfl (fun hb => ?_) (fun hb => ?_)
                    · have hF := ite_t hF hb
                      refine Wk_seq ?_
                      refine WR [] [10] [] [] [] [] [] ⟨[(10, .bool false)], [], [], [], []⟩ .nil (by kernel_rfl) ?_
                      have hF := some_elim hF
                      exact Wk_ret (hfin _ ⟨[], [], [], [], [], [], by first | (rw [← hF]; kernel_rfl) | kernel_rfl⟩)
                    · have hF := ite_f hF hb
                      refine Wk_skip ?_
                      refine Wk_seq ?_
                      refine WR [] [5, 6, 8, 15, 16, 18] [5, 6, 8, 16, 18] [] [] [] [] ⟨[(5, .ptr 5 0), (6, .ptr 6 0), (8, .ptr 8 0), (15, .sl 3 (x4.1.map e_Part)), (16, .ptr 16 0), (18, .ptr 18 0)], [(5, [.sl 3 (l.map e_Part)]), (6, [.int .i64 at0]), (8, [.int .i64 left]), (16, [.int .i64 v5.2.1.Code, .int .i64 v5.2.1.At]), (18, [.int .i64 v5.2.2.1.Code, .int .i64 v5.2.2.1.At])], [], [], []⟩ .nil (by kernel_rfl) ?_
                      refine Wk_seq ?_
                      refine Wk_seq ?_
                      refine WR [.nat (l.length : Int)] [5, 6, 8, 15, 16, 18, 165] [5, 6, 8, 16, 18] [] [] [] [] ⟨[(5, .ptr 5 0), (6, .ptr 6 0), (8, .ptr 8 0), (15, .sl 3 (x4.1.map e_Part)), (16, .ptr 16 0), (18, .ptr 18 0), (165, .bool ((decide (v5.2.2.1.Code = 0)) && ((decide (at0 < 0)) || (decide ((w64 ((l.length : Int) - 1)) ≤ at0)))))], [(5, [.sl 3 (l.map e_Part)]), (6, [.int .i64 at0]), (8, [.int .i64 left]), (16, [.int .i64 v5.2.1.Code, .int .i64 v5.2.1.At]), (18, [.int .i64 v5.2.2.1.Code, .int .i64 v5.2.2.1.At])], [], [], []⟩ (.cons (fun (_ : (!(decide (at0 < 0))) = true) (_ : (decide (v5.2.2.1.Code = 0)) = true) => (len_ok e_Part l)) .nil) (by kernel_rfl) ?_
                      obtain ⟨v6, hv, hF⟩ := ob_elim hF
                      refine Wk_meet (⟨[(5, .ptr 5 0), (6, .ptr 6 0), (8, .ptr 8 0), (15, .sl 3 (x4.1.map e_Part)), (16, .ptr 16 0), (18, .ptr 18 0)], [(5, [.sl 3 (l.map e_Part)]), (6, [.int .i64 at0]), (8, [.int .i64 left]), (16, [.int .i64 v6.1.Code, .int .i64 v6.1.At]), (18, [.int .i64 v6.2.Code, .int .i64 v6.2.At])], [], [], []⟩ : S) ?_ ?_
                      · have hF := hv
                        refine Wk_split rfl (fun hb => ?_) (fun hb => ?_)
                        · have hF := ite_t hF hb
                          obtain ⟨x19, h21, hF⟩ := lt_split hF
                          refine WR [.callB (.agg [.int .i64 x19.Code, .int .i64 x19.At])] [5, 6, 8, 15, 16, 18] [5, 6, 8, 16, 18] [] [] [] [] ⟨[(5, .ptr 5 0), (6, .ptr 6 0), (8, .ptr 8 0), (15, .sl 3 (x4.1.map e_Part)), (16, .ptr 16 0), (18, .ptr 18 0)], [(5, [.sl 3 (l.map e_Part)]), (6, [.int .i64 at0]), (8, [.int .i64 left]), (16, [.int .i64 v5.2.1.Code, .int .i64 v5.2.1.At]), (18, [.int .i64 x19.Code, .int .i64 x19.At])], [], [], []⟩ (.cons (R_F_ok 3 (-1) x19 h21) .nil) (by kernel_rfl) ?_
                          exact Wk_met (fs := [5, 6, 8, 15, 16, 18]) (bs := [5, 6, 8, 16, 18]) (rs := []) (ms := []) (aa := []) (nv := []) (by first | (rw [← some_elim hF]; kernel_rfl) | kernel_rfl)
                        · have hF := ite_f hF hb
                          refine Wk_skip ?_
                          exact Wk_met (fs := [5, 6, 8, 15, 16, 18]) (bs := [5, 6, 8, 16, 18]) (rs := []) (ms := []) (aa := []) (nv := []) (by first | (rw [← some_elim hF]; kernel_rfl) | kernel_rfl)
                      · refine Wk_seq ?_
                        refine Wk_seq ?_
                        obtain ⟨x20, h22, hF⟩ := lt_split hF
                        refine WR [.callB (.bool x20)] [5, 6, 8, 15, 16, 18, 174] [5, 6, 8, 16, 18] [] [] [] [] ⟨[(5, .ptr 5 0), (6, .ptr 6 0), (8, .ptr 8 0), (15, .sl 3 (x4.1.map e_Part)), (16, .ptr 16 0), (18, .ptr 18 0), (174, .bool ((decide (v6.2.Code = 0)) && (!x20)))], [(5, [.sl 3 (l.map e_Part)]), (6, [.int .i64 at0]), (8, [.int .i64 left]), (16, [.int .i64 v6.1.Code, .int .i64 v6.1.At]), (18, [.int .i64 v6.2.Code, .int .i64 v6.2.At])], [], [], []⟩ (.cons (fun (ga0 : (decide (v6.2.Code = 0)) = true) => (R_Num_ok left x20 h22)) .nil) (by kernel_rfl) ?_
                        obtain ⟨v7, hv, hF⟩ := ob_elim hF
                        refine Wk_meet (⟨[(5, .ptr 5 0), (6, .ptr 6 0), (8, .ptr 8 0), (15, .sl 3 (x4.1.map e_Part)), (16, .ptr 16 0), (18, .ptr 18 0)], [(5, [.sl 3 (l.map e_Part)]), (6, [.int .i64 at0]), (8, [.int .i64 left]), (16, [.int .i64 v7.1.Code, .int .i64 v7.1.At]), (18, [.int .i64 v7.2.Code, .int .i64 v7.2.At])], [], [], []⟩ : S) ?_ ?_
                        · have hF := hv
                          refine Wk_split rfl (fun hb => ?_) (fun hb => ?_)
                          · have hF := ite_t hF hb
                            obtain ⟨x21, h23, hF⟩ := lt_split hF
                            refine WR [.callB (.agg [.int .i64 x21.Code, .int .i64 x21.At])] [5, 6, 8, 15, 16, 18] [5, 6, 8, 16, 18] [] [] [] [] ⟨[(5, .ptr 5 0), (6, .ptr 6 0), (8, .ptr 8 0), (15, .sl 3 (x4.1.map e_Part)), (16, .ptr 16 0), (18, .ptr 18 0)], [(5, [.sl 3 (l.map e_Part)]), (6, [.int .i64 at0]), (8, [.int .i64 left]), (16, [.int .i64 v6.1.Code, .int .i64 v6.1.At]), (18, [.int .i64 x21.Code, .int .i64 x21.At])], [], [], []⟩ (.cons (R_F_ok 3 (-3) x21 h23) .nil) (by kernel_rfl) ?_
                            exact Wk_met (fs := [5, 6, 8, 15, 16, 18]) (bs := [5, 6, 8, 16, 18]) (rs := []) (ms := []) (aa := []) (nv := []) (by first | (rw [← some_elim hF]; kernel_rfl) | kernel_rfl)
                          · have hF := ite_f hF hb
                            refine Wk_skip ?_
                            exact Wk_met (fs := [5, 6, 8, 15, 16, 18]) (bs := [5, 6, 8, 16, 18]) (rs := []) (ms := []) (aa := []) (nv := []) (by first | (rw [← some_elim hF]; kernel_rfl) | kernel_rfl)
                        · refine Wk_seq ?_
                          refine Wk_seq ?_
                          obtain ⟨x22, h24, hF⟩ := ob_elim hF
                          refine WR [.callB (.bool x22)] [5, 6, 8, 15, 16, 18, 184] [5, 6, 8, 16, 18] [] [] [] [] ⟨[(5, .ptr 5 0), (6, .ptr 6 0), (8, .ptr 8 0), (15, .sl 3 (x4.1.map e_Part)), (16, .ptr 16 0), (18, .ptr 18 0), (184, .bool ((decide (v7.2.Code = 0)) && x22))], [(5, [.sl 3 (l.map e_Part)]), (6, [.int .i64 at0]), (8, [.int .i64 left]), (16, [.int .i64 v7.1.Code, .int .i64 v7.1.At]), (18, [.int .i64 v7.2.Code, .int .i64 v7.2.At])], [], [], []⟩ (.cons (fun (ga0 : (decide (v7.2.Code = 0)) = true) => (R_HasID_ok l at0 2 left x22 (ite_t h24 ga0))) .nil) (by kernel_rfl) ?_
                          obtain ⟨v8, hv, hF⟩ := ob_elim hF
                          refine Wk_meet (⟨[(5, .ptr 5 0), (6, .ptr 6 0), (8, .ptr 8 0), (15, .sl 3 (x4.1.map e_Part)), (16, .ptr 16 0), (18, .ptr 18 0)], [(5, [.sl 3 (l.map e_Part)]), (6, [.int .i64 at0]), (8, [.int .i64 left]), (16, [.int .i64 v8.1.Code, .int .i64 v8.1.At]), (18, [.int .i64 v8.2.Code, .int .i64 v8.2.At])], [], [], []⟩ : S) ?_ ?_
                          · have hF := hv
                            refine Wk_split rfl (fun hb => ?_) (fun hb => ?_)
                            · have hF := ite_t hF hb
                              obtain ⟨x23, h25, hF⟩ := lt_split hF
                              refine WR [.callB (.agg [.int .i64 x23.Code, .int .i64 x23.At])] [5, 6, 8, 15, 16, 18] [5, 6, 8, 16, 18] [] [] [] [] ⟨[(5, .ptr 5 0), (6, .ptr 6 0), (8, .ptr 8 0), (15, .sl 3 (x4.1.map e_Part)), (16, .ptr 16 0), (18, .ptr 18 0)], [(5, [.sl 3 (l.map e_Part)]), (6, [.int .i64 at0]), (8, [.int .i64 left]), (16, [.int .i64 v7.1.Code, .int .i64 v7.1.At]), (18, [.int .i64 x23.Code, .int .i64 x23.At])], [], [], []⟩ (.cons (R_F_ok 10 (-3) x23 h25) .nil) (by kernel_rfl) ?_
                              exact Wk_met (fs := [5, 6, 8, 15, 16, 18]) (bs := [5, 6, 8, 16, 18]) (rs := []) (ms := []) (aa := []) (nv := []) (by first | (rw [← some_elim hF]; kernel_rfl) | kernel_rfl)
                            · have hF := ite_f hF hb
                              refine Wk_skip ?_
                              exact Wk_met (fs := [5, 6, 8, 15, 16, 18]) (bs := [5, 6, 8, 16, 18]) (rs := []) (ms := []) (aa := []) (nv := []) (by first | (rw [← some_elim hF]; kernel_rfl) | kernel_rfl)
                          · refine Wk_seq ?_
                            obtain ⟨x24, h26, hF⟩ := ob_elim hF
                            refine WR [.callR [5, 6, 8] [] [] [] (.bool x24)] [10] [] [] [] [] [] ⟨[(10, .bool x24)], [], [], [], []⟩ (.cons (Pe.ren (law_partsAs_v1_ok x4.1 v8.1 v8.2 l at0 left x24 h26) ⟨[(100000, 5), (100001, 6), (100002, 8)], [], [], []⟩) .nil) (by kernel_rfl) ?_
                            have hF := some_elim hF
                            exact Wk_ret (hfin _ ⟨[], [], [], [], [], [], by first | (rw [← hF]; kernel_rfl) | kernel_rfl⟩)

/- parts.Find -/
noncomputable def parts_Find (l : List Part) (row : List UInt8) : Option (Int × Fault) :=
  ob (parts_Check l) fun x =>
  if (!decide (x.Code = 0)) = true then
    some (0, x)
  else
    ob (parts_find l row) fun x1 =>
    some (x1, (⟨0, 0⟩ : Fault))
theorem parts_Find_ok (l : List Part) (row : List UInt8) (r : Int × Fault) (hF : parts_Find l row = some r) : Pe Try.prog 30 S.none [.sl 3 (l.map e_Part), .str row] (.tup [.int .i64 r.1, .agg [.int .i64 r.2.Code, .int .i64 r.2.At]]) S.none := by
  refine Pe_of (N := 17) (res := [.tmp 4, .cell 5 26]) (ts := [3, 26]) Ty.ok Fn.b30 Try.func30 rfl rfl rfl rfl rfl rfl ?_
  intro Q g hfin
  unfold parts_Find at hF
  refine Wk_seq ?_
  refine WR [] [0, 1, 5] [5] [] [] [] [] ⟨[(0, .sl 3 (l.map e_Part)), (1, .str row), (5, .ptr 5 0)], [(5, [.int .i64 0, .int .i64 0])], [], [], []⟩ .nil (by kernel_rfl) ?_
  refine Wk_seq ?_
  refine Wk_seq ?_
  obtain ⟨x, h0, hF⟩ := ob_elim hF
  refine WR [.callB (.agg [.int .i64 x.Code, .int .i64 x.At])] [0, 1, 5, 6] [5, 6] [] [] [] [] ⟨[(0, .sl 3 (l.map e_Part)), (1, .str row), (5, .ptr 5 0), (6, .ptr 6 0)], [(5, [.int .i64 0, .int .i64 0]), (6, [.int .i64 x.Code, .int .i64 x.At])], [], [], []⟩ (.cons (parts_Check_ok l x h0) .nil) (by kernel_rfl) ?_
  refine Wk_seq ?_
  refine WR [] [0, 1, 5, 6, 11] [5, 6] [] [] [] [] ⟨[(0, .sl 3 (l.map e_Part)), (1, .str row), (5, .ptr 5 0), (6, .ptr 6 0), (11, .bool (!decide (x.Code = 0)))], [(5, [.int .i64 0, .int .i64 0]), (6, [.int .i64 x.Code, .int .i64 x.At])], [], [], []⟩ .nil (by kernel_rfl) ?_
  refine Wk_split rfl (fun hb => ?_) (fun hb => ?_)
  · have hF := ite_t hF hb
    refine Wk_seq ?_
    refine WD [] [4, 5] [5] [] [] [] [] ⟨[(4, .int .i64 0), (5, .ptr 5 0)], [(5, [.int .i64 x.Code, .int .i64 x.At])], [], [], []⟩ .nil (by kernel_rfl) ?_
    have hF := some_elim hF
    exact Wk_ret (hfin _ ⟨[], [], [], [], [], [], by first | (rw [← hF]; kernel_rfl) | kernel_rfl⟩)
  · have hF := ite_f hF hb
    refine Wk_skip ?_
    refine Wk_seq ?_
    obtain ⟨x1, h1, hF⟩ := ob_elim hF
    refine WR [.callB (.int .i64 x1)] [4, 5] [5] [] [] [] [] ⟨[(4, .int .i64 x1), (5, .ptr 5 0)], [(5, [.int .i64 0, .int .i64 0])], [], [], []⟩ (.cons (parts_find_ok l row x1 h1) .nil) (by kernel_rfl) ?_
    have hF := some_elim hF
    exact Wk_ret (hfin _ ⟨[], [], [], [], [], [], by first | (rw [← hF]; kernel_rfl) | kernel_rfl⟩)

/- parts.Meet$1 -/
noncomputable def parts_Meet_1 (i : Int) (box : List Part) (box1 : List UInt8) : Option Bool :=
  asrt (0 ≤ i ∧ i < (box.length : Int)) <|
  some (!Op.bytesLess ((lget box i).From) box1)
theorem parts_Meet_1_ok (i : Int) (box : List Part) (box1 : List UInt8) (r : Bool) (hF : parts_Meet_1 i box box1 = some r) : Pe Try.prog 74 ⟨[], [(100000, [.sl 3 (box.map e_Part)]), (100001, [.str box1])], [], [], []⟩ [.int .i64 i, .ptr 100000 0, .ptr 100001 0] (.bool r) ⟨[], [(100000, [.sl 3 (box.map e_Part)]), (100001, [.str box1])], [], [], []⟩ := by
  refine Pe_of (N := 12) (res := [.tmp 4]) (ts := [4]) Ty.ok Fn.b74 Try.func74 rfl rfl rfl rfl rfl rfl ?_
  intro Q g hfin
  unfold parts_Meet_1 at hF
  refine Wk_seq ?_
  refine WR [] [0, 1, 2] [100000, 100001] [] [] [] [] ⟨[(0, .int .i64 i), (1, .ptr 100000 0), (2, .ptr 100001 0)], [(100000, [.sl 3 (box.map e_Part)]), (100001, [.str box1])], [], [], []⟩ .nil (by kernel_rfl) ?_
  refine Wk_seq ?_
  obtain ⟨h0, hF⟩ := asrt_elim hF
  refine WD [.av (e_Part (lget box i))] [4] [100000, 100001] [] [] [] [] ⟨[(4, .bool (!Op.bytesLess ((lget box i).From) box1))], [(100000, [.sl 3 (box.map e_Part)]), (100001, [.str box1])], [], [], []⟩ (.cons (idx_ok e_Part h0) .nil) (by kernel_rfl) ?_
  have hF := some_elim hF
  exact Wk_ret (hfin _ ⟨[], [100000, 100001], [], [], [], [], by first | (rw [← hF]; kernel_rfl) | kernel_rfl⟩)

/- sort.Search -/
noncomputable def sort_Search_v1_J1 (v : Int) : Option Int :=
  some v
noncomputable def sort_Search_v1_B1 (box : List Part) (box1 : List UInt8) (v1 : Int × Int) : Option ((Int × Int) ⊕ Int) :=
  if (decide (v1.1 < v1.2)) = true then
    lt (w64 (Int.fdiv (IntKind.u64.wrap (w64 (v1.1 + v1.2))) (2 ^ (min (1 : Int).toNat 64)))) fun (v2 : Int) =>
    ob (parts_Meet_1 v2 box box1) fun x =>
    if (!x) = true then
      some (Sum.inl (w64 (v2 + 1), v1.2))
    else
      some (Sum.inl (v1.1, v2))
  else
    inrO (sort_Search_v1_J1 v1.1)
noncomputable def sort_Search_v1_L1 (box : List Part) (box1 : List UInt8) (v0 : Int × Int) : Option Int :=
  loopO (fun y => sort_Search_v1_B1 box box1 y) v0
noncomputable def sort_Search_v1 (num : Int) (box : List Part) (box1 : List UInt8) : Option Int :=
  sort_Search_v1_L1 box box1 (0, num)
theorem sort_Search_v1_ok (num : Int) (box : List Part) (box1 : List UInt8) (r : Int) (hF : sort_Search_v1 num box box1 = some r) : Pe Try.prog 73 ⟨[], [(100000, [.sl 3 (box.map e_Part)]), (100001, [.str box1])], [], [], []⟩ [.int .i64 num, .fn 74 [.ptr 100000 0, .ptr 100001 0]] (.int .i64 r) ⟨[], [(100000, [.sl 3 (box.map e_Part)]), (100001, [.str box1])], [], [], []⟩ := by
  refine Pe_of (N := 26) (res := [.tmp 4]) (ts := [3]) Ty.ok Fn.b73 Try.func73 rfl rfl rfl rfl rfl rfl ?_
  intro Q g hfin
  unfold sort_Search_v1 at hF
  refine Wk_seq ?_
  refine WR [] [0, 1] [100000, 100001] [] [] [] [] ⟨[(0, .int .i64 num), (1, .fn 74 [.ptr 100000 0, .ptr 100001 0])], [(100000, [.sl 3 (box.map e_Part)]), (100001, [.str box1])], [], [], []⟩ .nil (by kernel_rfl) ?_
  refine Wk_seq ?_
  refine WR [] [1, 5, 6] [100000, 100001] [] [] [] [] ⟨[(1, .fn 74 [.ptr 100000 0, .ptr 100001 0]), (5, .int .i64 0), (6, .int .i64 num)], [(100000, [.sl 3 (box.map e_Part)]), (100001, [.str box1])], [], [], []⟩ .nil (by kernel_rfl) ?_
  refine Wk_seq ?_
  refine Wk_meetP (fun v : Int => (⟨[(5, .int .i64 v)], [(100000, [.sl 3 (box.map e_Part)]), (100001, [.str box1])], [], [], []⟩ : S)) (fun v => sort_Search_v1_J1 v = some r) ?_ ?_
  · refine Wk_block ?_
    unfold sort_Search_v1_L1 at hF
    refine Wk_trim (fs := [1, 5, 6]) (bs := [100000, 100001]) (rs := []) (ms := []) (aa := []) (nv := []) (t := (fun v1 : Int × Int => (⟨[(1, .fn 74 [.ptr 100000 0, .ptr 100001 0]), (5, .int .i64 v1.1), (6, .int .i64 v1.2)], [(100000, [.sl 3 (box.map e_Part)]), (100001, [.str box1])], [], [], []⟩ : S)) (0, num)) (by kernel_rfl) ?_
    refine Wk_iter (step := fun y => sort_Search_v1_B1 box box1 y) (r := r) (fun v1 : Int × Int => (⟨[(1, .fn 74 [.ptr 100000 0, .ptr 100001 0]), (5, .int .i64 v1.1), (6, .int .i64 v1.2)], [(100000, [.sl 3 (box.map e_Part)]), (100001, [.str box1])], [], [], []⟩ : S)) (0, num) hF ?_
    intro n1 v1 y1 hF ih1 dn1
    have hF : sort_Search_v1_B1 box box1 v1 = some y1 := hF
    unfold sort_Search_v1_B1 at hF
    refine Wk_seq ?_
    refine Wk_seq ?_
    refine WR [] [1, 5, 6, 11] [100000, 100001] [] [] [] [] ⟨[(1, .fn 74 [.ptr 100000 0, .ptr 100001 0]), (5, .int .i64 v1.1), (6, .int .i64 v1.2), (11, .bool (decide (v1.1 < v1.2)))], [(100000, [.sl 3 (box.map e_Part)]), (100001, [.str box1])], [], [], []⟩ .nil (by kernel_rfl) ?_
    refine Wk_split rfl (fun hb => ?_) (fun hb => ?_)
    · have hF := ite_t hF hb
      refine Wk_skip ?_
      refine Wk_block ?_
      refine Wk_seq ?_
      refine WRL (w64 (Int.fdiv (IntKind.u64.wrap (w64 (v1.1 + v1.2))) (2 ^ (min (1 : Int).toNat 64)))) (fun v2 : Int => ⟨[(1, .fn 74 [.ptr 100000 0, .ptr 100001 0]), (5, .int .i64 v1.1), (6, .int .i64 v1.2), (7, .int .i64 v2)], [(100000, [.sl 3 (box.map e_Part)]), (100001, [.str box1])], [], [], []⟩) [] [1, 5, 6, 7] [100000, 100001] [] [] [] [] (.cons (by decide : (0 : Int) ≤ 1) .nil) (by kernel_rfl) (fun v2 hv => ?_)
      have hF := lt_elim hF hv
      refine Wk_seq ?_
      obtain ⟨x, h0, hF⟩ := ob_elim hF
      refine WR [.callR [100000, 100001] [] [] [] (.bool x)] [1, 5, 6, 7, 21] [100000, 100001] [] [] [] [] ⟨[(1, .fn 74 [.ptr 100000 0, .ptr 100001 0]), (5, .int .i64 v1.1), (6, .int .i64 v1.2), (7, .int .i64 v2), (21, .bool (!x))], [(100000, [.sl 3 (box.map e_Part)]), (100001, [.str box1])], [], [], []⟩ (.cons (Pe.ren (parts_Meet_1_ok v2 box box1 x h0) ⟨[], [], [], []⟩) .nil) (by kernel_rfl) ?_
      refine Wk_split rfl (fun hb => ?_) (fun hb => ?_)
      · have hF := ite_t hF hb
        refine WR [] [1, 5, 6] [100000, 100001] [] [] [] [] ⟨[(1, .fn 74 [.ptr 100000 0, .ptr 100001 0]), (5, .int .i64 (w64 (v2 + 1))), (6, .int .i64 v1.2)], [(100000, [.sl 3 (box.map e_Part)]), (100001, [.str box1])], [], [], []⟩ .nil (by kernel_rfl) ?_
        refine Wk_blk ?_
        refine Wk_trim (fs := [1, 5, 6]) (bs := [100000, 100001]) (rs := []) (ms := []) (aa := []) (nv := []) ?_ (ih1 _ (some_elim hF).symm)
        kernel_rfl
      · have hF := ite_f hF hb
        refine WR [] [1, 5, 6] [100000, 100001] [] [] [] [] ⟨[(1, .fn 74 [.ptr 100000 0, .ptr 100001 0]), (5, .int .i64 v1.1), (6, .int .i64 v2)], [(100000, [.sl 3 (box.map e_Part)]), (100001, [.str box1])], [], [], []⟩ .nil (by kernel_rfl) ?_
        refine Wk_blk ?_
        refine Wk_trim (fs := [1, 5, 6]) (bs := [100000, 100001]) (rs := []) (ms := []) (aa := []) (nv := []) ?_ (ih1 _ (some_elim hF).symm)
        kernel_rfl
    · have hF := ite_f hF hb
      refine Wk_exit rfl ?_
      have hF := inrO_done hF dn1
      exact Wk_metP v1.1 [5] [100000, 100001] [] [] [] [] hF (by kernel_rfl)
  · intro v hF
    have hF : sort_Search_v1_J1 v = some r := hF
    unfold sort_Search_v1_J1 at hF
    refine Wk_seq ?_
    refine WR [] [4] [100000, 100001] [] [] [] [] ⟨[(4, .int .i64 v)], [(100000, [.sl 3 (box.map e_Part)]), (100001, [.str box1])], [], [], []⟩ .nil (by kernel_rfl) ?_
    have hF := some_elim hF
    exact Wk_ret (hfin _ ⟨[], [100000, 100001], [], [], [], [], by first | (rw [← hF]; kernel_rfl) | kernel_rfl⟩)

/- parts.Meet -/
noncomputable def parts_Meet (l : List Part) (from0 : List UInt8) (to0 : List UInt8) : Option (Int × Int × Fault) :=
  ob (parts_Check l) fun x =>
  if ((!decide (x.Code = 0)) || ((!decide (to0 = ([] : List UInt8))) && (!Op.bytesLess from0 to0))) = true then
    some (0, 0, x)
  else
    ob (parts_find l from0) fun x1 =>
    ob (
      if (!decide (to0 = ([] : List UInt8))) = true then
        ob (sort_Search_v1 (l.length : Int) l to0) fun x2 =>
        some ((⟨0, 0⟩ : Fault), x2)
      else
        some ((⟨0, 0⟩ : Fault), (l.length : Int))) fun (v : Fault × Int) =>
    some (x1, w64 (v.2 - x1), (⟨0, 0⟩ : Fault))
theorem parts_Meet_ok (l : List Part) (from0 : List UInt8) (to0 : List UInt8) (r : Int × Int × Fault) (hF : parts_Meet l from0 to0 = some r) : Pe Try.prog 31 S.none [.sl 3 (l.map e_Part), .str from0, .str to0] (.tup [.int .i64 r.1, .int .i64 r.2.1, .agg [.int .i64 r.2.2.Code, .int .i64 r.2.2.At]]) S.none := by
  refine Pe_of (N := 43) (res := [.tmp 6, .tmp 7, .cell 8 26]) (ts := [3, 3, 26]) Ty.ok Fn.b31 Try.func31 rfl rfl rfl rfl rfl rfl ?_
  intro Q g hfin
  unfold parts_Meet at hF
  refine Wk_seq ?_
  refine WR [] [1, 3, 5, 8] [3, 5, 8] [] [] [] [] ⟨[(1, .str from0), (3, .ptr 3 0), (5, .ptr 5 0), (8, .ptr 8 0)], [(3, [.sl 3 (l.map e_Part)]), (5, [.str to0]), (8, [.int .i64 0, .int .i64 0])], [], [], []⟩ .nil (by kernel_rfl) ?_
  refine Wk_seq ?_
  refine Wk_seq ?_
  obtain ⟨x, h0, hF⟩ := ob_elim hF
  refine WR [.callB (.agg [.int .i64 x.Code, .int .i64 x.At])] [1, 3, 5, 8, 9] [3, 5, 8, 9] [] [] [] [] ⟨[(1, .str from0), (3, .ptr 3 0), (5, .ptr 5 0), (8, .ptr 8 0), (9, .ptr 9 0)], [(3, [.sl 3 (l.map e_Part)]), (5, [.str to0]), (8, [.int .i64 0, .int .i64 0]), (9, [.int .i64 x.Code, .int .i64 x.At])], [], [], []⟩ (.cons (parts_Check_ok l x h0) .nil) (by kernel_rfl) ?_
  refine Wk_seq ?_
  refine WR [] [1, 3, 5, 8, 9, 25] [3, 5, 8, 9] [] [] [] [] ⟨[(1, .str from0), (3, .ptr 3 0), (5, .ptr 5 0), (8, .ptr 8 0), (9, .ptr 9 0), (25, .bool ((!decide (x.Code = 0)) || ((!decide (to0 = ([] : List UInt8))) && (!Op.bytesLess from0 to0))))], [(3, [.sl 3 (l.map e_Part)]), (5, [.str to0]), (8, [.int .i64 0, .int .i64 0]), (9, [.int .i64 x.Code, .int .i64 x.At])], [], [], []⟩ .nil (by kernel_rfl) ?_
  refine Wk_split rfl (fun hb => ?_) (fun hb => ?_)
  · have hF := ite_t hF hb
    refine Wk_seq ?_
    refine WD [] [6, 7, 8] [8] [] [] [] [] ⟨[(6, .int .i64 0), (7, .int .i64 0), (8, .ptr 8 0)], [(8, [.int .i64 x.Code, .int .i64 x.At])], [], [], []⟩ .nil (by kernel_rfl) ?_
    have hF := some_elim hF
    exact Wk_ret (hfin _ ⟨[], [], [], [], [], [], by first | (rw [← hF]; kernel_rfl) | kernel_rfl⟩)
  · have hF := ite_f hF hb
    refine Wk_skip ?_
    refine Wk_seq ?_
    obtain ⟨x1, h1, hF⟩ := ob_elim hF
    refine WD [.callB (.int .i64 x1), .nat (l.length : Int)] [3, 5, 8, 10, 11] [3, 5, 8] [] [] [] [] ⟨[(3, .ptr 3 0), (5, .ptr 5 0), (8, .ptr 8 0), (10, .int .i64 x1), (11, .int .i64 (l.length : Int))], [(3, [.sl 3 (l.map e_Part)]), (5, [.str to0]), (8, [.int .i64 0, .int .i64 0])], [], [], []⟩ (.cons (parts_find_ok l from0 x1 h1) (.cons (len_ok e_Part l) .nil)) (by kernel_rfl) ?_
    refine Wk_seq ?_
    refine Wk_seq ?_
    refine WR [] [3, 5, 8, 10, 11, 33] [3, 5, 8] [] [] [] [] ⟨[(3, .ptr 3 0), (5, .ptr 5 0), (8, .ptr 8 0), (10, .int .i64 x1), (11, .int .i64 (l.length : Int)), (33, .bool (!decide (to0 = ([] : List UInt8))))], [(3, [.sl 3 (l.map e_Part)]), (5, [.str to0]), (8, [.int .i64 0, .int .i64 0])], [], [], []⟩ .nil (by kernel_rfl) ?_
    obtain ⟨v, hv, hF⟩ := ob_elim hF
    refine Wk_meet (⟨[(8, .ptr 8 0), (10, .int .i64 x1), (11, .int .i64 v.2)], [(8, [.int .i64 v.1.Code, .int .i64 v.1.At])], [], [], []⟩ : S) ?_ ?_
    · have hF := hv
      refine Wk_split rfl (fun hb => ?_) (fun hb => ?_)
      · have hF := ite_t hF hb
        obtain ⟨x2, h2, hF⟩ := ob_elim hF
        refine WR [.nat (l.length : Int), .callR [3, 5] [] [] [] (.int .i64 x2)] [8, 10, 11] [8] [] [] [] [] ⟨[(8, .ptr 8 0), (10, .int .i64 x1), (11, .int .i64 x2)], [(8, [.int .i64 0, .int .i64 0])], [], [], []⟩ (.cons (len_ok e_Part l) (.cons (Pe.ren (sort_Search_v1_ok (l.length : Int) l to0 x2 h2) ⟨[(100000, 3), (100001, 5)], [], [], []⟩) .nil)) (by kernel_rfl) ?_
        exact Wk_met (fs := [8, 10, 11]) (bs := [8]) (rs := []) (ms := []) (aa := []) (nv := []) (by first | (rw [← some_elim hF]; kernel_rfl) | kernel_rfl)
      · have hF := ite_f hF hb
        refine Wk_skip ?_
        exact Wk_met (fs := [8, 10, 11]) (bs := [8]) (rs := []) (ms := []) (aa := []) (nv := []) (by first | (rw [← some_elim hF]; kernel_rfl) | kernel_rfl)
    · refine Wk_seq ?_
      refine WR [] [6, 7, 8] [8] [] [] [] [] ⟨[(6, .int .i64 x1), (7, .int .i64 (w64 (v.2 - x1))), (8, .ptr 8 0)], [(8, [.int .i64 0, .int .i64 0])], [], [], []⟩ .nil (by kernel_rfl) ?_
      have hF := some_elim hF
      exact Wk_ret (hfin _ ⟨[], [], [], [], [], [], by first | (rw [← hF]; kernel_rfl) | kernel_rfl⟩)

/- tabularylaw.PartsFinds -/
noncomputable def law_PartsFinds_J1 (x2 : Int × Fault) (x3 : Int × Int × Fault) (v : Int × Int × Int) : Option Bool :=
  lt (((decide (x2.1 = v.2.2)) && (decide (x3.1 = v.1))) && (decide (x3.2.1 = v.2.1))) fun (v1 : Bool) =>
  some v1
noncomputable def law_PartsFinds_J2 (l : List Part) (from0 : List UInt8) (to0 : List UInt8) (v2 : Int × Int × Int × Int) (v3 : Int) : Option ((Int × Int × Int × Int) ⊕ Bool) :=
  asrt (((decide (to0 = ([] : List UInt8))) || (Op.bytesLess from0 to0)) = true → 0 ≤ v2.2.2.2 ∧ v2.2.2.2 < (l.length : Int)) <|
  asrt ((!(decide (((lget l v2.2.2.2).To) = ([] : List UInt8)))) = true → ((decide (to0 = ([] : List UInt8))) || (Op.bytesLess from0 to0)) = true → 0 ≤ v2.2.2.2 ∧ v2.2.2.2 < (l.length : Int)) <|
  asrt ((!(decide (to0 = ([] : List UInt8)))) = true → (((decide (to0 = ([] : List UInt8))) || (Op.bytesLess from0 to0)) && ((decide (((lget l v2.2.2.2).To) = ([] : List UInt8))) || (Op.bytesLess from0 ((lget l v2.2.2.2).To)))) = true → 0 ≤ v2.2.2.2 ∧ v2.2.2.2 < (l.length : Int)) <|
  ob (
    if ((((decide (to0 = ([] : List UInt8))) || (Op.bytesLess from0 to0)) && ((decide (((lget l v2.2.2.2).To) = ([] : List UInt8))) || (Op.bytesLess from0 ((lget l v2.2.2.2).To)))) && ((decide (to0 = ([] : List UInt8))) || (Op.bytesLess ((lget l v2.2.2.2).From) to0))) = true then
      ob (
        if (decide (v2.2.1 = 0)) = true then
          some v2.2.2.2
        else
          some v2.1) fun (v5 : Int) =>
      some (v5, w64 (v2.2.1 + 1))
    else
      some (v2.1, v2.2.1)) fun (v4 : Int × Int) =>
  some (Sum.inl (v4.1, v4.2, v3, w64 (v2.2.2.2 + 1)))
noncomputable def law_PartsFinds_B1 (l : List Part) (row : List UInt8) (from0 : List UInt8) (to0 : List UInt8) (x2 : Int × Fault) (x3 : Int × Int × Fault) (v2 : Int × Int × Int × Int) : Option ((Int × Int × Int × Int) ⊕ Bool) :=
  if (decide (v2.2.2.2 < (l.length : Int))) = true then
    asrt (0 ≤ v2.2.2.2 ∧ v2.2.2.2 < (l.length : Int)) <|
    lt (R_InPart (⟨(lget l v2.2.2.2).From, (lget l v2.2.2.2).To, (lget l v2.2.2.2).ID⟩ : Part) row) fun x6 =>
    if x6 = true then
      if (decide (0 ≤ v2.2.2.1)) = true then
        some (Sum.inr false)
      else
        law_PartsFinds_J2 l from0 to0 v2 v2.2.2.2
    else
      law_PartsFinds_J2 l from0 to0 v2 v2.2.2.1
  else
    inrO (law_PartsFinds_J1 x2 x3 (v2.1, v2.2.1, v2.2.2.1))
noncomputable def law_PartsFinds_L1 (l : List Part) (row : List UInt8) (from0 : List UInt8) (to0 : List UInt8) (x2 : Int × Fault) (x3 : Int × Int × Fault) (v0 : Int × Int × Int × Int) : Option Bool :=
  loopO (fun y => law_PartsFinds_B1 l row from0 to0 x2 x3 y) v0
noncomputable def law_PartsFinds (l : List Part) (row : List UInt8) (from0 : List UInt8) (to0 : List UInt8) : Option Bool :=
  ob (law_partsBegun) fun x =>
  if (!x) = true then
    some false
  else
    if (decide (1000 < (l.length : Int))) = true then
      some true
    else
      ob (law_ownParts_v1 l) fun x1 =>
      ob (parts_Find x1 row) fun x2 =>
      ob (parts_Meet x1 from0 to0) fun x3 =>
      ob (R_PartsFault l) fun x4 =>
      ob (if (!((!(decide (x2.2.Code = x4.Code) && (decide (x2.2.At = x4.At) && true))) || (!(decide (x3.2.2.Code = x4.Code) && (decide (x3.2.2.At = x4.At) && true))))) = true then (R_SameParts x1 l) else some default) fun x5 =>
      if (((!(decide (x2.2.Code = x4.Code) && (decide (x2.2.At = x4.At) && true))) || (!(decide (x3.2.2.Code = x4.Code) && (decide (x3.2.2.At = x4.At) && true)))) || (!x5)) = true then
        some false
      else
        if (!decide (x4.Code = 0)) = true then
          some (((decide (x2.1 = 0)) && (decide (x3.1 = 0))) && (decide (x3.2.1 = 0)))
        else
          law_PartsFinds_L1 l row from0 to0 x2 x3 (0, 0, (-1), 0)
theorem law_PartsFinds_ok (l : List Part) (row : List UInt8) (from0 : List UInt8) (to0 : List UInt8) (r : Bool) (hF : law_PartsFinds l row from0 to0 = some r) : Pe Try.prog 4 S.none [.sl 3 (l.map e_Part), .str row, .str from0, .str to0] (.bool r) S.none := by
  refine Pe_of (N := 140) (res := [.tmp 8]) (ts := [4]) Ty.ok Fn.b4 Try.func4 rfl rfl rfl rfl rfl rfl ?_
  intro Q g hfin
  unfold law_PartsFinds at hF
  refine Wk_seq ?_
  refine WR [] [0, 1, 2, 3] [] [] [] [] [] ⟨[(0, .sl 3 (l.map e_Part)), (1, .str row), (2, .str from0), (3, .str to0)], [], [], [], []⟩ .nil (by kernel_rfl) ?_
  refine Wk_seq ?_
  refine Wk_seq ?_
  obtain ⟨x, h0, hF⟩ := ob_elim hF
  refine WR [.callB (.bool x)] [0, 1, 2, 3, 21] [] [] [] [] [] ⟨[(0, .sl 3 (l.map e_Part)), (1, .str row), (2, .str from0), (3, .str to0), (21, .bool (!x))], [], [], [], []⟩ (.cons (law_partsBegun_ok  x h0) .nil) (by kernel_rfl) ?_
  refine Wk_split rfl (fun hb => ?_) (fun hb => ?_)
  · have hF := ite_t hF hb
    refine Wk_seq ?_
    refine WR [] [8] [] [] [] [] [] ⟨[(8, .bool false)], [], [], [], []⟩ .nil (by kernel_rfl) ?_
    have hF := some_elim hF
    exact Wk_ret (hfin _ ⟨[], [], [], [], [], [], by first | (rw [← hF]; kernel_rfl) | kernel_rfl⟩)
  · have hF := ite_f hF hb
    refine Wk_skip ?_
    refine Wk_seq ?_
    refine Wk_seq ?_
    refine WR [.nat (l.length : Int)] [0, 1, 2, 3, 24] [] [] [] [] [] ⟨[(0, .sl 3 (l.map e_Part)), (1, .str row), (2, .str from0), (3, .str to0), (24, .bool (decide (1000 < (l.length : Int))))], [], [], [], []⟩ (.cons (len_ok e_Part l) .nil) (by kernel_rfl) ?_
    refine Wk_split rfl (fun hb => ?_) (fun hb => ?_)
    · have hF := ite_t hF hb
      refine Wk_seq ?_
      refine WR [] [8] [] [] [] [] [] ⟨[(8, .bool true)], [], [], [], []⟩ .nil (by kernel_rfl) ?_
      have hF := some_elim hF
      exact Wk_ret (hfin _ ⟨[], [], [], [], [], [], by first | (rw [← hF]; kernel_rfl) | kernel_rfl⟩)
    · have hF := ite_f hF hb
      refine Wk_skip ?_
      refine Wk_seq ?_
      obtain ⟨x1, h1, hF⟩ := ob_elim hF
      refine WR [.call (.sl 3 (x1.map e_Part))] [0, 1, 2, 3, 9] [] [] [] [] [] ⟨[(0, .sl 3 (l.map e_Part)), (1, .str row), (2, .str from0), (3, .str to0), (9, .sl 3 (x1.map e_Part))], [], [], [], []⟩ (.cons (law_ownParts_v1_ok l x1 h1) .nil) (by kernel_rfl) ?_
      refine Wk_seq ?_
      obtain ⟨x2, h2, hF⟩ := ob_elim hF
      refine WR [.callB (.tup [.int .i64 x2.1, .agg [.int .i64 x2.2.Code, .int .i64 x2.2.At]])] [0, 1, 2, 3, 9, 10, 11] [11] [] [] [] [] ⟨[(0, .sl 3 (l.map e_Part)), (1, .str row), (2, .str from0), (3, .str to0), (9, .sl 3 (x1.map e_Part)), (10, .int .i64 x2.1), (11, .ptr 11 0)], [(11, [.int .i64 x2.2.Code, .int .i64 x2.2.At])], [], [], []⟩ (.cons (parts_Find_ok x1 row x2 h2) .nil) (by kernel_rfl) ?_
      refine Wk_seq ?_
      obtain ⟨x3, h3, hF⟩ := ob_elim hF
      refine WR [.callB (.tup [.int .i64 x3.1, .int .i64 x3.2.1, .agg [.int .i64 x3.2.2.Code, .int .i64 x3.2.2.At]])] [0, 1, 2, 3, 9, 10, 11, 12, 13, 14] [11, 14] [] [] [] [] ⟨[(0, .sl 3 (l.map e_Part)), (1, .str row), (2, .str from0), (3, .str to0), (9, .sl 3 (x1.map e_Part)), (10, .int .i64 x2.1), (11, .ptr 11 0), (12, .int .i64 x3.1), (13, .int .i64 x3.2.1), (14, .ptr 14 0)], [(11, [.int .i64 x2.2.Code, .int .i64 x2.2.At]), (14, [.int .i64 x3.2.2.Code, .int .i64 x3.2.2.At])], [], [], []⟩ (.cons (parts_Meet_ok x1 from0 to0 x3 h3) .nil) (by kernel_rfl) ?_
      refine Wk_seq ?_
      obtain ⟨x4, h4, hF⟩ := ob_elim hF
      refine WR [.callB (.agg [.int .i64 x4.Code, .int .i64 x4.At])] [0, 1, 2, 3, 9, 10, 11, 12, 13, 14, 15] [11, 14, 15] [] [] [] [] ⟨[(0, .sl 3 (l.map e_Part)), (1, .str row), (2, .str from0), (3, .str to0), (9, .sl 3 (x1.map e_Part)), (10, .int .i64 x2.1), (11, .ptr 11 0), (12, .int .i64 x3.1), (13, .int .i64 x3.2.1), (14, .ptr 14 0), (15, .ptr 15 0)], [(11, [.int .i64 x2.2.Code, .int .i64 x2.2.At]), (14, [.int .i64 x3.2.2.Code, .int .i64 x3.2.2.At]), (15, [.int .i64 x4.Code, .int .i64 x4.At])], [], [], []⟩ (.cons (R_PartsFault_ok l x4 h4) .nil) (by kernel_rfl) ?_
      refine Wk_seq ?_
      refine Wk_seq ?_
      obtain ⟨x5, h5, hF⟩ := ob_elim hF
      refine WR [.callB (.bool x5)] [0, 1, 2, 3, 10, 12, 13, 15, 56] [15] [] [] [] [] ⟨[(0, .sl 3 (l.map e_Part)), (1, .str row), (2, .str from0), (3, .str to0), (10, .int .i64 x2.1), (12, .int .i64 x3.1), (13, .int .i64 x3.2.1), (15, .ptr 15 0), (56, .bool (((!(decide (x2.2.Code = x4.Code) && (decide (x2.2.At = x4.At) && true))) || (!(decide (x3.2.2.Code = x4.Code) && (decide (x3.2.2.At = x4.At) && true)))) || (!x5)))], [(15, [.int .i64 x4.Code, .int .i64 x4.At])], [], [], []⟩ (.cons (fun (ga0 : (!((!(decide (x2.2.Code = x4.Code) && (decide (x2.2.At = x4.At) && true))) || (!(decide (x3.2.2.Code = x4.Code) && (decide (x3.2.2.At = x4.At) && true))))) = true) => (R_SameParts_ok x1 l x5 (ite_t h5 ga0))) .nil) (by kernel_rfl) ?_
      refine Wk_split rfl (fun hb => ?_) (fun hb => ?_)
      · have hF := ite_t hF hb
        refine Wk_seq ?_
        refine WR [] [8] [] [] [] [] [] ⟨[(8, .bool false)], [], [], [], []⟩ .nil (by kernel_rfl) ?_
        have hF := some_elim hF
        exact Wk_ret (hfin _ ⟨[], [], [], [], [], [], by first | (rw [← hF]; kernel_rfl) | kernel_rfl⟩)
      · have hF := ite_f hF hb
        refine Wk_skip ?_
        refine Wk_seq ?_
        refine Wk_seq ?_
        refine WR [] [0, 1, 2, 3, 10, 12, 13, 59] [] [] [] [] [] ⟨[(0, .sl 3 (l.map e_Part)), (1, .str row), (2, .str from0), (3, .str to0), (10, .int .i64 x2.1), (12, .int .i64 x3.1), (13, .int .i64 x3.2.1), (59, .bool (!decide (x4.Code = 0)))], [], [], [], []⟩ .nil (by kernel_rfl) ?_
        refine Wk_split rfl (fun hb => ?_) (fun hb => ?_)
        · have hF := ite_t hF hb
          refine Wk_seq ?_
          refine WR [] [8] [] [] [] [] [] ⟨[(8, .bool (((decide (x2.1 = 0)) && (decide (x3.1 = 0))) && (decide (x3.2.1 = 0))))], [], [], [], []⟩ .nil (by kernel_rfl) ?_
          have hF := some_elim hF
          exact Wk_ret (hfin _ ⟨[], [], [], [], [], [], by first | (rw [← hF]; kernel_rfl) | kernel_rfl⟩)
        · have hF := ite_f hF hb
          refine Wk_skip ?_
          refine Wk_seq ?_
          refine WR [] [0, 1, 2, 3, 10, 12, 13, 16, 17, 18] [] [] [] [] [] ⟨[(0, .sl 3 (l.map e_Part)), (1, .str row), (2, .str from0), (3, .str to0), (10, .int .i64 x2.1), (12, .int .i64 x3.1), (13, .int .i64 x3.2.1), (16, .int .i64 0), (17, .int .i64 0), (18, .int .i64 (-1))], [], [], [], []⟩ .nil (by kernel_rfl) ?_
          refine Wk_seq ?_
          refine Wk_seq ?_
          refine WR [] [0, 1, 2, 3, 10, 12, 13, 16, 17, 18, 19] [] [] [] [] [] ⟨[(0, .sl 3 (l.map e_Part)), (1, .str row), (2, .str from0), (3, .str to0), (10, .int .i64 x2.1), (12, .int .i64 x3.1), (13, .int .i64 x3.2.1), (16, .int .i64 0), (17, .int .i64 0), (18, .int .i64 (-1)), (19, .int .i64 0)], [], [], [], []⟩ .nil (by kernel_rfl) ?_
          refine Wk_meetP (fun v : Int × Int × Int => (⟨[(10, .int .i64 x2.1), (12, .int .i64 x3.1), (13, .int .i64 x3.2.1), (16, .int .i64 v.1), (17, .int .i64 v.2.1), (18, .int .i64 v.2.2)], [], [], [], []⟩ : S)) (fun v => law_PartsFinds_J1 x2 x3 v = some r) ?_ ?_
          · refine Wk_block ?_
            unfold law_PartsFinds_L1 at hF
            refine Wk_trim (fs := [0, 1, 2, 3, 10, 12, 13, 16, 17, 18, 19]) (bs := []) (rs := []) (ms := []) (aa := []) (nv := []) (t := (fun v2 : Int × Int × Int × Int => (⟨[(0, .sl 3 (l.map e_Part)), (1, .str row), (2, .str from0), (3, .str to0), (10, .int .i64 x2.1), (12, .int .i64 x3.1), (13, .int .i64 x3.2.1), (16, .int .i64 v2.1), (17, .int .i64 v2.2.1), (18, .int .i64 v2.2.2.1), (19, .int .i64 v2.2.2.2)], [], [], [], []⟩ : S)) (0, 0, (-1), 0)) (by kernel_rfl) ?_
            refine Wk_iter (step := fun y => law_PartsFinds_B1 l row from0 to0 x2 x3 y) (r := r) (fun v2 : Int × Int × Int × Int => (⟨[(0, .sl 3 (l.map e_Part)), (1, .str row), (2, .str from0), (3, .str to0), (10, .int .i64 x2.1), (12, .int .i64 x3.1), (13, .int .i64 x3.2.1), (16, .int .i64 v2.1), (17, .int .i64 v2.2.1), (18, .int .i64 v2.2.2.1), (19, .int .i64 v2.2.2.2)], [], [], [], []⟩ : S)) (0, 0, (-1), 0) hF ?_
            intro n1 v2 y1 hF ih1 dn1
            have hF : law_PartsFinds_B1 l row from0 to0 x2 x3 v2 = some y1 := hF
            unfold law_PartsFinds_B1 at hF
            refine Wk_seq ?_
            refine Wk_seq ?_
            refine WR [.nat (l.length : Int)] [0, 1, 2, 3, 10, 12, 13, 16, 17, 18, 19, 73] [] [] [] [] [] ⟨[(0, .sl 3 (l.map e_Part)), (1, .str row), (2, .str from0), (3, .str to0), (10, .int .i64 x2.1), (12, .int .i64 x3.1), (13, .int .i64 x3.2.1), (16, .int .i64 v2.1), (17, .int .i64 v2.2.1), (18, .int .i64 v2.2.2.1), (19, .int .i64 v2.2.2.2), (73, .bool (decide (v2.2.2.2 < (l.length : Int))))], [], [], [], []⟩ (.cons (len_ok e_Part l) .nil) (by kernel_rfl) ?_
            refine Wk_split rfl (fun hb => ?_) (fun hb => ?_)
            · have hF := ite_t hF hb
              refine Wk_skip ?_
              refine Wk_seq ?_
              refine Wk_block ?_
              refine Wk_seq ?_
              refine Wk_seq ?_
              obtain ⟨h6, hF⟩ := asrt_elim hF
              obtain ⟨x6, h7, hF⟩ := lt_split hF
              refine WR [.av (e_Part (lget l v2.2.2.2)), .callB (.bool x6)] [0, 1, 2, 3, 10, 12, 13, 16, 17, 18, 19, 81] [] [] [] [] [] ⟨[(0, .sl 3 (l.map e_Part)), (1, .str row), (2, .str from0), (3, .str to0), (10, .int .i64 x2.1), (12, .int .i64 x3.1), (13, .int .i64 x3.2.1), (16, .int .i64 v2.1), (17, .int .i64 v2.2.1), (18, .int .i64 v2.2.2.1), (19, .int .i64 v2.2.2.2), (81, .bool x6)], [], [], [], []⟩ (.cons (idx_ok e_Part h6) (.cons (R_InPart_ok (⟨(lget l v2.2.2.2).From, (lget l v2.2.2.2).To, (lget l v2.2.2.2).ID⟩ : Part) row x6 h7) .nil)) (by kernel_rfl) ?_
              refine Wk_meetP (fun v3 : Int => (⟨[(0, .sl 3 (l.map e_Part)), (1, .str row), (2, .str from0), (3, .str to0), (10, .int .i64 x2.1), (12, .int .i64 x3.1), (13, .int .i64 x3.2.1), (16, .int .i64 v2.1), (17, .int .i64 v2.2.1), (18, .int .i64 v3), (19, .int .i64 v2.2.2.2)], [], [], [], []⟩ : S)) (fun v3 => law_PartsFinds_J2 l from0 to0 v2 v3 = some y1) ?_ ?_
              · refine Wk_split rfl (fun hb => ?_) (fun hb => ?_)
                · have hF := ite_t hF hb
                  refine Wk_seq ?_
                  refine Wk_seq ?_
                  refine WR [] [0, 1, 2, 3, 10, 12, 13, 16, 17, 19, 83] [] [] [] [] [] ⟨[(0, .sl 3 (l.map e_Part)), (1, .str row), (2, .str from0), (3, .str to0), (10, .int .i64 x2.1), (12, .int .i64 x3.1), (13, .int .i64 x3.2.1), (16, .int .i64 v2.1), (17, .int .i64 v2.2.1), (19, .int .i64 v2.2.2.2), (83, .bool (decide (0 ≤ v2.2.2.1)))], [], [], [], []⟩ .nil (by kernel_rfl) ?_
                  refine Wk_split rfl (fun hb => ?_) (fun hb => ?_)
                  · have hF := ite_t hF hb
                    refine Wk_seq ?_
                    refine WR [] [8] [] [] [] [] [] ⟨[(8, .bool false)], [], [], [], []⟩ .nil (by kernel_rfl) ?_
                    have hF := ret_done hF dn1
                    have hF := some_elim hF
                    exact Wk_ret (hfin _ ⟨[], [], [], [], [], [], by first | (rw [← hF]; kernel_rfl) | kernel_rfl⟩)
                  · have hF := ite_f hF hb
                    refine Wk_skip ?_
                    refine WR [] [0, 1, 2, 3, 10, 12, 13, 16, 17, 18, 19] [] [] [] [] [] ⟨[(0, .sl 3 (l.map e_Part)), (1, .str row), (2, .str from0), (3, .str to0), (10, .int .i64 x2.1), (12, .int .i64 x3.1), (13, .int .i64 x3.2.1), (16, .int .i64 v2.1), (17, .int .i64 v2.2.1), (18, .int .i64 v2.2.2.2), (19, .int .i64 v2.2.2.2)], [], [], [], []⟩ .nil (by kernel_rfl) ?_
                    exact Wk_metP v2.2.2.2 [0, 1, 2, 3, 10, 12, 13, 16, 17, 18, 19] [] [] [] [] [] hF (by kernel_rfl)
                · have hF := ite_f hF hb
                  refine Wk_skip ?_
                  exact Wk_metP v2.2.2.1 [0, 1, 2, 3, 10, 12, 13, 16, 17, 18, 19] [] [] [] [] [] hF (by kernel_rfl)
              · intro v3 hF
                have hF : law_PartsFinds_J2 l from0 to0 v2 v3 = some y1 := hF
                unfold law_PartsFinds_J2 at hF
                refine Wk_seq ?_
                obtain ⟨h8, hF⟩ := asrt_elim hF
                obtain ⟨h9, hF⟩ := asrt_elim hF
                obtain ⟨h10, hF⟩ := asrt_elim hF
                refine WR [.av (e_Part (lget l v2.2.2.2)), .av (e_Part (lget l v2.2.2.2)), .av (e_Part (lget l v2.2.2.2))] [0, 1, 2, 3, 10, 12, 13, 16, 17, 18, 19, 121] [] [] [] [] [] ⟨[(0, .sl 3 (l.map e_Part)), (1, .str row), (2, .str from0), (3, .str to0), (10, .int .i64 x2.1), (12, .int .i64 x3.1), (13, .int .i64 x3.2.1), (16, .int .i64 v2.1), (17, .int .i64 v2.2.1), (18, .int .i64 v3), (19, .int .i64 v2.2.2.2), (121, .bool ((((decide (to0 = ([] : List UInt8))) || (Op.bytesLess from0 to0)) && ((decide (((lget l v2.2.2.2).To) = ([] : List UInt8))) || (Op.bytesLess from0 ((lget l v2.2.2.2).To)))) && ((decide (to0 = ([] : List UInt8))) || (Op.bytesLess ((lget l v2.2.2.2).From) to0))))], [], [], [], []⟩ (.cons (fun (ga0 : ((decide (to0 = ([] : List UInt8))) || (Op.bytesLess from0 to0)) = true) => (idx_ok e_Part (h8 ga0))) (.cons (fun (ga0 : (!(decide (((lget l v2.2.2.2).To) = ([] : List UInt8)))) = true) (ga1 : ((decide (to0 = ([] : List UInt8))) || (Op.bytesLess from0 to0)) = true) => (idx_ok e_Part (h9 ga0 ga1))) (.cons (fun (ga0 : (!(decide (to0 = ([] : List UInt8)))) = true) (ga1 : (((decide (to0 = ([] : List UInt8))) || (Op.bytesLess from0 to0)) && ((decide (((lget l v2.2.2.2).To) = ([] : List UInt8))) || (Op.bytesLess from0 ((lget l v2.2.2.2).To)))) = true) => (idx_ok e_Part (h10 ga0 ga1))) .nil))) (by kernel_rfl) ?_
                obtain ⟨v4, hv, hF⟩ := ob_elim hF
                refine Wk_meet (⟨[(0, .sl 3 (l.map e_Part)), (1, .str row), (2, .str from0), (3, .str to0), (10, .int .i64 x2.1), (12, .int .i64 x3.1), (13, .int .i64 x3.2.1), (16, .int .i64 v4.1), (17, .int .i64 v4.2), (18, .int .i64 v3), (19, .int .i64 v2.2.2.2)], [], [], [], []⟩ : S) ?_ ?_
                · have hF := hv
                  refine Wk_split rfl (fun hb => ?_) (fun hb => ?_)
                  · have hF := ite_t hF hb
                    refine Wk_seq ?_
                    refine Wk_seq ?_
                    refine WR [] [0, 1, 2, 3, 10, 12, 13, 16, 17, 18, 19, 123] [] [] [] [] [] ⟨[(0, .sl 3 (l.map e_Part)), (1, .str row), (2, .str from0), (3, .str to0), (10, .int .i64 x2.1), (12, .int .i64 x3.1), (13, .int .i64 x3.2.1), (16, .int .i64 v2.1), (17, .int .i64 v2.2.1), (18, .int .i64 v3), (19, .int .i64 v2.2.2.2), (123, .bool (decide (v2.2.1 = 0)))], [], [], [], []⟩ .nil (by kernel_rfl) ?_
                    obtain ⟨v5, hv, hF⟩ := ob_elim hF
                    refine Wk_meet (⟨[(0, .sl 3 (l.map e_Part)), (1, .str row), (2, .str from0), (3, .str to0), (10, .int .i64 x2.1), (12, .int .i64 x3.1), (13, .int .i64 x3.2.1), (16, .int .i64 v5), (17, .int .i64 v2.2.1), (18, .int .i64 v3), (19, .int .i64 v2.2.2.2)], [], [], [], []⟩ : S) ?_ ?_
                    · have hF := hv
                      refine Wk_split rfl (fun hb => ?_) (fun hb => ?_)
                      · have hF := ite_t hF hb
                        refine WR [] [0, 1, 2, 3, 10, 12, 13, 16, 17, 18, 19] [] [] [] [] [] ⟨[(0, .sl 3 (l.map e_Part)), (1, .str row), (2, .str from0), (3, .str to0), (10, .int .i64 x2.1), (12, .int .i64 x3.1), (13, .int .i64 x3.2.1), (16, .int .i64 v2.2.2.2), (17, .int .i64 v2.2.1), (18, .int .i64 v3), (19, .int .i64 v2.2.2.2)], [], [], [], []⟩ .nil (by kernel_rfl) ?_
                        exact Wk_met (fs := [0, 1, 2, 3, 10, 12, 13, 16, 17, 18, 19]) (bs := []) (rs := []) (ms := []) (aa := []) (nv := []) (by first | (rw [← some_elim hF]; kernel_rfl) | kernel_rfl)
                      · have hF := ite_f hF hb
                        refine Wk_skip ?_
                        exact Wk_met (fs := [0, 1, 2, 3, 10, 12, 13, 16, 17, 18, 19]) (bs := []) (rs := []) (ms := []) (aa := []) (nv := []) (by first | (rw [← some_elim hF]; kernel_rfl) | kernel_rfl)
                    · refine WR [] [0, 1, 2, 3, 10, 12, 13, 16, 17, 18, 19] [] [] [] [] [] ⟨[(0, .sl 3 (l.map e_Part)), (1, .str row), (2, .str from0), (3, .str to0), (10, .int .i64 x2.1), (12, .int .i64 x3.1), (13, .int .i64 x3.2.1), (16, .int .i64 v5), (17, .int .i64 (w64 (v2.2.1 + 1))), (18, .int .i64 v3), (19, .int .i64 v2.2.2.2)], [], [], [], []⟩ .nil (by kernel_rfl) ?_
                      exact Wk_met (fs := [0, 1, 2, 3, 10, 12, 13, 16, 17, 18, 19]) (bs := []) (rs := []) (ms := []) (aa := []) (nv := []) (by first | (rw [← some_elim hF]; kernel_rfl) | kernel_rfl)
                  · have hF := ite_f hF hb
                    refine Wk_skip ?_
                    exact Wk_met (fs := [0, 1, 2, 3, 10, 12, 13, 16, 17, 18, 19]) (bs := []) (rs := []) (ms := []) (aa := []) (nv := []) (by first | (rw [← some_elim hF]; kernel_rfl) | kernel_rfl)
                · refine Wk_blk ?_
                  refine WR [] [0, 1, 2, 3, 10, 12, 13, 16, 17, 18, 19] [] [] [] [] [] ⟨[(0, .sl 3 (l.map e_Part)), (1, .str row), (2, .str from0), (3, .str to0), (10, .int .i64 x2.1), (12, .int .i64 x3.1), (13, .int .i64 x3.2.1), (16, .int .i64 v4.1), (17, .int .i64 v4.2), (18, .int .i64 v3), (19, .int .i64 (w64 (v2.2.2.2 + 1)))], [], [], [], []⟩ .nil (by kernel_rfl) ?_
                  refine Wk_trim (fs := [0, 1, 2, 3, 10, 12, 13, 16, 17, 18, 19]) (bs := []) (rs := []) (ms := []) (aa := []) (nv := []) ?_ (ih1 _ (some_elim hF).symm)
                  kernel_rfl
            · have hF := ite_f hF hb
              refine Wk_exit rfl ?_
              have hF := inrO_done hF dn1
              exact Wk_metP (v2.1, v2.2.1, v2.2.2.1) [10, 12, 13, 16, 17, 18] [] [] [] [] [] hF (by kernel_rfl)
          · intro v hF
            have hF : law_PartsFinds_J1 x2 x3 v = some r := hF
            unfold law_PartsFinds_J1 at hF
            refine Wk_seq ?_
            refine WRL (((decide (x2.1 = v.2.2)) && (decide (x3.1 = v.1))) && (decide (x3.2.1 = v.2.1))) (fun v1 : Bool => ⟨[(8, .bool v1)], [], [], [], []⟩) [] [8] [] [] [] [] [] .nil (by kernel_rfl) (fun v1 hv => ?_)
            have hF := lt_elim hF hv
            have hF := some_elim hF
            exact Wk_ret (hfin _ ⟨[], [], [], [], [], [], by first | (rw [← hF]; kernel_rfl) | kernel_rfl⟩)

end G
end Go.Proofs.Ytdjlninhfndjfaa
