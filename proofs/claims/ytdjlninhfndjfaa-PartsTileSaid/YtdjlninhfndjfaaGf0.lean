/- The program's functions as plain functions, and that they are these. Written by a program (dec2.py). -/
import Derived.Test.YtdjlninhfndjfaaTys
namespace Go.Proofs.Ytdjlninhfndjfaa
open Go Go.Dm
set_option linter.unusedVariables false
set_option linter.unusedSimpArgs false
set_option maxRecDepth 100000
namespace G
/- parts.fault -/
noncomputable def parts_fault (code : Int) (at0 : Int) : Fault :=
  (⟨code, at0⟩ : Fault)
theorem parts_fault_ok (code : Int) (at0 : Int) (r : Fault) (hF : parts_fault code at0 = r) : Pe Try.prog 68 S.none [.int .i64 code, .int .i64 at0] (.agg [.int .i64 r.Code, .int .i64 r.At]) S.none := by
  refine Pe_of (N := 8) (res := [.cell 4 26]) (ts := [26]) Ty.ok Fn.b68 Try.func68 rfl rfl rfl rfl rfl rfl ?_
  intro Q g hfin
  unfold parts_fault at hF
  refine Wk_seq ?_
  refine WR [] [0, 1, 4] [4] [] [] [] [] ⟨[(0, .int .i64 code), (1, .int .i64 at0), (4, .ptr 4 0)], [(4, [.int .i64 0, .int .i64 0])], [], [], []⟩ .nil (by kernel_rfl) ?_
  refine Wk_seq ?_
  refine WR [] [4] [4] [] [] [] [] ⟨[(4, .ptr 4 0)], [(4, [.int .i64 code, .int .i64 at0])], [], [], []⟩ .nil (by kernel_rfl) ?_
  exact Wk_ret (hfin _ ⟨[], [], [], [], [], [], by first | (rw [← hF]; kernel_rfl) | kernel_rfl⟩)

/- parts.number -/
noncomputable def parts_number (num : Int) : Bool :=
  (decide (0 ≤ num)) && (decide (num ≤ 1000000000))
theorem parts_number_ok (num : Int) (r : Bool) (hF : parts_number num = r) : Pe Try.prog 69 S.none [.int .i64 num] (.bool r) S.none := by
  refine Pe_of (N := 9) (res := [.tmp 2]) (ts := [4]) Ty.ok Fn.b69 Try.func69 rfl rfl rfl rfl rfl rfl ?_
  intro Q g hfin
  unfold parts_number at hF
  refine Wk_seq ?_
  refine WR [] [0] [] [] [] [] [] ⟨[(0, .int .i64 num)], [], [], [], []⟩ .nil (by kernel_rfl) ?_
  refine Wk_seq ?_
  refine WR [] [2] [] [] [] [] [] ⟨[(2, .bool ((decide (0 ≤ num)) && (decide (num ≤ 1000000000))))], [], [], [], []⟩ .nil (by kernel_rfl) ?_
  exact Wk_ret (hfin _ ⟨[], [], [], [], [], [], by first | (rw [← hF]; kernel_rfl) | kernel_rfl⟩)

/- parts.Check -/
noncomputable def parts_Check_J1 (v : Fault) : Option Fault :=
  some (⟨0, 0⟩ : Fault)
noncomputable def parts_Check_B1 (l : List Part) (v1 : Fault × (List (Int × Int)) × List UInt8 × Int) : Option ((Fault × (List (Int × Int)) × List UInt8 × Int) ⊕ Fault) :=
  if (decide (v1.2.2.2 < (l.length : Int))) = true then
    asrt (0 ≤ v1.2.2.2 ∧ v1.2.2.2 < (l.length : Int)) <|
    if ((decide (40 < (((lget l v1.2.2.2).From).length : Int))) || (decide (40 < (((lget l v1.2.2.2).To).length : Int)))) = true then
      lt (parts_fault 8 v1.2.2.2) fun x2 =>
      some (Sum.inr x2)
    else
      lt (parts_number ((lget l v1.2.2.2).ID)) fun x3 =>
      if (!x3) = true then
        lt (parts_fault 3 v1.2.2.2) fun x4 =>
        some (Sum.inr x4)
      else
        if (((!decide (((lget l v1.2.2.2).From) = v1.2.2.1)) || (!((decide (v1.2.2.2 = (w64 ((l.length : Int) - 1)))) == (decide (((lget l v1.2.2.2).To) = ([] : List UInt8)))))) || ((!(decide (v1.2.2.2 = (w64 ((l.length : Int) - 1))))) && (!Op.bytesLess ((lget l v1.2.2.2).From) ((lget l v1.2.2.2).To)))) = true then
          lt (parts_fault 5 v1.2.2.2) fun x5 =>
          some (Sum.inr x5)
        else
          if (decide (0 < ((mget v1.2.1 ((lget l v1.2.2.2).ID)).getD (0 : Int)))) = true then
            lt (parts_fault 10 v1.2.2.2) fun x6 =>
            some (Sum.inr x6)
          else
            some (Sum.inl (v1.1, (mput v1.2.1 ((lget l v1.2.2.2).ID) (1 : Int)), (lget l v1.2.2.2).To, w64 (v1.2.2.2 + 1)))
  else
    inrO (parts_Check_J1 v1.1)
noncomputable def parts_Check_L1 (l : List Part) (v0 : Fault × (List (Int × Int)) × List UInt8 × Int) : Option Fault :=
  loopO (fun y => parts_Check_B1 l y) v0
noncomputable def parts_Check (l : List Part) : Option Fault :=
  if (decide ((l.length : Int) = 0)) = true then
    lt (parts_fault 6 (-1)) fun x =>
    some x
  else
    if (decide (200 < (l.length : Int))) = true then
      lt (parts_fault 2 (-1)) fun x1 =>
      some x1
    else
      parts_Check_L1 l ((⟨0, 0⟩ : Fault), ([] : List (Int × Int)), ([] : List UInt8), 0)
theorem parts_Check_ok (l : List Part) (r : Fault) (hF : parts_Check l = some r) : Pe Try.prog 17 S.none [.sl 3 (l.map e_Part)] (.agg [.int .i64 r.Code, .int .i64 r.At]) S.none := by
  refine Pe_of (N := 89) (res := [.cell 2 26]) (ts := [26]) Ty.ok Fn.b17 Try.func17 rfl rfl rfl rfl rfl rfl ?_
  intro Q g hfin
  unfold parts_Check at hF
  refine Wk_seq ?_
  refine WR [] [0, 2] [2] [] [] [] [] ⟨[(0, .sl 3 (l.map e_Part)), (2, .ptr 2 0)], [(2, [.int .i64 0, .int .i64 0])], [], [], []⟩ .nil (by kernel_rfl) ?_
  refine Wk_seq ?_
  refine Wk_seq ?_
  refine WR [.nat (l.length : Int)] [0, 2, 10] [2] [] [] [] [] ⟨[(0, .sl 3 (l.map e_Part)), (2, .ptr 2 0), (10, .bool (decide ((l.length : Int) = 0)))], [(2, [.int .i64 0, .int .i64 0])], [], [], []⟩ (.cons (len_ok e_Part l) .nil) (by kernel_rfl) ?_
  refine Wk_split rfl (fun hb => ?_) (fun hb => ?_)
  · have hF := ite_t hF hb
    refine Wk_seq ?_
    obtain ⟨x, h0, hF⟩ := lt_split hF
    refine WR [.callB (.agg [.int .i64 x.Code, .int .i64 x.At])] [2] [2] [] [] [] [] ⟨[(2, .ptr 2 0)], [(2, [.int .i64 x.Code, .int .i64 x.At])], [], [], []⟩ (.cons (parts_fault_ok 6 (-1) x h0) .nil) (by kernel_rfl) ?_
    have hF := some_elim hF
    exact Wk_ret (hfin _ ⟨[], [], [], [], [], [], by first | (rw [← hF]; kernel_rfl) | kernel_rfl⟩)
  · have hF := ite_f hF hb
    refine Wk_skip ?_
    refine Wk_seq ?_
    refine Wk_seq ?_
    refine WR [.nat (l.length : Int)] [0, 2, 14] [2] [] [] [] [] ⟨[(0, .sl 3 (l.map e_Part)), (2, .ptr 2 0), (14, .bool (decide (200 < (l.length : Int))))], [(2, [.int .i64 0, .int .i64 0])], [], [], []⟩ (.cons (len_ok e_Part l) .nil) (by kernel_rfl) ?_
    refine Wk_split rfl (fun hb => ?_) (fun hb => ?_)
    · have hF := ite_t hF hb
      refine Wk_seq ?_
      obtain ⟨x1, h1, hF⟩ := lt_split hF
      refine WR [.callB (.agg [.int .i64 x1.Code, .int .i64 x1.At])] [2] [2] [] [] [] [] ⟨[(2, .ptr 2 0)], [(2, [.int .i64 x1.Code, .int .i64 x1.At])], [], [], []⟩ (.cons (parts_fault_ok 2 (-1) x1 h1) .nil) (by kernel_rfl) ?_
      have hF := some_elim hF
      exact Wk_ret (hfin _ ⟨[], [], [], [], [], [], by first | (rw [← hF]; kernel_rfl) | kernel_rfl⟩)
    · have hF := ite_f hF hb
      refine Wk_skip ?_
      refine Wk_seq ?_
      refine WR [] [0, 2, 3] [2] [] [16] [] [] ⟨[(0, .sl 3 (l.map e_Part)), (2, .ptr 2 0), (3, .mp 16)], [(2, [.int .i64 0, .int .i64 0])], [], [(16, (([] : List (Int × Int)).map (fun p => (e_i64 p.1, e_i64 p.2))))], []⟩ .nil (by kernel_rfl) ?_
      refine Wk_seq ?_
      refine WR [] [0, 2, 3, 4] [2] [] [16] [] [] ⟨[(0, .sl 3 (l.map e_Part)), (2, .ptr 2 0), (3, .mp 16), (4, .str ([] : List UInt8))], [(2, [.int .i64 0, .int .i64 0])], [], [(16, (([] : List (Int × Int)).map (fun p => (e_i64 p.1, e_i64 p.2))))], []⟩ .nil (by kernel_rfl) ?_
      refine Wk_seq ?_
      refine Wk_seq ?_
      refine WR [.nat (l.length : Int)] [0, 2, 3, 4, 17, 18, 19] [2] [] [16] [] [] ⟨[(0, .sl 3 (l.map e_Part)), (2, .ptr 2 0), (3, .mp 16), (4, .str ([] : List UInt8)), (17, .sl 3 (l.map e_Part)), (18, .int .i64 (l.length : Int)), (19, .int .i64 0)], [(2, [.int .i64 0, .int .i64 0])], [], [(16, (([] : List (Int × Int)).map (fun p => (e_i64 p.1, e_i64 p.2))))], []⟩ (.cons (len_ok e_Part l) .nil) (by kernel_rfl) ?_
      refine Wk_meetP (fun v : Fault => (⟨[(2, .ptr 2 0)], [(2, [.int .i64 v.Code, .int .i64 v.At])], [], [], []⟩ : S)) (fun v => parts_Check_J1 v = some r) ?_ ?_
      · refine Wk_block ?_
        unfold parts_Check_L1 at hF
        refine Wk_trim (fs := [0, 2, 3, 4, 17, 18, 19]) (bs := [2]) (rs := []) (ms := [16]) (aa := []) (nv := []) (t := (fun v1 : Fault × (List (Int × Int)) × List UInt8 × Int => (⟨[(0, .sl 3 (l.map e_Part)), (2, .ptr 2 0), (3, .mp 16), (4, .str v1.2.2.1), (17, .sl 3 (l.map e_Part)), (18, .int .i64 (l.length : Int)), (19, .int .i64 v1.2.2.2)], [(2, [.int .i64 v1.1.Code, .int .i64 v1.1.At])], [], [(16, (v1.2.1.map (fun p => (e_i64 p.1, e_i64 p.2))))], []⟩ : S)) ((⟨0, 0⟩ : Fault), ([] : List (Int × Int)), ([] : List UInt8), 0)) (by kernel_rfl) ?_
        refine Wk_iter (step := fun y => parts_Check_B1 l y) (r := r) (fun v1 : Fault × (List (Int × Int)) × List UInt8 × Int => (⟨[(0, .sl 3 (l.map e_Part)), (2, .ptr 2 0), (3, .mp 16), (4, .str v1.2.2.1), (17, .sl 3 (l.map e_Part)), (18, .int .i64 (l.length : Int)), (19, .int .i64 v1.2.2.2)], [(2, [.int .i64 v1.1.Code, .int .i64 v1.1.At])], [], [(16, (v1.2.1.map (fun p => (e_i64 p.1, e_i64 p.2))))], []⟩ : S)) ((⟨0, 0⟩ : Fault), ([] : List (Int × Int)), ([] : List UInt8), 0) hF ?_
        intro n1 v1 y1 hF ih1 dn1
        have hF : parts_Check_B1 l v1 = some y1 := hF
        unfold parts_Check_B1 at hF
        refine Wk_seq ?_
        refine WR [] [0, 2, 3, 4, 17, 18, 19, 20] [2] [] [16] [] [] ⟨[(0, .sl 3 (l.map e_Part)), (2, .ptr 2 0), (3, .mp 16), (4, .str v1.2.2.1), (17, .sl 3 (l.map e_Part)), (18, .int .i64 (l.length : Int)), (19, .int .i64 v1.2.2.2), (20, .bool (decide (v1.2.2.2 < (l.length : Int))))], [(2, [.int .i64 v1.1.Code, .int .i64 v1.1.At])], [], [(16, (v1.2.1.map (fun p => (e_i64 p.1, e_i64 p.2))))], []⟩ .nil (by kernel_rfl) ?_
        refine Wk_seq ?_
        refine Wk_split rfl (fun hb => ?_) (fun hb => ?_)
        · have hF := ite_t hF hb
          refine Wk_skip ?_
          refine Wk_seq ?_
          refine Wk_block ?_
          refine Wk_seq ?_
          obtain ⟨h2, hF⟩ := asrt_elim hF
          refine WR [.av (e_Part (lget l v1.2.2.2))] [0, 2, 3, 4, 5, 6, 17, 18, 19] [2, 6] [] [16] [] [] ⟨[(0, .sl 3 (l.map e_Part)), (2, .ptr 2 0), (3, .mp 16), (4, .str v1.2.2.1), (5, .int .i64 v1.2.2.2), (6, .ptr 6 0), (17, .sl 3 (l.map e_Part)), (18, .int .i64 (l.length : Int)), (19, .int .i64 v1.2.2.2)], [(2, [.int .i64 v1.1.Code, .int .i64 v1.1.At]), (6, [.str ((lget l v1.2.2.2).From), .str ((lget l v1.2.2.2).To), .int .i64 ((lget l v1.2.2.2).ID)])], [], [(16, (v1.2.1.map (fun p => (e_i64 p.1, e_i64 p.2))))], []⟩ (.cons (idx_ok e_Part h2) .nil) (by kernel_rfl) ?_
          refine Wk_seq ?_
          refine WR [.nat (l.length : Int)] [0, 2, 3, 4, 5, 6, 7, 17, 18, 19] [2, 6] [] [16] [] [] ⟨[(0, .sl 3 (l.map e_Part)), (2, .ptr 2 0), (3, .mp 16), (4, .str v1.2.2.1), (5, .int .i64 v1.2.2.2), (6, .ptr 6 0), (7, .bool (decide (v1.2.2.2 = (w64 ((l.length : Int) - 1))))), (17, .sl 3 (l.map e_Part)), (18, .int .i64 (l.length : Int)), (19, .int .i64 v1.2.2.2)], [(2, [.int .i64 v1.1.Code, .int .i64 v1.1.At]), (6, [.str ((lget l v1.2.2.2).From), .str ((lget l v1.2.2.2).To), .int .i64 ((lget l v1.2.2.2).ID)])], [], [(16, (v1.2.1.map (fun p => (e_i64 p.1, e_i64 p.2))))], []⟩ (.cons (len_ok e_Part l) .nil) (by kernel_rfl) ?_
          refine Wk_seq ?_
          refine Wk_block ?_
          refine Wk_seq ?_
          refine WR [] [0, 2, 3, 4, 5, 6, 7, 17, 18, 19, 29] [2, 6] [] [16] [] [] ⟨[(0, .sl 3 (l.map e_Part)), (2, .ptr 2 0), (3, .mp 16), (4, .str v1.2.2.1), (5, .int .i64 v1.2.2.2), (6, .ptr 6 0), (7, .bool (decide (v1.2.2.2 = (w64 ((l.length : Int) - 1))))), (17, .sl 3 (l.map e_Part)), (18, .int .i64 (l.length : Int)), (19, .int .i64 v1.2.2.2), (29, .bool ((decide (40 < (((lget l v1.2.2.2).From).length : Int))) || (decide (40 < (((lget l v1.2.2.2).To).length : Int)))))], [(2, [.int .i64 v1.1.Code, .int .i64 v1.1.At]), (6, [.str ((lget l v1.2.2.2).From), .str ((lget l v1.2.2.2).To), .int .i64 ((lget l v1.2.2.2).ID)])], [], [(16, (v1.2.1.map (fun p => (e_i64 p.1, e_i64 p.2))))], []⟩ .nil (by kernel_rfl) ?_
          refine Wk_split rfl (fun hb => ?_) (fun hb => ?_)
          · have hF := ite_t hF hb
            refine Wk_seq ?_
            obtain ⟨x2, h3, hF⟩ := lt_split hF
            refine WR [.callB (.agg [.int .i64 x2.Code, .int .i64 x2.At])] [2] [2] [] [] [] [] ⟨[(2, .ptr 2 0)], [(2, [.int .i64 x2.Code, .int .i64 x2.At])], [], [], []⟩ (.cons (parts_fault_ok 8 v1.2.2.2 x2 h3) .nil) (by kernel_rfl) ?_
            have hF := ret_done hF dn1
            have hF := some_elim hF
            exact Wk_ret (hfin _ ⟨[], [], [], [], [], [], by first | (rw [← hF]; kernel_rfl) | kernel_rfl⟩)
          · have hF := ite_f hF hb
            refine Wk_seq ?_
            obtain ⟨x3, h4, hF⟩ := lt_split hF
            refine WR [.callB (.bool x3)] [0, 2, 3, 4, 5, 6, 7, 17, 18, 19, 42] [2, 6] [] [16] [] [] ⟨[(0, .sl 3 (l.map e_Part)), (2, .ptr 2 0), (3, .mp 16), (4, .str v1.2.2.1), (5, .int .i64 v1.2.2.2), (6, .ptr 6 0), (7, .bool (decide (v1.2.2.2 = (w64 ((l.length : Int) - 1))))), (17, .sl 3 (l.map e_Part)), (18, .int .i64 (l.length : Int)), (19, .int .i64 v1.2.2.2), (42, .bool (!x3))], [(2, [.int .i64 v1.1.Code, .int .i64 v1.1.At]), (6, [.str ((lget l v1.2.2.2).From), .str ((lget l v1.2.2.2).To), .int .i64 ((lget l v1.2.2.2).ID)])], [], [(16, (v1.2.1.map (fun p => (e_i64 p.1, e_i64 p.2))))], []⟩ (.cons (parts_number_ok ((lget l v1.2.2.2).ID) x3 h4) .nil) (by kernel_rfl) ?_
            refine Wk_split rfl (fun hb => ?_) (fun hb => ?_)
            · have hF := ite_t hF hb
              refine Wk_seq ?_
              obtain ⟨x4, h5, hF⟩ := lt_split hF
              refine WR [.callB (.agg [.int .i64 x4.Code, .int .i64 x4.At])] [2] [2] [] [] [] [] ⟨[(2, .ptr 2 0)], [(2, [.int .i64 x4.Code, .int .i64 x4.At])], [], [], []⟩ (.cons (parts_fault_ok 3 v1.2.2.2 x4 h5) .nil) (by kernel_rfl) ?_
              have hF := ret_done hF dn1
              have hF := some_elim hF
              exact Wk_ret (hfin _ ⟨[], [], [], [], [], [], by first | (rw [← hF]; kernel_rfl) | kernel_rfl⟩)
            · have hF := ite_f hF hb
              refine Wk_seq ?_
              refine WR [] [0, 2, 3, 5, 6, 17, 18, 19, 49] [2, 6] [] [16] [] [] ⟨[(0, .sl 3 (l.map e_Part)), (2, .ptr 2 0), (3, .mp 16), (5, .int .i64 v1.2.2.2), (6, .ptr 6 0), (17, .sl 3 (l.map e_Part)), (18, .int .i64 (l.length : Int)), (19, .int .i64 v1.2.2.2), (49, .bool (((!decide (((lget l v1.2.2.2).From) = v1.2.2.1)) || (!((decide (v1.2.2.2 = (w64 ((l.length : Int) - 1)))) == (decide (((lget l v1.2.2.2).To) = ([] : List UInt8)))))) || ((!(decide (v1.2.2.2 = (w64 ((l.length : Int) - 1))))) && (!Op.bytesLess ((lget l v1.2.2.2).From) ((lget l v1.2.2.2).To)))))], [(2, [.int .i64 v1.1.Code, .int .i64 v1.1.At]), (6, [.str ((lget l v1.2.2.2).From), .str ((lget l v1.2.2.2).To), .int .i64 ((lget l v1.2.2.2).ID)])], [], [(16, (v1.2.1.map (fun p => (e_i64 p.1, e_i64 p.2))))], []⟩ .nil (by kernel_rfl) ?_
              refine Wk_split rfl (fun hb => ?_) (fun hb => ?_)
              · have hF := ite_t hF hb
                refine Wk_seq ?_
                obtain ⟨x5, h6, hF⟩ := lt_split hF
                refine WR [.callB (.agg [.int .i64 x5.Code, .int .i64 x5.At])] [2] [2] [] [] [] [] ⟨[(2, .ptr 2 0)], [(2, [.int .i64 x5.Code, .int .i64 x5.At])], [], [], []⟩ (.cons (parts_fault_ok 5 v1.2.2.2 x5 h6) .nil) (by kernel_rfl) ?_
                have hF := ret_done hF dn1
                have hF := some_elim hF
                exact Wk_ret (hfin _ ⟨[], [], [], [], [], [], by first | (rw [← hF]; kernel_rfl) | kernel_rfl⟩)
              · have hF := ite_f hF hb
                refine Wk_seq ?_
                refine WR [.av (e_i64 ((mget v1.2.1 ((lget l v1.2.2.2).ID)).getD (0 : Int))), .bo ((mget v1.2.1 ((lget l v1.2.2.2).ID)).isSome)] [0, 2, 3, 5, 6, 17, 18, 19, 74] [2, 6] [] [16] [] [] ⟨[(0, .sl 3 (l.map e_Part)), (2, .ptr 2 0), (3, .mp 16), (5, .int .i64 v1.2.2.2), (6, .ptr 6 0), (17, .sl 3 (l.map e_Part)), (18, .int .i64 (l.length : Int)), (19, .int .i64 v1.2.2.2), (74, .bool (decide (0 < ((mget v1.2.1 ((lget l v1.2.2.2).ID)).getD (0 : Int)))))], [(2, [.int .i64 v1.1.Code, .int .i64 v1.1.At]), (6, [.str ((lget l v1.2.2.2).From), .str ((lget l v1.2.2.2).To), .int .i64 ((lget l v1.2.2.2).ID)])], [], [(16, (v1.2.1.map (fun p => (e_i64 p.1, e_i64 p.2))))], []⟩ (.cons (mkeys_ok (kenc_i64 : KEnc _ e_i64) e_i64 v1.2.1) (.cons (mlook_ok (kenc_i64 : KEnc _ e_i64) e_i64 v1.2.1 ((lget l v1.2.2.2).ID) (0 : Int)) (.cons (msome_ok (kenc_i64 : KEnc _ e_i64) e_i64 v1.2.1 ((lget l v1.2.2.2).ID)) .nil))) (by kernel_rfl) ?_
                refine Wk_split rfl (fun hb => ?_) (fun hb => ?_)
                · have hF := ite_t hF hb
                  refine Wk_seq ?_
                  obtain ⟨x6, h7, hF⟩ := lt_split hF
                  refine WR [.callB (.agg [.int .i64 x6.Code, .int .i64 x6.At])] [2] [2] [] [] [] [] ⟨[(2, .ptr 2 0)], [(2, [.int .i64 x6.Code, .int .i64 x6.At])], [], [], []⟩ (.cons (parts_fault_ok 10 v1.2.2.2 x6 h7) .nil) (by kernel_rfl) ?_
                  have hF := ret_done hF dn1
                  have hF := some_elim hF
                  exact Wk_ret (hfin _ ⟨[], [], [], [], [], [], by first | (rw [← hF]; kernel_rfl) | kernel_rfl⟩)
                · have hF := ite_f hF hb
                  refine Wk_skip ?_
                  refine Wk_blk ?_
                  refine WD [.ms ((mput v1.2.1 ((lget l v1.2.2.2).ID) (1 : Int)).map (fun p => (e_i64 p.1, e_i64 p.2)))] [0, 2, 3, 4, 17, 18, 19] [2] [] [16] [] [] ⟨[(0, .sl 3 (l.map e_Part)), (2, .ptr 2 0), (3, .mp 16), (4, .str ((lget l v1.2.2.2).To)), (17, .sl 3 (l.map e_Part)), (18, .int .i64 (l.length : Int)), (19, .int .i64 v1.2.2.2)], [(2, [.int .i64 v1.1.Code, .int .i64 v1.1.At])], [], [(16, ((mput v1.2.1 ((lget l v1.2.2.2).ID) (1 : Int)).map (fun p => (e_i64 p.1, e_i64 p.2))))], []⟩ (.cons (mkeys_ok (kenc_i64 : KEnc _ e_i64) e_i64 v1.2.1) (.cons (mput_ok (kenc_i64 : KEnc _ e_i64) e_i64 v1.2.1 ((lget l v1.2.2.2).ID) (1 : Int)) .nil)) (by kernel_rfl) ?_
                  refine Wk_blk ?_
                  refine WR [] [0, 2, 3, 4, 17, 18, 19] [2] [] [16] [] [] ⟨[(0, .sl 3 (l.map e_Part)), (2, .ptr 2 0), (3, .mp 16), (4, .str ((lget l v1.2.2.2).To)), (17, .sl 3 (l.map e_Part)), (18, .int .i64 (l.length : Int)), (19, .int .i64 (w64 (v1.2.2.2 + 1)))], [(2, [.int .i64 v1.1.Code, .int .i64 v1.1.At])], [], [(16, ((mput v1.2.1 ((lget l v1.2.2.2).ID) (1 : Int)).map (fun p => (e_i64 p.1, e_i64 p.2))))], []⟩ .nil (by kernel_rfl) ?_
                  refine Wk_trim (fs := [0, 2, 3, 4, 17, 18, 19]) (bs := [2]) (rs := []) (ms := [16]) (aa := []) (nv := []) ?_ (ih1 _ (some_elim hF).symm)
                  kernel_rfl
        · have hF := ite_f hF hb
          refine Wk_exit rfl ?_
          have hF := inrO_done hF dn1
          exact Wk_metP v1.1 [2] [2] [] [] [] [] hF (by kernel_rfl)
      · intro v hF
        have hF : parts_Check_J1 v = some r := hF
        unfold parts_Check_J1 at hF
        refine Wk_seq ?_
        refine WR [] [2] [2] [] [] [] [] ⟨[(2, .ptr 2 0)], [(2, [.int .i64 0, .int .i64 0])], [], [], []⟩ .nil (by kernel_rfl) ?_
        have hF := some_elim hF
        exact Wk_ret (hfin _ ⟨[], [], [], [], [], [], by first | (rw [← hF]; kernel_rfl) | kernel_rfl⟩)

/- parts.find$1 -/
noncomputable def parts_find_1 (i : Int) (box : List Part) (box1 : List UInt8) : Option Bool :=
  asrt (0 ≤ i ∧ i < (box.length : Int)) <|
  some (Op.bytesLess box1 ((lget box i).From))
theorem parts_find_1_ok (i : Int) (box : List Part) (box1 : List UInt8) (r : Bool) (hF : parts_find_1 i box box1 = some r) : Pe Try.prog 103 ⟨[], [(100000, [.sl 3 (box.map e_Part)]), (100001, [.str box1])], [], [], []⟩ [.int .i64 i, .ptr 100000 0, .ptr 100001 0] (.bool r) ⟨[], [(100000, [.sl 3 (box.map e_Part)]), (100001, [.str box1])], [], [], []⟩ := by
  refine Pe_of (N := 12) (res := [.tmp 4]) (ts := [4]) Ty.ok Fn.b103 Try.func103 rfl rfl rfl rfl rfl rfl ?_
  intro Q g hfin
  unfold parts_find_1 at hF
  refine Wk_seq ?_
  refine WR [] [0, 1, 2] [100000, 100001] [] [] [] [] ⟨[(0, .int .i64 i), (1, .ptr 100000 0), (2, .ptr 100001 0)], [(100000, [.sl 3 (box.map e_Part)]), (100001, [.str box1])], [], [], []⟩ .nil (by kernel_rfl) ?_
  refine Wk_seq ?_
  obtain ⟨h0, hF⟩ := asrt_elim hF
  refine WD [.av (e_Part (lget box i))] [4] [100000, 100001] [] [] [] [] ⟨[(4, .bool (Op.bytesLess box1 ((lget box i).From)))], [(100000, [.sl 3 (box.map e_Part)]), (100001, [.str box1])], [], [], []⟩ (.cons (idx_ok e_Part h0) .nil) (by kernel_rfl) ?_
  have hF := some_elim hF
  exact Wk_ret (hfin _ ⟨[], [100000, 100001], [], [], [], [], by first | (rw [← hF]; kernel_rfl) | kernel_rfl⟩)

/- sort.Search -/
noncomputable def sort_Search_J1 (v : Int) : Option Int :=
  some v
noncomputable def sort_Search_B1 (box : List Part) (box1 : List UInt8) (v1 : Int × Int) : Option ((Int × Int) ⊕ Int) :=
  if (decide (v1.1 < v1.2)) = true then
    lt (w64 (Int.fdiv (IntKind.u64.wrap (w64 (v1.1 + v1.2))) (2 ^ (min (1 : Int).toNat 64)))) fun (v2 : Int) =>
    ob (parts_find_1 v2 box box1) fun x =>
    if (!x) = true then
      some (Sum.inl (w64 (v2 + 1), v1.2))
    else
      some (Sum.inl (v1.1, v2))
  else
    inrO (sort_Search_J1 v1.1)
noncomputable def sort_Search_L1 (box : List Part) (box1 : List UInt8) (v0 : Int × Int) : Option Int :=
  loopO (fun y => sort_Search_B1 box box1 y) v0
noncomputable def sort_Search (num : Int) (box : List Part) (box1 : List UInt8) : Option Int :=
  sort_Search_L1 box box1 (0, num)
theorem sort_Search_ok (num : Int) (box : List Part) (box1 : List UInt8) (r : Int) (hF : sort_Search num box box1 = some r) : Pe Try.prog 73 ⟨[], [(100000, [.sl 3 (box.map e_Part)]), (100001, [.str box1])], [], [], []⟩ [.int .i64 num, .fn 103 [.ptr 100000 0, .ptr 100001 0]] (.int .i64 r) ⟨[], [(100000, [.sl 3 (box.map e_Part)]), (100001, [.str box1])], [], [], []⟩ := by
  refine Pe_of (N := 26) (res := [.tmp 4]) (ts := [3]) Ty.ok Fn.b73 Try.func73 rfl rfl rfl rfl rfl rfl ?_
  intro Q g hfin
  unfold sort_Search at hF
  refine Wk_seq ?_
  refine WR [] [0, 1] [100000, 100001] [] [] [] [] ⟨[(0, .int .i64 num), (1, .fn 103 [.ptr 100000 0, .ptr 100001 0])], [(100000, [.sl 3 (box.map e_Part)]), (100001, [.str box1])], [], [], []⟩ .nil (by kernel_rfl) ?_
  refine Wk_seq ?_
  refine WR [] [1, 5, 6] [100000, 100001] [] [] [] [] ⟨[(1, .fn 103 [.ptr 100000 0, .ptr 100001 0]), (5, .int .i64 0), (6, .int .i64 num)], [(100000, [.sl 3 (box.map e_Part)]), (100001, [.str box1])], [], [], []⟩ .nil (by kernel_rfl) ?_
  refine Wk_seq ?_
  refine Wk_meetP (fun v : Int => (⟨[(5, .int .i64 v)], [(100000, [.sl 3 (box.map e_Part)]), (100001, [.str box1])], [], [], []⟩ : S)) (fun v => sort_Search_J1 v = some r) ?_ ?_
  · refine Wk_block ?_
    unfold sort_Search_L1 at hF
    refine Wk_trim (fs := [1, 5, 6]) (bs := [100000, 100001]) (rs := []) (ms := []) (aa := []) (nv := []) (t := (fun v1 : Int × Int => (⟨[(1, .fn 103 [.ptr 100000 0, .ptr 100001 0]), (5, .int .i64 v1.1), (6, .int .i64 v1.2)], [(100000, [.sl 3 (box.map e_Part)]), (100001, [.str box1])], [], [], []⟩ : S)) (0, num)) (by kernel_rfl) ?_
    refine Wk_iter (step := fun y => sort_Search_B1 box box1 y) (r := r) (fun v1 : Int × Int => (⟨[(1, .fn 103 [.ptr 100000 0, .ptr 100001 0]), (5, .int .i64 v1.1), (6, .int .i64 v1.2)], [(100000, [.sl 3 (box.map e_Part)]), (100001, [.str box1])], [], [], []⟩ : S)) (0, num) hF ?_
    intro n1 v1 y1 hF ih1 dn1
    have hF : sort_Search_B1 box box1 v1 = some y1 := hF
    unfold sort_Search_B1 at hF
    refine Wk_seq ?_
    refine Wk_seq ?_
    refine WR [] [1, 5, 6, 11] [100000, 100001] [] [] [] [] ⟨[(1, .fn 103 [.ptr 100000 0, .ptr 100001 0]), (5, .int .i64 v1.1), (6, .int .i64 v1.2), (11, .bool (decide (v1.1 < v1.2)))], [(100000, [.sl 3 (box.map e_Part)]), (100001, [.str box1])], [], [], []⟩ .nil (by kernel_rfl) ?_
    refine Wk_split rfl (fun hb => ?_) (fun hb => ?_)
    · have hF := ite_t hF hb
      refine Wk_skip ?_
      refine Wk_block ?_
      refine Wk_seq ?_
      refine WRL (w64 (Int.fdiv (IntKind.u64.wrap (w64 (v1.1 + v1.2))) (2 ^ (min (1 : Int).toNat 64)))) (fun v2 : Int => ⟨[(1, .fn 103 [.ptr 100000 0, .ptr 100001 0]), (5, .int .i64 v1.1), (6, .int .i64 v1.2), (7, .int .i64 v2)], [(100000, [.sl 3 (box.map e_Part)]), (100001, [.str box1])], [], [], []⟩) [] [1, 5, 6, 7] [100000, 100001] [] [] [] [] (.cons (by decide : (0 : Int) ≤ 1) .nil) (by kernel_rfl) (fun v2 hv => ?_)
      have hF := lt_elim hF hv
      refine Wk_seq ?_
      obtain ⟨x, h0, hF⟩ := ob_elim hF
      refine WR [.callR [100000, 100001] [] [] [] (.bool x)] [1, 5, 6, 7, 21] [100000, 100001] [] [] [] [] ⟨[(1, .fn 103 [.ptr 100000 0, .ptr 100001 0]), (5, .int .i64 v1.1), (6, .int .i64 v1.2), (7, .int .i64 v2), (21, .bool (!x))], [(100000, [.sl 3 (box.map e_Part)]), (100001, [.str box1])], [], [], []⟩ (.cons (Pe.ren (parts_find_1_ok v2 box box1 x h0) ⟨[], [], [], []⟩) .nil) (by kernel_rfl) ?_
      refine Wk_split rfl (fun hb => ?_) (fun hb => ?_)
      · have hF := ite_t hF hb
        refine WR [] [1, 5, 6] [100000, 100001] [] [] [] [] ⟨[(1, .fn 103 [.ptr 100000 0, .ptr 100001 0]), (5, .int .i64 (w64 (v2 + 1))), (6, .int .i64 v1.2)], [(100000, [.sl 3 (box.map e_Part)]), (100001, [.str box1])], [], [], []⟩ .nil (by kernel_rfl) ?_
        refine Wk_blk ?_
        refine Wk_trim (fs := [1, 5, 6]) (bs := [100000, 100001]) (rs := []) (ms := []) (aa := []) (nv := []) ?_ (ih1 _ (some_elim hF).symm)
        kernel_rfl
      · have hF := ite_f hF hb
        refine WR [] [1, 5, 6] [100000, 100001] [] [] [] [] ⟨[(1, .fn 103 [.ptr 100000 0, .ptr 100001 0]), (5, .int .i64 v1.1), (6, .int .i64 v2)], [(100000, [.sl 3 (box.map e_Part)]), (100001, [.str box1])], [], [], []⟩ .nil (by kernel_rfl) ?_
        refine Wk_blk ?_
        refine Wk_trim (fs := [1, 5, 6]) (bs := [100000, 100001]) (rs := []) (ms := []) (aa := []) (nv := []) ?_ (ih1 _ (some_elim hF).symm)
        kernel_rfl
    · have hF := ite_f hF hb
      refine Wk_exit rfl ?_
      have hF := inrO_done hF dn1
      exact Wk_metP v1.1 [5] [100000, 100001] [] [] [] [] hF (by kernel_rfl)
  · intro v hF
    have hF : sort_Search_J1 v = some r := hF
    unfold sort_Search_J1 at hF
    refine Wk_seq ?_
    refine WR [] [4] [100000, 100001] [] [] [] [] ⟨[(4, .int .i64 v)], [(100000, [.sl 3 (box.map e_Part)]), (100001, [.str box1])], [], [], []⟩ .nil (by kernel_rfl) ?_
    have hF := some_elim hF
    exact Wk_ret (hfin _ ⟨[], [100000, 100001], [], [], [], [], by first | (rw [← hF]; kernel_rfl) | kernel_rfl⟩)

/- parts.find -/
noncomputable def parts_find (l : List Part) (row : List UInt8) : Option Int :=
  ob (sort_Search (l.length : Int) l row) fun x =>
  some (w64 (x - 1))
theorem parts_find_ok (l : List Part) (row : List UInt8) (r : Int) (hF : parts_find l row = some r) : Pe Try.prog 70 S.none [.sl 3 (l.map e_Part), .str row] (.int .i64 r) S.none := by
  refine Pe_of (N := 10) (res := [.tmp 4]) (ts := [3]) Ty.ok Fn.b70 Try.func70 rfl rfl rfl rfl rfl rfl ?_
  intro Q g hfin
  unfold parts_find at hF
  refine Wk_seq ?_
  refine WR [] [2, 3] [2, 3] [] [] [] [] ⟨[(2, .ptr 2 0), (3, .ptr 3 0)], [(2, [.sl 3 (l.map e_Part)]), (3, [.str row])], [], [], []⟩ .nil (by kernel_rfl) ?_
  refine Wk_seq ?_
  obtain ⟨x, h0, hF⟩ := ob_elim hF
  refine WR [.nat (l.length : Int), .callR [2, 3] [] [] [] (.int .i64 x)] [4] [] [] [] [] [] ⟨[(4, .int .i64 (w64 (x - 1)))], [], [], [], []⟩ (.cons (len_ok e_Part l) (.cons (Pe.ren (sort_Search_ok (l.length : Int) l row x h0) ⟨[(100000, 2), (100001, 3)], [], [], []⟩) .nil)) (by kernel_rfl) ?_
  have hF := some_elim hF
  exact Wk_ret (hfin _ ⟨[], [], [], [], [], [], by first | (rw [← hF]; kernel_rfl) | kernel_rfl⟩)

/- parts.others$1 -/
noncomputable def parts_others_1 (p : Part) (box : Int) : Bool :=
  decide (p.ID = box)
theorem parts_others_1_ok (p : Part) (box : Int) (r : Bool) (hF : parts_others_1 p box = r) : Pe Try.prog 105 ⟨[], [(100000, [.int .i64 box])], [], [], []⟩ [.agg [.str p.From, .str p.To, .int .i64 p.ID], .ptr 100000 0] (.bool r) ⟨[], [(100000, [.int .i64 box])], [], [], []⟩ := by
  refine Pe_of (N := 8) (res := [.tmp 3]) (ts := [4]) Ty.ok Fn.b105 Try.func105 rfl rfl rfl rfl rfl rfl ?_
  intro Q g hfin
  unfold parts_others_1 at hF
  refine Wk_seq ?_
  refine WR [] [1, 2] [2, 100000] [] [] [] [] ⟨[(1, .ptr 100000 0), (2, .ptr 2 0)], [(2, [.str p.From, .str p.To, .int .i64 p.ID]), (100000, [.int .i64 box])], [], [], []⟩ .nil (by kernel_rfl) ?_
  refine Wk_seq ?_
  refine WR [] [3] [100000] [] [] [] [] ⟨[(3, .bool (decide (p.ID = box)))], [(100000, [.int .i64 box])], [], [], []⟩ .nil (by kernel_rfl) ?_
  exact Wk_ret (hfin _ ⟨[], [100000], [], [], [], [], by first | (rw [← hF]; kernel_rfl) | kernel_rfl⟩)

/- slices.IndexFunc[[]api.Part,api.Part] -/
noncomputable def slices_IndexFunc_api_Part_api_Part_J1 (v : Unit) : Option Int :=
  some (-1)
noncomputable def slices_IndexFunc_api_Part_api_Part_B1 (s0 : List Part) (box : Int) (v1 : Int) : Option (Int ⊕ Int) :=
  if (decide (v1 < (s0.length : Int))) = true then
    asrt (0 ≤ v1 ∧ v1 < (s0.length : Int)) <|
    lt (parts_others_1 (⟨(lget s0 v1).From, (lget s0 v1).To, (lget s0 v1).ID⟩ : Part) box) fun x =>
    if x = true then
      some (Sum.inr v1)
    else
      some (Sum.inl (w64 (v1 + 1)))
  else
    inrO (slices_IndexFunc_api_Part_api_Part_J1 ())
noncomputable def slices_IndexFunc_api_Part_api_Part_L1 (s0 : List Part) (box : Int) (v0 : Int) : Option Int :=
  loopO (fun y => slices_IndexFunc_api_Part_api_Part_B1 s0 box y) v0
noncomputable def slices_IndexFunc_api_Part_api_Part (s0 : List Part) (box : Int) : Option Int :=
  slices_IndexFunc_api_Part_api_Part_L1 s0 box 0
theorem slices_IndexFunc_api_Part_api_Part_ok (s0 : List Part) (box : Int) (r : Int) (hF : slices_IndexFunc_api_Part_api_Part s0 box = some r) : Pe Try.prog 127 ⟨[], [(100000, [.int .i64 box])], [], [], []⟩ [.sl 3 (s0.map e_Part), .fn 105 [.ptr 100000 0]] (.int .i64 r) ⟨[], [(100000, [.int .i64 box])], [], [], []⟩ := by
  refine Pe_of (N := 19) (res := [.tmp 4]) (ts := [3]) Ty.ok Fn.b127 Try.func127 rfl rfl rfl rfl rfl rfl ?_
  intro Q g hfin
  unfold slices_IndexFunc_api_Part_api_Part at hF
  refine Wk_seq ?_
  refine WR [] [0, 1] [100000] [] [] [] [] ⟨[(0, .sl 3 (s0.map e_Part)), (1, .fn 105 [.ptr 100000 0])], [(100000, [.int .i64 box])], [], [], []⟩ .nil (by kernel_rfl) ?_
  refine Wk_seq ?_
  refine Wk_seq ?_
  refine WR [.nat (s0.length : Int)] [0, 1, 7, 8] [100000] [] [] [] [] ⟨[(0, .sl 3 (s0.map e_Part)), (1, .fn 105 [.ptr 100000 0]), (7, .int .i64 (s0.length : Int)), (8, .int .i64 0)], [(100000, [.int .i64 box])], [], [], []⟩ (.cons (len_ok e_Part s0) .nil) (by kernel_rfl) ?_
  refine Wk_meetP (fun v : Unit => (⟨[], [(100000, [.int .i64 box])], [], [], []⟩ : S)) (fun v => slices_IndexFunc_api_Part_api_Part_J1 v = some r) ?_ ?_
  · refine Wk_block ?_
    unfold slices_IndexFunc_api_Part_api_Part_L1 at hF
    refine Wk_trim (fs := [0, 1, 7, 8]) (bs := [100000]) (rs := []) (ms := []) (aa := []) (nv := []) (t := (fun v1 : Int => (⟨[(0, .sl 3 (s0.map e_Part)), (1, .fn 105 [.ptr 100000 0]), (7, .int .i64 (s0.length : Int)), (8, .int .i64 v1)], [(100000, [.int .i64 box])], [], [], []⟩ : S)) 0) (by kernel_rfl) ?_
    refine Wk_iter (step := fun y => slices_IndexFunc_api_Part_api_Part_B1 s0 box y) (r := r) (fun v1 : Int => (⟨[(0, .sl 3 (s0.map e_Part)), (1, .fn 105 [.ptr 100000 0]), (7, .int .i64 (s0.length : Int)), (8, .int .i64 v1)], [(100000, [.int .i64 box])], [], [], []⟩ : S)) 0 hF ?_
    intro n1 v1 y1 hF ih1 dn1
    have hF : slices_IndexFunc_api_Part_api_Part_B1 s0 box v1 = some y1 := hF
    unfold slices_IndexFunc_api_Part_api_Part_B1 at hF
    refine Wk_seq ?_
    refine WR [] [0, 1, 7, 8, 9] [100000] [] [] [] [] ⟨[(0, .sl 3 (s0.map e_Part)), (1, .fn 105 [.ptr 100000 0]), (7, .int .i64 (s0.length : Int)), (8, .int .i64 v1), (9, .bool (decide (v1 < (s0.length : Int))))], [(100000, [.int .i64 box])], [], [], []⟩ .nil (by kernel_rfl) ?_
    refine Wk_seq ?_
    refine Wk_split rfl (fun hb => ?_) (fun hb => ?_)
    · have hF := ite_t hF hb
      refine Wk_skip ?_
      refine Wk_seq ?_
      refine Wk_block ?_
      refine Wk_seq ?_
      refine WR [] [0, 1, 5, 7, 8] [100000] [] [] [] [] ⟨[(0, .sl 3 (s0.map e_Part)), (1, .fn 105 [.ptr 100000 0]), (5, .int .i64 v1), (7, .int .i64 (s0.length : Int)), (8, .int .i64 v1)], [(100000, [.int .i64 box])], [], [], []⟩ .nil (by kernel_rfl) ?_
      refine Wk_seq ?_
      obtain ⟨h0, hF⟩ := asrt_elim hF
      obtain ⟨x, h1, hF⟩ := lt_split hF
      refine WR [.av (e_Part (lget s0 v1)), .callR [100000] [] [] [] (.bool x)] [0, 1, 5, 7, 8, 16] [100000] [] [] [] [] ⟨[(0, .sl 3 (s0.map e_Part)), (1, .fn 105 [.ptr 100000 0]), (5, .int .i64 v1), (7, .int .i64 (s0.length : Int)), (8, .int .i64 v1), (16, .bool x)], [(100000, [.int .i64 box])], [], [], []⟩ (.cons (idx_ok e_Part h0) (.cons (Pe.ren (parts_others_1_ok (⟨(lget s0 v1).From, (lget s0 v1).To, (lget s0 v1).ID⟩ : Part) box x h1) ⟨[], [], [], []⟩) .nil)) (by kernel_rfl) ?_
      refine Wk_split rfl (fun hb => ?_) (fun hb => ?_)
      · have hF := ite_t hF hb
        refine Wk_seq ?_
        refine WR [] [4] [100000] [] [] [] [] ⟨[(4, .int .i64 v1)], [(100000, [.int .i64 box])], [], [], []⟩ .nil (by kernel_rfl) ?_
        have hF := ret_done hF dn1
        have hF := some_elim hF
        exact Wk_ret (hfin _ ⟨[], [100000], [], [], [], [], by first | (rw [← hF]; kernel_rfl) | kernel_rfl⟩)
      · have hF := ite_f hF hb
        refine Wk_skip ?_
        refine Wk_blk ?_
        refine WR [] [0, 1, 7, 8] [100000] [] [] [] [] ⟨[(0, .sl 3 (s0.map e_Part)), (1, .fn 105 [.ptr 100000 0]), (7, .int .i64 (s0.length : Int)), (8, .int .i64 (w64 (v1 + 1)))], [(100000, [.int .i64 box])], [], [], []⟩ .nil (by kernel_rfl) ?_
        refine Wk_trim (fs := [0, 1, 7, 8]) (bs := [100000]) (rs := []) (ms := []) (aa := []) (nv := []) ?_ (ih1 _ (some_elim hF).symm)
        kernel_rfl
    · have hF := ite_f hF hb
      refine Wk_exit rfl ?_
      have hF := inrO_done hF dn1
      exact Wk_metP () [] [100000] [] [] [] [] hF (by kernel_rfl)
  · intro v hF
    have hF : slices_IndexFunc_api_Part_api_Part_J1 v = some r := hF
    unfold slices_IndexFunc_api_Part_api_Part_J1 at hF
    refine Wk_seq ?_
    refine WR [] [4] [100000] [] [] [] [] ⟨[(4, .int .i64 (-1))], [(100000, [.int .i64 box])], [], [], []⟩ .nil (by kernel_rfl) ?_
    have hF := some_elim hF
    exact Wk_ret (hfin _ ⟨[], [100000], [], [], [], [], by first | (rw [← hF]; kernel_rfl) | kernel_rfl⟩)

/- slices.ContainsFunc[[]api.Part,api.Part] -/
noncomputable def slices_ContainsFunc_api_Part_api_Part (s0 : List Part) (box : Int) : Option Bool :=
  ob (slices_IndexFunc_api_Part_api_Part s0 box) fun x =>
  some (decide (0 ≤ x))
theorem slices_ContainsFunc_api_Part_api_Part_ok (s0 : List Part) (box : Int) (r : Bool) (hF : slices_ContainsFunc_api_Part_api_Part s0 box = some r) : Pe Try.prog 104 ⟨[], [(100000, [.int .i64 box])], [], [], []⟩ [.sl 3 (s0.map e_Part), .fn 105 [.ptr 100000 0]] (.bool r) ⟨[], [(100000, [.int .i64 box])], [], [], []⟩ := by
  refine Pe_of (N := 9) (res := [.tmp 4]) (ts := [4]) Ty.ok Fn.b104 Try.func104 rfl rfl rfl rfl rfl rfl ?_
  intro Q g hfin
  unfold slices_ContainsFunc_api_Part_api_Part at hF
  refine Wk_seq ?_
  refine WR [] [0, 1] [100000] [] [] [] [] ⟨[(0, .sl 3 (s0.map e_Part)), (1, .fn 105 [.ptr 100000 0])], [(100000, [.int .i64 box])], [], [], []⟩ .nil (by kernel_rfl) ?_
  refine Wk_seq ?_
  obtain ⟨x, h0, hF⟩ := ob_elim hF
  refine WR [.callR [100000] [] [] [] (.int .i64 x)] [4] [100000] [] [] [] [] ⟨[(4, .bool (decide (0 ≤ x)))], [(100000, [.int .i64 box])], [], [], []⟩ (.cons (Pe.ren (slices_IndexFunc_api_Part_api_Part_ok s0 box x h0) ⟨[], [], [], []⟩) .nil) (by kernel_rfl) ?_
  have hF := some_elim hF
  exact Wk_ret (hfin _ ⟨[], [100000], [], [], [], [], by first | (rw [← hF]; kernel_rfl) | kernel_rfl⟩)

/- parts.others$2 -/
noncomputable def parts_others_2 (p : Part) (box : Int) : Bool :=
  decide (p.ID = box)
theorem parts_others_2_ok (p : Part) (box : Int) (r : Bool) (hF : parts_others_2 p box = r) : Pe Try.prog 106 ⟨[], [(100000, [.int .i64 box])], [], [], []⟩ [.agg [.str p.From, .str p.To, .int .i64 p.ID], .ptr 100000 0] (.bool r) ⟨[], [(100000, [.int .i64 box])], [], [], []⟩ := by
  refine Pe_of (N := 8) (res := [.tmp 3]) (ts := [4]) Ty.ok Fn.b106 Try.func106 rfl rfl rfl rfl rfl rfl ?_
  intro Q g hfin
  unfold parts_others_2 at hF
  refine Wk_seq ?_
  refine WR [] [1, 2] [2, 100000] [] [] [] [] ⟨[(1, .ptr 100000 0), (2, .ptr 2 0)], [(2, [.str p.From, .str p.To, .int .i64 p.ID]), (100000, [.int .i64 box])], [], [], []⟩ .nil (by kernel_rfl) ?_
  refine Wk_seq ?_
  refine WR [] [3] [100000] [] [] [] [] ⟨[(3, .bool (decide (p.ID = box)))], [(100000, [.int .i64 box])], [], [], []⟩ .nil (by kernel_rfl) ?_
  exact Wk_ret (hfin _ ⟨[], [100000], [], [], [], [], by first | (rw [← hF]; kernel_rfl) | kernel_rfl⟩)

/- slices.IndexFunc[[]api.Part,api.Part] -/
noncomputable def slices_IndexFunc_api_Part_api_Part_v1_J1 (v : Unit) : Option Int :=
  some (-1)
noncomputable def slices_IndexFunc_api_Part_api_Part_v1_B1 (s0 : List Part) (box : Int) (v1 : Int) : Option (Int ⊕ Int) :=
  if (decide (v1 < (s0.length : Int))) = true then
    asrt (0 ≤ v1 ∧ v1 < (s0.length : Int)) <|
    lt (parts_others_2 (⟨(lget s0 v1).From, (lget s0 v1).To, (lget s0 v1).ID⟩ : Part) box) fun x =>
    if x = true then
      some (Sum.inr v1)
    else
      some (Sum.inl (w64 (v1 + 1)))
  else
    inrO (slices_IndexFunc_api_Part_api_Part_v1_J1 ())
noncomputable def slices_IndexFunc_api_Part_api_Part_v1_L1 (s0 : List Part) (box : Int) (v0 : Int) : Option Int :=
  loopO (fun y => slices_IndexFunc_api_Part_api_Part_v1_B1 s0 box y) v0
noncomputable def slices_IndexFunc_api_Part_api_Part_v1 (s0 : List Part) (box : Int) : Option Int :=
  slices_IndexFunc_api_Part_api_Part_v1_L1 s0 box 0
theorem slices_IndexFunc_api_Part_api_Part_v1_ok (s0 : List Part) (box : Int) (r : Int) (hF : slices_IndexFunc_api_Part_api_Part_v1 s0 box = some r) : Pe Try.prog 127 ⟨[], [(100000, [.int .i64 box])], [], [], []⟩ [.sl 3 (s0.map e_Part), .fn 106 [.ptr 100000 0]] (.int .i64 r) ⟨[], [(100000, [.int .i64 box])], [], [], []⟩ := by
  refine Pe_of (N := 19) (res := [.tmp 4]) (ts := [3]) Ty.ok Fn.b127 Try.func127 rfl rfl rfl rfl rfl rfl ?_
  intro Q g hfin
  unfold slices_IndexFunc_api_Part_api_Part_v1 at hF
  refine Wk_seq ?_
  refine WR [] [0, 1] [100000] [] [] [] [] ⟨[(0, .sl 3 (s0.map e_Part)), (1, .fn 106 [.ptr 100000 0])], [(100000, [.int .i64 box])], [], [], []⟩ .nil (by kernel_rfl) ?_
  refine Wk_seq ?_
  refine Wk_seq ?_
  refine WR [.nat (s0.length : Int)] [0, 1, 7, 8] [100000] [] [] [] [] ⟨[(0, .sl 3 (s0.map e_Part)), (1, .fn 106 [.ptr 100000 0]), (7, .int .i64 (s0.length : Int)), (8, .int .i64 0)], [(100000, [.int .i64 box])], [], [], []⟩ (.cons (len_ok e_Part s0) .nil) (by kernel_rfl) ?_
  refine Wk_meetP (fun v : Unit => (⟨[], [(100000, [.int .i64 box])], [], [], []⟩ : S)) (fun v => slices_IndexFunc_api_Part_api_Part_v1_J1 v = some r) ?_ ?_
  · refine Wk_block ?_
    unfold slices_IndexFunc_api_Part_api_Part_v1_L1 at hF
    refine Wk_trim (fs := [0, 1, 7, 8]) (bs := [100000]) (rs := []) (ms := []) (aa := []) (nv := []) (t := (fun v1 : Int => (⟨[(0, .sl 3 (s0.map e_Part)), (1, .fn 106 [.ptr 100000 0]), (7, .int .i64 (s0.length : Int)), (8, .int .i64 v1)], [(100000, [.int .i64 box])], [], [], []⟩ : S)) 0) (by kernel_rfl) ?_
    refine Wk_iter (step := fun y => slices_IndexFunc_api_Part_api_Part_v1_B1 s0 box y) (r := r) (fun v1 : Int => (⟨[(0, .sl 3 (s0.map e_Part)), (1, .fn 106 [.ptr 100000 0]), (7, .int .i64 (s0.length : Int)), (8, .int .i64 v1)], [(100000, [.int .i64 box])], [], [], []⟩ : S)) 0 hF ?_
    intro n1 v1 y1 hF ih1 dn1
    have hF : slices_IndexFunc_api_Part_api_Part_v1_B1 s0 box v1 = some y1 := hF
    unfold slices_IndexFunc_api_Part_api_Part_v1_B1 at hF
    refine Wk_seq ?_
    refine WR [] [0, 1, 7, 8, 9] [100000] [] [] [] [] ⟨[(0, .sl 3 (s0.map e_Part)), (1, .fn 106 [.ptr 100000 0]), (7, .int .i64 (s0.length : Int)), (8, .int .i64 v1), (9, .bool (decide (v1 < (s0.length : Int))))], [(100000, [.int .i64 box])], [], [], []⟩ .nil (by kernel_rfl) ?_
    refine Wk_seq ?_
    refine Wk_split rfl (fun hb => ?_) (fun hb => ?_)
    · have hF := ite_t hF hb
      refine Wk_skip ?_
      refine Wk_seq ?_
      refine Wk_block ?_
      refine Wk_seq ?_
      refine WR [] [0, 1, 5, 7, 8] [100000] [] [] [] [] ⟨[(0, .sl 3 (s0.map e_Part)), (1, .fn 106 [.ptr 100000 0]), (5, .int .i64 v1), (7, .int .i64 (s0.length : Int)), (8, .int .i64 v1)], [(100000, [.int .i64 box])], [], [], []⟩ .nil (by kernel_rfl) ?_
      refine Wk_seq ?_
      obtain ⟨h0, hF⟩ := asrt_elim hF
      obtain ⟨x, h1, hF⟩ := lt_split hF
      refine WR [.av (e_Part (lget s0 v1)), .callR [100000] [] [] [] (.bool x)] [0, 1, 5, 7, 8, 16] [100000] [] [] [] [] ⟨[(0, .sl 3 (s0.map e_Part)), (1, .fn 106 [.ptr 100000 0]), (5, .int .i64 v1), (7, .int .i64 (s0.length : Int)), (8, .int .i64 v1), (16, .bool x)], [(100000, [.int .i64 box])], [], [], []⟩ (.cons (idx_ok e_Part h0) (.cons (Pe.ren (parts_others_2_ok (⟨(lget s0 v1).From, (lget s0 v1).To, (lget s0 v1).ID⟩ : Part) box x h1) ⟨[], [], [], []⟩) .nil)) (by kernel_rfl) ?_
      refine Wk_split rfl (fun hb => ?_) (fun hb => ?_)
      · have hF := ite_t hF hb
        refine Wk_seq ?_
        refine WR [] [4] [100000] [] [] [] [] ⟨[(4, .int .i64 v1)], [(100000, [.int .i64 box])], [], [], []⟩ .nil (by kernel_rfl) ?_
        have hF := ret_done hF dn1
        have hF := some_elim hF
        exact Wk_ret (hfin _ ⟨[], [100000], [], [], [], [], by first | (rw [← hF]; kernel_rfl) | kernel_rfl⟩)
      · have hF := ite_f hF hb
        refine Wk_skip ?_
        refine Wk_blk ?_
        refine WR [] [0, 1, 7, 8] [100000] [] [] [] [] ⟨[(0, .sl 3 (s0.map e_Part)), (1, .fn 106 [.ptr 100000 0]), (7, .int .i64 (s0.length : Int)), (8, .int .i64 (w64 (v1 + 1)))], [(100000, [.int .i64 box])], [], [], []⟩ .nil (by kernel_rfl) ?_
        refine Wk_trim (fs := [0, 1, 7, 8]) (bs := [100000]) (rs := []) (ms := []) (aa := []) (nv := []) ?_ (ih1 _ (some_elim hF).symm)
        kernel_rfl
    · have hF := ite_f hF hb
      refine Wk_exit rfl ?_
      have hF := inrO_done hF dn1
      exact Wk_metP () [] [100000] [] [] [] [] hF (by kernel_rfl)
  · intro v hF
    have hF : slices_IndexFunc_api_Part_api_Part_v1_J1 v = some r := hF
    unfold slices_IndexFunc_api_Part_api_Part_v1_J1 at hF
    refine Wk_seq ?_
    refine WR [] [4] [100000] [] [] [] [] ⟨[(4, .int .i64 (-1))], [(100000, [.int .i64 box])], [], [], []⟩ .nil (by kernel_rfl) ?_
    have hF := some_elim hF
    exact Wk_ret (hfin _ ⟨[], [100000], [], [], [], [], by first | (rw [← hF]; kernel_rfl) | kernel_rfl⟩)

/- slices.ContainsFunc[[]api.Part,api.Part] -/
noncomputable def slices_ContainsFunc_api_Part_api_Part_v1 (s0 : List Part) (box : Int) : Option Bool :=
  ob (slices_IndexFunc_api_Part_api_Part_v1 s0 box) fun x =>
  some (decide (0 ≤ x))
theorem slices_ContainsFunc_api_Part_api_Part_v1_ok (s0 : List Part) (box : Int) (r : Bool) (hF : slices_ContainsFunc_api_Part_api_Part_v1 s0 box = some r) : Pe Try.prog 104 ⟨[], [(100000, [.int .i64 box])], [], [], []⟩ [.sl 3 (s0.map e_Part), .fn 106 [.ptr 100000 0]] (.bool r) ⟨[], [(100000, [.int .i64 box])], [], [], []⟩ := by
  refine Pe_of (N := 9) (res := [.tmp 4]) (ts := [4]) Ty.ok Fn.b104 Try.func104 rfl rfl rfl rfl rfl rfl ?_
  intro Q g hfin
  unfold slices_ContainsFunc_api_Part_api_Part_v1 at hF
  refine Wk_seq ?_
  refine WR [] [0, 1] [100000] [] [] [] [] ⟨[(0, .sl 3 (s0.map e_Part)), (1, .fn 106 [.ptr 100000 0])], [(100000, [.int .i64 box])], [], [], []⟩ .nil (by kernel_rfl) ?_
  refine Wk_seq ?_
  obtain ⟨x, h0, hF⟩ := ob_elim hF
  refine WR [.callR [100000] [] [] [] (.int .i64 x)] [4] [100000] [] [] [] [] ⟨[(4, .bool (decide (0 ≤ x)))], [(100000, [.int .i64 box])], [], [], []⟩ (.cons (Pe.ren (slices_IndexFunc_api_Part_api_Part_v1_ok s0 box x h0) ⟨[], [], [], []⟩) .nil) (by kernel_rfl) ?_
  have hF := some_elim hF
  exact Wk_ret (hfin _ ⟨[], [100000], [], [], [], [], by first | (rw [← hF]; kernel_rfl) | kernel_rfl⟩)

/- parts.others -/
noncomputable def parts_others (l : List Part) (a0 : Int) (b : Int) (id : Int) : Option Bool :=
  asrt (0 ≤ a0 ∧ a0 ≤ (l.length : Int)) <|
  ob (slices_ContainsFunc_api_Part_api_Part (ltake l a0) id) fun x =>
  asrt ((!x) = true → 0 ≤ b ∧ b ≤ (l.length : Int)) <|
  ob (if (!x) = true then (slices_ContainsFunc_api_Part_api_Part_v1 (ldrop l b) id) else some default) fun x1 =>
  some (x || x1)
theorem parts_others_ok (l : List Part) (a0 : Int) (b : Int) (id : Int) (r : Bool) (hF : parts_others l a0 b id = some r) : Pe Try.prog 71 S.none [.sl 3 (l.map e_Part), .int .i64 a0, .int .i64 b, .int .i64 id] (.bool r) S.none := by
  refine Pe_of (N := 21) (res := [.tmp 8]) (ts := [4]) Ty.ok Fn.b71 Try.func71 rfl rfl rfl rfl rfl rfl ?_
  intro Q g hfin
  unfold parts_others at hF
  refine Wk_seq ?_
  refine WR [] [0, 1, 2, 7] [7] [] [] [] [] ⟨[(0, .sl 3 (l.map e_Part)), (1, .int .i64 a0), (2, .int .i64 b), (7, .ptr 7 0)], [(7, [.int .i64 id])], [], [], []⟩ .nil (by kernel_rfl) ?_
  refine Wk_seq ?_
  obtain ⟨h0, hF⟩ := asrt_elim hF
  obtain ⟨x, h1, hF⟩ := ob_elim hF
  obtain ⟨h2, hF⟩ := asrt_elim hF
  obtain ⟨x1, h3, hF⟩ := ob_elim hF
  refine WR [.xs ((ltake l a0).map e_Part), .callR [7] [] [] [] (.bool x), .xs ((ldrop l b).map e_Part), .callR [7] [] [] [] (.bool x1)] [8] [] [] [] [] [] ⟨[(8, .bool (x || x1))], [], [], [], []⟩ (.cons (sl01_ok e_Part h0) (.cons (Pe.ren (slices_ContainsFunc_api_Part_api_Part_ok (ltake l a0) id x h1) ⟨[(100000, 7)], [], [], []⟩) (.cons (fun (ga0 : (!x) = true) => (sl10_ok e_Part (h2 ga0))) (.cons (fun (ga0 : (!x) = true) => (Pe.ren (slices_ContainsFunc_api_Part_api_Part_v1_ok (ldrop l b) id x1 (ite_t h3 ga0)) ⟨[(100000, 7)], [], [], []⟩)) .nil)))) (by kernel_rfl) ?_
  have hF := some_elim hF
  exact Wk_ret (hfin _ ⟨[], [], [], [], [], [], by first | (rw [← hF]; kernel_rfl) | kernel_rfl⟩)

/- slices.Grow[[]api.Part,api.Part] -/
noncomputable def slices_Grow_api_Part_api_Part_v1 (num : Int) : Option (List Part) :=
  ob (
    if (decide (num < 0)) = true then
      none
    else
      some ()) fun (v : Unit) =>
  ob (
    if (decide (0 < (w64 (num - (w64 (0 - 0)))))) = true then
      asrt (0 ≤ (w64 (num - (w64 (0 - 0)))) ∧ (w64 (num - (w64 (0 - 0)))).toNat * 40 ≤ 140737488351232) <|
      asrt (0 ≤ (0 : Int) ∧ (0 : Int) ≤ ((List.replicate (w64 (num - (w64 (0 - 0)))).toNat ((⟨([] : List UInt8), ([] : List UInt8), 0⟩ : Part) : Part)).length : Int)) <|
      lt ((List.replicate (w64 (num - (w64 (0 - 0)))).toNat ((⟨([] : List UInt8), ([] : List UInt8), 0⟩ : Part) : Part))) fun (v2 : List Part) =>
      asrt (((0 : Int).toNat) ≤ v2.length) <|
      some (v2.take ((0 : Int).toNat))
    else
      some ([] : List Part)) fun (v1 : List Part) =>
  some v1
theorem slices_Grow_api_Part_api_Part_v1_ok (num : Int) (r : List Part) (hF : slices_Grow_api_Part_api_Part_v1 num = some r) : Pe Try.prog 107 ⟨[], [], [], [], []⟩ [.nils, .int .i64 num] (.row 22 0) ⟨[], [], [(22, ⟨34, 3, 0, 0, 0, false, 0, [], (r.map e_Part)⟩)], [], []⟩ := by
  refine Pe_of (N := 27) (res := [.tmp 4]) (ts := [22]) Ty.ok Fn.b107 Try.func107 rfl rfl rfl rfl rfl rfl ?_
  intro Q g hfin
  unfold slices_Grow_api_Part_api_Part_v1 at hF
  refine Wk_seq ?_
  refine WR [] [0, 1] [] [] [] [] [] ⟨[(0, .nils), (1, .int .i64 num)], [], [], [], []⟩ .nil (by kernel_rfl) ?_
  refine Wk_seq ?_
  refine Wk_seq ?_
  refine WR [] [0, 1, 6] [] [] [] [] [] ⟨[(0, .nils), (1, .int .i64 num), (6, .bool (decide (num < 0)))], [], [], [], []⟩ .nil (by kernel_rfl) ?_
  obtain ⟨v, hv, hF⟩ := ob_elim hF
  refine Wk_meet (⟨[(0, .nils), (1, .int .i64 num)], [], [], [], []⟩ : S) ?_ ?_
  · have hF := hv
    refine Wk_split rfl (fun hb => ?_) (fun hb => ?_)
    · have hF := ite_t hF hb
      cases hF
    · have hF := ite_f hF hb
      refine Wk_skip ?_
      exact Wk_met (fs := [0, 1]) (bs := []) (rs := []) (ms := []) (aa := []) (nv := []) (by first | (rw [← some_elim hF]; kernel_rfl) | kernel_rfl)
  · refine Wk_seq ?_
    refine Wk_seq ?_
    refine WR [] [0, 1] [] [] [] [] [] ⟨[(0, .nils), (1, .int .i64 (w64 (num - (w64 (0 - 0)))))], [], [], [], []⟩ .nil (by kernel_rfl) ?_
    refine Wk_seq ?_
    refine WR [] [0, 1, 16] [] [] [] [] [] ⟨[(0, .nils), (1, .int .i64 (w64 (num - (w64 (0 - 0))))), (16, .bool (decide (0 < (w64 (num - (w64 (0 - 0)))))))], [], [], [], []⟩ .nil (by kernel_rfl) ?_
    obtain ⟨v1, hv, hF⟩ := ob_elim hF
    refine Wk_meet (⟨[(0, .row 22 0)], [], [(22, ⟨34, 3, 0, 0, 0, false, 0, [], (v1.map e_Part)⟩)], [], []⟩ : S) ?_ ?_
    · have hF := hv
      refine Wk_split rfl (fun hb => ?_) (fun hb => ?_)
      · have hF := ite_t hF hb
        obtain ⟨h0, hF⟩ := asrt_elim hF
        obtain ⟨h1, hF⟩ := asrt_elim hF
        refine WRL ((List.replicate (w64 (num - (w64 (0 - 0)))).toNat ((⟨([] : List UInt8), ([] : List UInt8), 0⟩ : Part) : Part))) (fun v2 : List Part => ⟨[(0, .rowv 22 0 0 ((0 : Int).toNat))], [], [(22, ⟨34, 3, 0, 0, 0, true, 0, [], (v2.map e_Part)⟩)], [], []⟩) [.xs ((List.replicate (w64 (num - (w64 (0 - 0)))).toNat ((⟨([] : List UInt8), ([] : List UInt8), 0⟩ : Part) : Part)).map e_Part), .vw ((0 : Int).toNat)] [0] [] [22] [] [] [] (.cons (rfl : (0 : Int) = 0) (.cons h0 (.cons (rep_ok e_Part (w64 (num - (w64 (0 - 0)))) ((⟨([] : List UInt8), ([] : List UInt8), 0⟩ : Part) : Part)) (.cons (vw01_ok (cm := 0) e_Part h1) .nil)))) (by kernel_rfl) (fun v2 hv => ?_)
        have hF := lt_elim hF hv
        obtain ⟨h2, hF⟩ := asrt_elim hF
        refine Wk_trunc 0 22 0 ((0 : Int).toNat) rfl rfl rfl rfl (tk_ok e_Part h2).1 (Nat.zero_le _) ?_
        exact Wk_met (fs := [0]) (bs := []) (rs := [22]) (ms := []) (aa := []) (nv := [(22, ⟨0, false, true, false⟩)]) (by first | (rw [← some_elim hF]; kernel_rfl) | kernel_rfl)
      · have hF := ite_f hF hb
        refine Wk_skip ?_
        refine Wk_nilrow 0 60000 34 3 rfl rfl rfl ?_
        refine Wk_trim (fs := [0]) (bs := []) (rs := [60000]) (ms := []) (aa := []) (nv := []) rfl ?_
        refine Wk_ren' ⟨[], [(60000, 22)], [], []⟩ rfl ?_
        exact Wk_met (fs := [0]) (bs := []) (rs := [22]) (ms := []) (aa := []) (nv := [(22, ⟨0, true, false, false⟩)]) (by first | (rw [← some_elim hF]; kernel_rfl) | kernel_rfl)
    · refine Wk_seq ?_
      refine WR [] [4] [] [22] [] [] [] ⟨[(4, .row 22 0)], [], [(22, ⟨34, 3, 0, 0, 0, false, 0, [], (v1.map e_Part)⟩)], [], []⟩ .nil (by kernel_rfl) ?_
      have hF := some_elim hF
      exact Wk_ret (hfin _ ⟨[22], [], [22], [], [], [], by first | (rw [← hF]; kernel_rfl) | kernel_rfl⟩)

/- slices.Concat[[]api.Part,api.Part] -/
noncomputable def slices_Concat_api_Part_api_Part_J2 (v1 : List Part) : Option (List Part) :=
  some v1
noncomputable def slices_Concat_api_Part_api_Part_B1 (slices : List (List Part)) (v2 : List Part × Int) : Option ((List Part × Int) ⊕ (List Part)) :=
  if (decide (v2.2 < (slices.length : Int))) = true then
    asrt (0 ≤ v2.2 ∧ v2.2 < (slices.length : Int)) <|
    asrt (((v2.1 ++ (lget slices v2.2)).length : Int) * 40 ≤ 140737488351232) <|
    some (Sum.inl ((v2.1 ++ (lget slices v2.2)), w64 (v2.2 + 1)))
  else
    inrO (slices_Concat_api_Part_api_Part_J2 v2.1)
noncomputable def slices_Concat_api_Part_api_Part_L1 (slices : List (List Part)) (v0 : List Part × Int) : Option (List Part) :=
  loopO (fun y => slices_Concat_api_Part_api_Part_B1 slices y) v0
noncomputable def slices_Concat_api_Part_api_Part_J1 (slices : List (List Part)) (v : Int) : Option (List Part) :=
  ob (slices_Grow_api_Part_api_Part_v1 v) fun x =>
  slices_Concat_api_Part_api_Part_L1 slices (x, 0)
noncomputable def slices_Concat_api_Part_api_Part_B2 (slices : List (List Part)) (v3 : Int × Int) : Option ((Int × Int) ⊕ (List Part)) :=
  if (decide (v3.2 < (slices.length : Int))) = true then
    asrt (0 ≤ v3.2 ∧ v3.2 < (slices.length : Int)) <|
    ob (
      if (decide ((w64 (v3.1 + ((lget slices v3.2).length : Int))) < 0)) = true then
        none
      else
        some ()) fun (v4 : Unit) =>
    some (Sum.inl (w64 (v3.1 + ((lget slices v3.2).length : Int)), w64 (v3.2 + 1)))
  else
    inrO (slices_Concat_api_Part_api_Part_J1 slices v3.1)
noncomputable def slices_Concat_api_Part_api_Part_L2 (slices : List (List Part)) (v0 : Int × Int) : Option (List Part) :=
  loopO (fun y => slices_Concat_api_Part_api_Part_B2 slices y) v0
noncomputable def slices_Concat_api_Part_api_Part (slices : List (List Part)) : Option (List Part) :=
  slices_Concat_api_Part_api_Part_L2 slices (0, 0)
theorem slices_Concat_api_Part_api_Part_ok (slices : List (List Part)) (r : List Part) (hF : slices_Concat_api_Part_api_Part slices = some r) : Pe Try.prog 72 ⟨[], [], [], [], []⟩ [.sl 1 (slices.map e_L_Part)] (.row 24 0) ⟨[], [], [(24, ⟨34, 3, 0, 0, 0, false, 0, [], (r.map e_Part)⟩)], [], []⟩ := by
  refine Pe_of (N := 36) (res := [.tmp 2]) (ts := [22]) Ty.ok Fn.b72 Try.func72 rfl rfl rfl rfl rfl rfl ?_
  intro Q g hfin
  unfold slices_Concat_api_Part_api_Part at hF
  refine Wk_seq ?_
  refine WR [] [0] [] [] [] [] [] ⟨[(0, .sl 1 (slices.map e_L_Part))], [], [], [], []⟩ .nil (by kernel_rfl) ?_
  refine Wk_seq ?_
  refine WR [] [0, 3] [] [] [] [] [] ⟨[(0, .sl 1 (slices.map e_L_Part)), (3, .int .i64 0)], [], [], [], []⟩ .nil (by kernel_rfl) ?_
  refine Wk_seq ?_
  refine Wk_seq ?_
  refine WR [.nat (slices.length : Int)] [0, 3, 9, 10, 11] [] [] [] [] [] ⟨[(0, .sl 1 (slices.map e_L_Part)), (3, .int .i64 0), (9, .sl 1 (slices.map e_L_Part)), (10, .int .i64 (slices.length : Int)), (11, .int .i64 0)], [], [], [], []⟩ (.cons (len_ok e_L_Part slices) .nil) (by kernel_rfl) ?_
  refine Wk_meetP (fun v : Int => (⟨[(0, .sl 1 (slices.map e_L_Part)), (3, .int .i64 v)], [], [], [], []⟩ : S)) (fun v => slices_Concat_api_Part_api_Part_J1 slices v = some r) ?_ ?_
  · refine Wk_block ?_
    unfold slices_Concat_api_Part_api_Part_L2 at hF
    refine Wk_trim (fs := [0, 3, 9, 10, 11]) (bs := []) (rs := []) (ms := []) (aa := []) (nv := []) (t := (fun v3 : Int × Int => (⟨[(0, .sl 1 (slices.map e_L_Part)), (3, .int .i64 v3.1), (9, .sl 1 (slices.map e_L_Part)), (10, .int .i64 (slices.length : Int)), (11, .int .i64 v3.2)], [], [], [], []⟩ : S)) (0, 0)) (by kernel_rfl) ?_
    refine Wk_iter (step := fun y => slices_Concat_api_Part_api_Part_B2 slices y) (r := r) (fun v3 : Int × Int => (⟨[(0, .sl 1 (slices.map e_L_Part)), (3, .int .i64 v3.1), (9, .sl 1 (slices.map e_L_Part)), (10, .int .i64 (slices.length : Int)), (11, .int .i64 v3.2)], [], [], [], []⟩ : S)) (0, 0) hF ?_
    intro n1 v3 y1 hF ih1 dn1
    have hF : slices_Concat_api_Part_api_Part_B2 slices v3 = some y1 := hF
    unfold slices_Concat_api_Part_api_Part_B2 at hF
    refine Wk_seq ?_
    refine WR [] [0, 3, 9, 10, 11, 12] [] [] [] [] [] ⟨[(0, .sl 1 (slices.map e_L_Part)), (3, .int .i64 v3.1), (9, .sl 1 (slices.map e_L_Part)), (10, .int .i64 (slices.length : Int)), (11, .int .i64 v3.2), (12, .bool (decide (v3.2 < (slices.length : Int))))], [], [], [], []⟩ .nil (by kernel_rfl) ?_
    refine Wk_seq ?_
    refine Wk_split rfl (fun hb => ?_) (fun hb => ?_)
    · have hF := ite_t hF hb
      refine Wk_skip ?_
      refine Wk_seq ?_
      refine Wk_block ?_
      refine Wk_seq ?_
      obtain ⟨h3, hF⟩ := asrt_elim hF
      refine WR [.av (e_L_Part (lget slices v3.2))] [0, 3, 5, 9, 10, 11] [] [] [] [] [] ⟨[(0, .sl 1 (slices.map e_L_Part)), (3, .int .i64 v3.1), (5, .sl 3 ((lget slices v3.2).map e_Part)), (9, .sl 1 (slices.map e_L_Part)), (10, .int .i64 (slices.length : Int)), (11, .int .i64 v3.2)], [], [], [], []⟩ (.cons (idx_ok e_L_Part h3) .nil) (by kernel_rfl) ?_
      refine Wk_seq ?_
      refine WR [.nat ((lget slices v3.2).length : Int)] [0, 3, 9, 10, 11] [] [] [] [] [] ⟨[(0, .sl 1 (slices.map e_L_Part)), (3, .int .i64 (w64 (v3.1 + ((lget slices v3.2).length : Int)))), (9, .sl 1 (slices.map e_L_Part)), (10, .int .i64 (slices.length : Int)), (11, .int .i64 v3.2)], [], [], [], []⟩ (.cons (len_ok e_Part (lget slices v3.2)) .nil) (by kernel_rfl) ?_
      refine Wk_seq ?_
      refine WR [] [0, 3, 9, 10, 11, 20] [] [] [] [] [] ⟨[(0, .sl 1 (slices.map e_L_Part)), (3, .int .i64 (w64 (v3.1 + ((lget slices v3.2).length : Int)))), (9, .sl 1 (slices.map e_L_Part)), (10, .int .i64 (slices.length : Int)), (11, .int .i64 v3.2), (20, .bool (decide ((w64 (v3.1 + ((lget slices v3.2).length : Int))) < 0)))], [], [], [], []⟩ .nil (by kernel_rfl) ?_
      obtain ⟨v4, hv, hF⟩ := ob_elim hF
      refine Wk_meet (⟨[(0, .sl 1 (slices.map e_L_Part)), (3, .int .i64 (w64 (v3.1 + ((lget slices v3.2).length : Int)))), (9, .sl 1 (slices.map e_L_Part)), (10, .int .i64 (slices.length : Int)), (11, .int .i64 v3.2)], [], [], [], []⟩ : S) ?_ ?_
      · have hF := hv
        refine Wk_split rfl (fun hb => ?_) (fun hb => ?_)
        · have hF := ite_t hF hb
          cases hF
        · have hF := ite_f hF hb
          refine Wk_skip ?_
          exact Wk_met (fs := [0, 3, 9, 10, 11]) (bs := []) (rs := []) (ms := []) (aa := []) (nv := []) (by first | (rw [← some_elim hF]; kernel_rfl) | kernel_rfl)
      · refine Wk_blk ?_
        refine WR [] [0, 3, 9, 10, 11] [] [] [] [] [] ⟨[(0, .sl 1 (slices.map e_L_Part)), (3, .int .i64 (w64 (v3.1 + ((lget slices v3.2).length : Int)))), (9, .sl 1 (slices.map e_L_Part)), (10, .int .i64 (slices.length : Int)), (11, .int .i64 (w64 (v3.2 + 1)))], [], [], [], []⟩ .nil (by kernel_rfl) ?_
        refine Wk_trim (fs := [0, 3, 9, 10, 11]) (bs := []) (rs := []) (ms := []) (aa := []) (nv := []) ?_ (ih1 _ (some_elim hF).symm)
        kernel_rfl
    · have hF := ite_f hF hb
      refine Wk_exit rfl ?_
      have hF := inrO_done hF dn1
      exact Wk_metP v3.1 [0, 3] [] [] [] [] [] hF (by kernel_rfl)
  · intro v hF
    have hF : slices_Concat_api_Part_api_Part_J1 slices v = some r := hF
    unfold slices_Concat_api_Part_api_Part_J1 at hF
    refine Wk_seq ?_
    obtain ⟨x, h0, hF⟩ := ob_elim hF
    refine WR [.raw [0], .callE [] [] [] [] (.row 24 0) ⟨[], [], [(24, ⟨34, 3, 0, 0, 0, false, 0, [], (x.map e_Part)⟩)], [], []⟩] [0, 6] [] [24] [] [] [] ⟨[(0, .sl 1 (slices.map e_L_Part)), (6, .row 24 0)], [], [(24, ⟨34, 3, 0, 0, 0, false, 0, [], (x.map e_Part)⟩)], [], []⟩ (.cons (Pe.ren (slices_Grow_api_Part_api_Part_v1_ok v x h0) ⟨[], [(22, 24)], [], []⟩) .nil) (by kernel_rfl) ?_
    refine Wk_seq ?_
    refine Wk_seq ?_
    refine WR [.nat (slices.length : Int)] [6, 25, 26, 27] [] [24] [] [] [] ⟨[(6, .row 24 0), (25, .sl 1 (slices.map e_L_Part)), (26, .int .i64 (slices.length : Int)), (27, .int .i64 0)], [], [(24, ⟨34, 3, 0, 0, 0, false, 0, [], (x.map e_Part)⟩)], [], []⟩ (.cons (len_ok e_L_Part slices) .nil) (by kernel_rfl) ?_
    refine Wk_meetP (fun v1 : List Part => (⟨[(6, .row 24 0)], [], [(24, ⟨34, 3, 0, 0, 0, false, 0, [], (v1.map e_Part)⟩)], [], []⟩ : S)) (fun v1 => slices_Concat_api_Part_api_Part_J2 v1 = some r) ?_ ?_
    · refine Wk_block ?_
      unfold slices_Concat_api_Part_api_Part_L1 at hF
      refine Wk_trim (fs := [6, 25, 26, 27]) (bs := []) (rs := [24]) (ms := []) (aa := []) (nv := []) (t := (fun v2 : List Part × Int => (⟨[(6, .row 24 0), (25, .sl 1 (slices.map e_L_Part)), (26, .int .i64 (slices.length : Int)), (27, .int .i64 v2.2)], [], [(24, ⟨34, 3, 0, 0, 0, false, 0, [], (v2.1.map e_Part)⟩)], [], []⟩ : S)) (x, 0)) (by kernel_rfl) ?_
      refine Wk_iter (step := fun y => slices_Concat_api_Part_api_Part_B1 slices y) (r := r) (fun v2 : List Part × Int => (⟨[(6, .row 24 0), (25, .sl 1 (slices.map e_L_Part)), (26, .int .i64 (slices.length : Int)), (27, .int .i64 v2.2)], [], [(24, ⟨34, 3, 0, 0, 0, false, 0, [], (v2.1.map e_Part)⟩)], [], []⟩ : S)) (x, 0) hF ?_
      intro n1 v2 y1 hF ih1 dn1
      have hF : slices_Concat_api_Part_api_Part_B1 slices v2 = some y1 := hF
      unfold slices_Concat_api_Part_api_Part_B1 at hF
      refine Wk_seq ?_
      refine WR [] [6, 25, 26, 27, 28] [] [24] [] [] [] ⟨[(6, .row 24 0), (25, .sl 1 (slices.map e_L_Part)), (26, .int .i64 (slices.length : Int)), (27, .int .i64 v2.2), (28, .bool (decide (v2.2 < (slices.length : Int))))], [], [(24, ⟨34, 3, 0, 0, 0, false, 0, [], (v2.1.map e_Part)⟩)], [], []⟩ .nil (by kernel_rfl) ?_
      refine Wk_seq ?_
      refine Wk_split rfl (fun hb => ?_) (fun hb => ?_)
      · have hF := ite_t hF hb
        refine Wk_skip ?_
        refine Wk_seq ?_
        refine Wk_block ?_
        refine Wk_seq ?_
        obtain ⟨h1, hF⟩ := asrt_elim hF
        refine WR [.av (e_L_Part (lget slices v2.2))] [6, 8, 25, 26, 27] [] [24] [] [] [] ⟨[(6, .row 24 0), (8, .sl 3 ((lget slices v2.2).map e_Part)), (25, .sl 1 (slices.map e_L_Part)), (26, .int .i64 (slices.length : Int)), (27, .int .i64 v2.2)], [], [(24, ⟨34, 3, 0, 0, 0, false, 0, [], (v2.1.map e_Part)⟩)], [], []⟩ (.cons (idx_ok e_L_Part h1) .nil) (by kernel_rfl) ?_
        obtain ⟨h2, hF⟩ := asrt_elim hF
        refine WR [.xs ((v2.1 ++ (lget slices v2.2)).map e_Part)] [6, 25, 26, 27] [] [24] [] [] [] ⟨[(6, .row 24 1), (25, .sl 1 (slices.map e_L_Part)), (26, .int .i64 (slices.length : Int)), (27, .int .i64 v2.2)], [], [(24, ⟨34, 3, 1, 0, 0, false, 0, [], ((v2.1 ++ (lget slices v2.2)).map e_Part)⟩)], [], []⟩ (.cons (app_ok e_Part v2.1 (lget slices v2.2)) (.cons (appl_ok e_Part h2) .nil)) (by kernel_rfl) ?_
        refine Wk_blk ?_
        refine WR [] [6, 25, 26, 27] [] [24] [] [] [] ⟨[(6, .row 24 1), (25, .sl 1 (slices.map e_L_Part)), (26, .int .i64 (slices.length : Int)), (27, .int .i64 (w64 (v2.2 + 1)))], [], [(24, ⟨34, 3, 1, 0, 0, false, 0, [], ((v2.1 ++ (lget slices v2.2)).map e_Part)⟩)], [], []⟩ .nil (by kernel_rfl) ?_
        refine Wk_trim (fs := [6, 25, 26, 27]) (bs := []) (rs := [24]) (ms := []) (aa := []) (nv := [(24, ⟨0, true, true, false⟩)]) ?_ (ih1 _ (some_elim hF).symm)
        kernel_rfl
      · have hF := ite_f hF hb
        refine Wk_exit rfl ?_
        have hF := inrO_done hF dn1
        exact Wk_metP v2.1 [6] [] [24] [] [] [] hF (by kernel_rfl)
    · intro v1 hF
      have hF : slices_Concat_api_Part_api_Part_J2 v1 = some r := hF
      unfold slices_Concat_api_Part_api_Part_J2 at hF
      refine Wk_seq ?_
      refine WR [] [2] [] [24] [] [] [] ⟨[(2, .row 24 0)], [], [(24, ⟨34, 3, 0, 0, 0, false, 0, [], (v1.map e_Part)⟩)], [], []⟩ .nil (by kernel_rfl) ?_
      have hF := some_elim hF
      exact Wk_ret (hfin _ ⟨[24], [], [24], [], [], [], by first | (rw [← hF]; kernel_rfl) | kernel_rfl⟩)

/- parts.Split -/
noncomputable def parts_Split_v1 (l : List Part) (at0 : Int) (row : List UInt8) (left : Int) (right : Int) : Option (List Part × Fault) :=
  ob (parts_Check l) fun x =>
  if (!decide (x.Code = 0)) = true then
    some (([] : List Part), x)
  else
    if ((decide (at0 < 0)) || (decide ((l.length : Int) ≤ at0))) = true then
      lt (parts_fault 3 (-1)) fun x1 =>
      some (([] : List Part), x1)
    else
      if (decide (40 < (row.length : Int))) = true then
        lt (parts_fault 8 (-2)) fun x2 =>
        some (([] : List Part), x2)
      else
        asrt (0 ≤ at0 ∧ at0 < (l.length : Int)) <|
        ob (if (!(!Op.bytesLess ((lget l at0).From) row)) = true then (parts_find l row) else some default) fun x3 =>
        if ((!Op.bytesLess ((lget l at0).From) row) || (!decide (x3 = at0))) = true then
          lt (parts_fault 5 (-2)) fun x4 =>
          some (([] : List Part), x4)
        else
          lt (parts_number left) fun x5 =>
          lt (parts_number right) fun x6 =>
          if ((!x5) || (!x6)) = true then
            lt (parts_fault 3 (-3)) fun x7 =>
            some (([] : List Part), x7)
          else
            ob (if (!(decide (left = right))) = true then (parts_others l at0 (w64 (at0 + 1)) left) else some default) fun x8 =>
            ob (if (!((decide (left = right)) || x8)) = true then (parts_others l at0 (w64 (at0 + 1)) right) else some default) fun x9 =>
            if (((decide (left = right)) || x8) || x9) = true then
              lt (parts_fault 10 (-3)) fun x10 =>
              some (([] : List Part), x10)
            else
              if (decide ((l.length : Int) = 200)) = true then
                lt (parts_fault 2 (-1)) fun x11 =>
                some (([] : List Part), x11)
              else
                asrt (0 ≤ at0 ∧ at0 < (l.length : Int)) <|
                lt ([(⟨(lget l at0).From, row, left⟩ : Part), (⟨row, (lget l at0).To, right⟩ : Part)]) fun (v : List Part) =>
                asrt (0 ≤ at0 ∧ at0 ≤ (l.length : Int)) <|
                asrt (0 ≤ w64 (at0 + 1) ∧ w64 (at0 + 1) ≤ (l.length : Int)) <|
                ob (slices_Concat_api_Part_api_Part ([(ltake l at0), v, (ldrop l (w64 (at0 + 1)))] : List (List Part))) fun x12 =>
                some (x12, (⟨0, 0⟩ : Fault))
theorem parts_Split_v1_ok (l : List Part) (at0 : Int) (row : List UInt8) (left : Int) (right : Int) (r : List Part × Fault) (hF : parts_Split_v1 l at0 row left right = some r) : Pe Try.prog 18 S.none [.sl 3 (l.map e_Part), .int .i64 at0, .str row, .int .i64 left, .int .i64 right] (.tup [.sl 3 (r.1.map e_Part), .agg [.int .i64 r.2.Code, .int .i64 r.2.At]]) S.none := by
  refine Pe_of (N := 114) (res := [.tmp 10, .cell 11 26]) (ts := [22, 26]) Ty.ok Fn.b18 Try.func18 rfl rfl rfl rfl rfl rfl ?_
  intro Q g hfin
  unfold parts_Split_v1 at hF
  refine Wk_seq ?_
  refine WR [] [0, 1, 2, 3, 4, 11] [11] [] [] [] [] ⟨[(0, .sl 3 (l.map e_Part)), (1, .int .i64 at0), (2, .str row), (3, .int .i64 left), (4, .int .i64 right), (11, .ptr 11 0)], [(11, [.int .i64 0, .int .i64 0])], [], [], []⟩ .nil (by kernel_rfl) ?_
  refine Wk_seq ?_
  refine Wk_seq ?_
  obtain ⟨x, h0, hF⟩ := ob_elim hF
  refine WR [.callB (.agg [.int .i64 x.Code, .int .i64 x.At])] [0, 1, 2, 3, 4, 11, 12] [11, 12] [] [] [] [] ⟨[(0, .sl 3 (l.map e_Part)), (1, .int .i64 at0), (2, .str row), (3, .int .i64 left), (4, .int .i64 right), (11, .ptr 11 0), (12, .ptr 12 0)], [(11, [.int .i64 0, .int .i64 0]), (12, [.int .i64 x.Code, .int .i64 x.At])], [], [], []⟩ (.cons (parts_Check_ok l x h0) .nil) (by kernel_rfl) ?_
  refine Wk_seq ?_
  refine WR [] [0, 1, 2, 3, 4, 11, 12, 19] [11, 12] [] [] [] [] ⟨[(0, .sl 3 (l.map e_Part)), (1, .int .i64 at0), (2, .str row), (3, .int .i64 left), (4, .int .i64 right), (11, .ptr 11 0), (12, .ptr 12 0), (19, .bool (!decide (x.Code = 0)))], [(11, [.int .i64 0, .int .i64 0]), (12, [.int .i64 x.Code, .int .i64 x.At])], [], [], []⟩ .nil (by kernel_rfl) ?_
  refine Wk_split rfl (fun hb => ?_) (fun hb => ?_)
  · have hF := ite_t hF hb
    refine Wk_seq ?_
    refine WD [] [10, 11] [11] [] [] [] [] ⟨[(10, .nils), (11, .ptr 11 0)], [(11, [.int .i64 x.Code, .int .i64 x.At])], [], [], []⟩ .nil (by kernel_rfl) ?_
    have hF := some_elim hF
    exact Wk_ret (hfin _ ⟨[], [], [], [], [], [], by first | (rw [← hF]; kernel_rfl) | kernel_rfl⟩)
  · have hF := ite_f hF hb
    refine Wk_skip ?_
    refine Wk_seq ?_
    refine Wk_block ?_
    refine Wk_seq ?_
    refine WR [.nat (l.length : Int)] [0, 1, 2, 3, 4, 11, 21] [11] [] [] [] [] ⟨[(0, .sl 3 (l.map e_Part)), (1, .int .i64 at0), (2, .str row), (3, .int .i64 left), (4, .int .i64 right), (11, .ptr 11 0), (21, .bool ((decide (at0 < 0)) || (decide ((l.length : Int) ≤ at0))))], [(11, [.int .i64 0, .int .i64 0])], [], [], []⟩ (.cons (fun (_ : (!(decide (at0 < 0))) = true) => (len_ok e_Part l)) .nil) (by kernel_rfl) ?_
    refine Wk_split rfl (fun hb => ?_) (fun hb => ?_)
    · have hF := ite_t hF hb
      refine Wk_seq ?_
      obtain ⟨x1, h1, hF⟩ := lt_split hF
      refine WR [.callB (.agg [.int .i64 x1.Code, .int .i64 x1.At])] [10, 11] [11] [] [] [] [] ⟨[(10, .nils), (11, .ptr 11 0)], [(11, [.int .i64 x1.Code, .int .i64 x1.At])], [], [], []⟩ (.cons (parts_fault_ok 3 (-1) x1 h1) .nil) (by kernel_rfl) ?_
      have hF := some_elim hF
      exact Wk_ret (hfin _ ⟨[], [], [], [], [], [], by first | (rw [← hF]; kernel_rfl) | kernel_rfl⟩)
    · have hF := ite_f hF hb
      refine Wk_seq ?_
      refine WR [] [0, 1, 2, 3, 4, 11, 31] [11] [] [] [] [] ⟨[(0, .sl 3 (l.map e_Part)), (1, .int .i64 at0), (2, .str row), (3, .int .i64 left), (4, .int .i64 right), (11, .ptr 11 0), (31, .bool (decide (40 < (row.length : Int))))], [(11, [.int .i64 0, .int .i64 0])], [], [], []⟩ .nil (by kernel_rfl) ?_
      refine Wk_split rfl (fun hb => ?_) (fun hb => ?_)
      · have hF := ite_t hF hb
        refine Wk_seq ?_
        obtain ⟨x2, h2, hF⟩ := lt_split hF
        refine WR [.callB (.agg [.int .i64 x2.Code, .int .i64 x2.At])] [10, 11] [11] [] [] [] [] ⟨[(10, .nils), (11, .ptr 11 0)], [(11, [.int .i64 x2.Code, .int .i64 x2.At])], [], [], []⟩ (.cons (parts_fault_ok 8 (-2) x2 h2) .nil) (by kernel_rfl) ?_
        have hF := some_elim hF
        exact Wk_ret (hfin _ ⟨[], [], [], [], [], [], by first | (rw [← hF]; kernel_rfl) | kernel_rfl⟩)
      · have hF := ite_f hF hb
        refine Wk_seq ?_
        obtain ⟨h3, hF⟩ := asrt_elim hF
        obtain ⟨x3, h4, hF⟩ := ob_elim hF
        refine WR [.av (e_Part (lget l at0)), .callB (.int .i64 x3)] [0, 1, 2, 3, 4, 11, 36] [11] [] [] [] [] ⟨[(0, .sl 3 (l.map e_Part)), (1, .int .i64 at0), (2, .str row), (3, .int .i64 left), (4, .int .i64 right), (11, .ptr 11 0), (36, .bool ((!Op.bytesLess ((lget l at0).From) row) || (!decide (x3 = at0))))], [(11, [.int .i64 0, .int .i64 0])], [], [], []⟩ (.cons (idx_ok e_Part h3) (.cons (fun (ga0 : (!(!Op.bytesLess ((lget l at0).From) row)) = true) => (parts_find_ok l row x3 (ite_t h4 ga0))) .nil)) (by kernel_rfl) ?_
        refine Wk_split rfl (fun hb => ?_) (fun hb => ?_)
        · have hF := ite_t hF hb
          refine Wk_seq ?_
          obtain ⟨x4, h5, hF⟩ := lt_split hF
          refine WR [.callB (.agg [.int .i64 x4.Code, .int .i64 x4.At])] [10, 11] [11] [] [] [] [] ⟨[(10, .nils), (11, .ptr 11 0)], [(11, [.int .i64 x4.Code, .int .i64 x4.At])], [], [], []⟩ (.cons (parts_fault_ok 5 (-2) x4 h5) .nil) (by kernel_rfl) ?_
          have hF := some_elim hF
          exact Wk_ret (hfin _ ⟨[], [], [], [], [], [], by first | (rw [← hF]; kernel_rfl) | kernel_rfl⟩)
        · have hF := ite_f hF hb
          refine Wk_seq ?_
          obtain ⟨x5, h6, hF⟩ := lt_split hF
          obtain ⟨x6, h7, hF⟩ := lt_split hF
          refine WR [.callB (.bool x5), .callB (.bool x6)] [0, 1, 2, 3, 4, 11, 52] [11] [] [] [] [] ⟨[(0, .sl 3 (l.map e_Part)), (1, .int .i64 at0), (2, .str row), (3, .int .i64 left), (4, .int .i64 right), (11, .ptr 11 0), (52, .bool ((!x5) || (!x6)))], [(11, [.int .i64 0, .int .i64 0])], [], [], []⟩ (.cons (parts_number_ok left x5 h6) (.cons (fun (ga0 : (!(!x5)) = true) => (parts_number_ok right x6 h7)) .nil)) (by kernel_rfl) ?_
          refine Wk_split rfl (fun hb => ?_) (fun hb => ?_)
          · have hF := ite_t hF hb
            refine Wk_seq ?_
            obtain ⟨x7, h8, hF⟩ := lt_split hF
            refine WR [.callB (.agg [.int .i64 x7.Code, .int .i64 x7.At])] [10, 11] [11] [] [] [] [] ⟨[(10, .nils), (11, .ptr 11 0)], [(11, [.int .i64 x7.Code, .int .i64 x7.At])], [], [], []⟩ (.cons (parts_fault_ok 3 (-3) x7 h8) .nil) (by kernel_rfl) ?_
            have hF := some_elim hF
            exact Wk_ret (hfin _ ⟨[], [], [], [], [], [], by first | (rw [← hF]; kernel_rfl) | kernel_rfl⟩)
          · have hF := ite_f hF hb
            refine Wk_seq ?_
            obtain ⟨x8, h9, hF⟩ := ob_elim hF
            obtain ⟨x9, h10, hF⟩ := ob_elim hF
            refine WR [.callB (.bool x8), .callB (.bool x9)] [0, 1, 2, 3, 4, 11, 62] [11] [] [] [] [] ⟨[(0, .sl 3 (l.map e_Part)), (1, .int .i64 at0), (2, .str row), (3, .int .i64 left), (4, .int .i64 right), (11, .ptr 11 0), (62, .bool (((decide (left = right)) || x8) || x9))], [(11, [.int .i64 0, .int .i64 0])], [], [], []⟩ (.cons (fun (ga0 : (!(decide (left = right))) = true) => (parts_others_ok l at0 (w64 (at0 + 1)) left x8 (ite_t h9 ga0))) (.cons (fun (ga0 : (!((decide (left = right)) || x8)) = true) => (parts_others_ok l at0 (w64 (at0 + 1)) right x9 (ite_t h10 ga0))) .nil)) (by kernel_rfl) ?_
            refine Wk_split rfl (fun hb => ?_) (fun hb => ?_)
            · have hF := ite_t hF hb
              refine Wk_seq ?_
              obtain ⟨x10, h11, hF⟩ := lt_split hF
              refine WR [.callB (.agg [.int .i64 x10.Code, .int .i64 x10.At])] [10, 11] [11] [] [] [] [] ⟨[(10, .nils), (11, .ptr 11 0)], [(11, [.int .i64 x10.Code, .int .i64 x10.At])], [], [], []⟩ (.cons (parts_fault_ok 10 (-3) x10 h11) .nil) (by kernel_rfl) ?_
              have hF := some_elim hF
              exact Wk_ret (hfin _ ⟨[], [], [], [], [], [], by first | (rw [← hF]; kernel_rfl) | kernel_rfl⟩)
            · have hF := ite_f hF hb
              refine Wk_seq ?_
              refine WR [.nat (l.length : Int)] [0, 1, 2, 3, 4, 11, 83] [11] [] [] [] [] ⟨[(0, .sl 3 (l.map e_Part)), (1, .int .i64 at0), (2, .str row), (3, .int .i64 left), (4, .int .i64 right), (11, .ptr 11 0), (83, .bool (decide ((l.length : Int) = 200)))], [(11, [.int .i64 0, .int .i64 0])], [], [], []⟩ (.cons (len_ok e_Part l) .nil) (by kernel_rfl) ?_
              refine Wk_split rfl (fun hb => ?_) (fun hb => ?_)
              · have hF := ite_t hF hb
                refine Wk_seq ?_
                obtain ⟨x11, h12, hF⟩ := lt_split hF
                refine WR [.callB (.agg [.int .i64 x11.Code, .int .i64 x11.At])] [10, 11] [11] [] [] [] [] ⟨[(10, .nils), (11, .ptr 11 0)], [(11, [.int .i64 x11.Code, .int .i64 x11.At])], [], [], []⟩ (.cons (parts_fault_ok 2 (-1) x11 h12) .nil) (by kernel_rfl) ?_
                have hF := some_elim hF
                exact Wk_ret (hfin _ ⟨[], [], [], [], [], [], by first | (rw [← hF]; kernel_rfl) | kernel_rfl⟩)
              · have hF := ite_f hF hb
                refine Wk_skip ?_
                refine Wk_blk ?_
                refine Wk_seq ?_
                obtain ⟨h13, hF⟩ := asrt_elim hF
                refine WR [.av (e_Part (lget l at0))] [0, 1, 2, 3, 4, 11, 13] [11, 13] [] [] [] [] ⟨[(0, .sl 3 (l.map e_Part)), (1, .int .i64 at0), (2, .str row), (3, .int .i64 left), (4, .int .i64 right), (11, .ptr 11 0), (13, .ptr 13 0)], [(11, [.int .i64 0, .int .i64 0]), (13, [.str ((lget l at0).From), .str ((lget l at0).To), .int .i64 ((lget l at0).ID)])], [], [], []⟩ (.cons (idx_ok e_Part h13) .nil) (by kernel_rfl) ?_
                refine Wk_seq ?_
                refine WRL ([(⟨(lget l at0).From, row, left⟩ : Part), (⟨row, (lget l at0).To, right⟩ : Part)]) (fun v : List Part => ⟨[(0, .sl 3 (l.map e_Part)), (1, .int .i64 at0), (11, .ptr 11 0), (14, .sl 3 (v.map e_Part))], [(11, [.int .i64 0, .int .i64 0])], [], [], []⟩) [.sealed] [0, 1, 11, 14] [11] [] [] [] [] .nil (by kernel_rfl) (fun v hv => ?_)
                have hF := lt_elim hF hv
                refine Wk_seq ?_
                obtain ⟨h14, hF⟩ := asrt_elim hF
                obtain ⟨h15, hF⟩ := asrt_elim hF
                obtain ⟨x12, h16, hF⟩ := ob_elim hF
                refine WD [.xs ((ltake l at0).map e_Part), .xs ((ldrop l (w64 (at0 + 1))).map e_Part), .sealed, .callE [] [] [] [] (.row 112 0) ⟨[], [], [(112, ⟨34, 3, 0, 0, 0, false, 0, [], (x12.map e_Part)⟩)], [], []⟩] [10, 11] [11] [112] [] [] [] ⟨[(10, .row 112 0), (11, .ptr 11 0)], [(11, [.int .i64 0, .int .i64 0])], [(112, ⟨34, 3, 0, 0, 0, false, 0, [], (x12.map e_Part)⟩)], [], []⟩ (.cons (sl01_ok e_Part h14) (.cons (sl10_ok e_Part h15) (.cons (Pe.ren (slices_Concat_api_Part_api_Part_ok ([(ltake l at0), v, (ldrop l (w64 (at0 + 1)))] : List (List Part)) x12 h16) ⟨[], [(24, 112)], [], []⟩) .nil))) (by kernel_rfl) ?_
                have hF := some_elim hF
                exact Wk_ret (hfin _ ⟨[], [], [], [], [], [], by first | (rw [← hF]; kernel_rfl) | kernel_rfl⟩)

/- tabularyref.SameParts -/
noncomputable def R_SameParts_J1 (v : Unit) : Option Bool :=
  some true
noncomputable def R_SameParts_B1 (a0 : List Part) (b : List Part) (v1 : Int) : Option (Int ⊕ Bool) :=
  if (decide (v1 < (a0.length : Int))) = true then
    asrt (0 ≤ v1 ∧ v1 < (a0.length : Int)) <|
    asrt (0 ≤ v1 ∧ v1 < (b.length : Int)) <|
    if (!(decide ((lget a0 v1).From = (lget b v1).From) && (decide ((lget a0 v1).To = (lget b v1).To) && (decide ((lget a0 v1).ID = (lget b v1).ID) && true)))) = true then
      some (Sum.inr false)
    else
      some (Sum.inl (w64 (v1 + 1)))
  else
    inrO (R_SameParts_J1 ())
noncomputable def R_SameParts_L1 (a0 : List Part) (b : List Part) (v0 : Int) : Option Bool :=
  loopO (fun y => R_SameParts_B1 a0 b y) v0
noncomputable def R_SameParts (a0 : List Part) (b : List Part) : Option Bool :=
  if (!decide ((a0.length : Int) = (b.length : Int))) = true then
    some false
  else
    R_SameParts_L1 a0 b 0
theorem R_SameParts_ok (a0 : List Part) (b : List Part) (r : Bool) (hF : R_SameParts a0 b = some r) : Pe Try.prog 21 S.none [.sl 3 (a0.map e_Part), .sl 3 (b.map e_Part)] (.bool r) S.none := by
  refine Pe_of (N := 26) (res := [.tmp 4]) (ts := [4]) Ty.ok Fn.b21 Try.func21 rfl rfl rfl rfl rfl rfl ?_
  intro Q g hfin
  unfold R_SameParts at hF
  refine Wk_seq ?_
  refine WR [] [0, 1] [] [] [] [] [] ⟨[(0, .sl 3 (a0.map e_Part)), (1, .sl 3 (b.map e_Part))], [], [], [], []⟩ .nil (by kernel_rfl) ?_
  refine Wk_seq ?_
  refine Wk_seq ?_
  refine WR [.nat (a0.length : Int), .nat (b.length : Int)] [0, 1, 10] [] [] [] [] [] ⟨[(0, .sl 3 (a0.map e_Part)), (1, .sl 3 (b.map e_Part)), (10, .bool (!decide ((a0.length : Int) = (b.length : Int))))], [], [], [], []⟩ (.cons (len_ok e_Part a0) (.cons (len_ok e_Part b) .nil)) (by kernel_rfl) ?_
  refine Wk_split rfl (fun hb => ?_) (fun hb => ?_)
  · have hF := ite_t hF hb
    refine Wk_seq ?_
    refine WR [] [4] [] [] [] [] [] ⟨[(4, .bool false)], [], [], [], []⟩ .nil (by kernel_rfl) ?_
    have hF := some_elim hF
    exact Wk_ret (hfin _ ⟨[], [], [], [], [], [], by first | (rw [← hF]; kernel_rfl) | kernel_rfl⟩)
  · have hF := ite_f hF hb
    refine Wk_skip ?_
    refine Wk_seq ?_
    refine Wk_seq ?_
    refine WR [] [0, 1, 5] [] [] [] [] [] ⟨[(0, .sl 3 (a0.map e_Part)), (1, .sl 3 (b.map e_Part)), (5, .int .i64 0)], [], [], [], []⟩ .nil (by kernel_rfl) ?_
    refine Wk_meetP (fun v : Unit => (⟨[], [], [], [], []⟩ : S)) (fun v => R_SameParts_J1 v = some r) ?_ ?_
    · refine Wk_block ?_
      unfold R_SameParts_L1 at hF
      refine Wk_trim (fs := [0, 1, 5]) (bs := []) (rs := []) (ms := []) (aa := []) (nv := []) (t := (fun v1 : Int => (⟨[(0, .sl 3 (a0.map e_Part)), (1, .sl 3 (b.map e_Part)), (5, .int .i64 v1)], [], [], [], []⟩ : S)) 0) (by kernel_rfl) ?_
      refine Wk_iter (step := fun y => R_SameParts_B1 a0 b y) (r := r) (fun v1 : Int => (⟨[(0, .sl 3 (a0.map e_Part)), (1, .sl 3 (b.map e_Part)), (5, .int .i64 v1)], [], [], [], []⟩ : S)) 0 hF ?_
      intro n1 v1 y1 hF ih1 dn1
      have hF : R_SameParts_B1 a0 b v1 = some y1 := hF
      unfold R_SameParts_B1 at hF
      refine Wk_seq ?_
      refine Wk_seq ?_
      refine WR [.nat (a0.length : Int)] [0, 1, 5, 14] [] [] [] [] [] ⟨[(0, .sl 3 (a0.map e_Part)), (1, .sl 3 (b.map e_Part)), (5, .int .i64 v1), (14, .bool (decide (v1 < (a0.length : Int))))], [], [], [], []⟩ (.cons (len_ok e_Part a0) .nil) (by kernel_rfl) ?_
      refine Wk_split rfl (fun hb => ?_) (fun hb => ?_)
      · have hF := ite_t hF hb
        refine Wk_skip ?_
        refine Wk_seq ?_
        refine Wk_block ?_
        refine Wk_seq ?_
        obtain ⟨h0, hF⟩ := asrt_elim hF
        obtain ⟨h1, hF⟩ := asrt_elim hF
        refine WD [.av (e_Part (lget a0 v1)), .av (e_Part (lget b v1))] [0, 1, 5, 25] [] [] [] [] [] ⟨[(0, .sl 3 (a0.map e_Part)), (1, .sl 3 (b.map e_Part)), (5, .int .i64 v1), (25, .bool (!(decide ((lget a0 v1).From = (lget b v1).From) && (decide ((lget a0 v1).To = (lget b v1).To) && (decide ((lget a0 v1).ID = (lget b v1).ID) && true)))))], [], [], [], []⟩ (.cons (idx_ok e_Part h0) (.cons (idx_ok e_Part h1) .nil)) (by kernel_rfl) ?_
        refine Wk_split rfl (fun hb => ?_) (fun hb => ?_)
        · have hF := ite_t hF hb
          refine Wk_seq ?_
          refine WR [] [4] [] [] [] [] [] ⟨[(4, .bool false)], [], [], [], []⟩ .nil (by kernel_rfl) ?_
          have hF := ret_done hF dn1
          have hF := some_elim hF
          exact Wk_ret (hfin _ ⟨[], [], [], [], [], [], by first | (rw [← hF]; kernel_rfl) | kernel_rfl⟩)
        · have hF := ite_f hF hb
          refine Wk_skip ?_
          refine Wk_blk ?_
          refine WR [] [0, 1, 5] [] [] [] [] [] ⟨[(0, .sl 3 (a0.map e_Part)), (1, .sl 3 (b.map e_Part)), (5, .int .i64 (w64 (v1 + 1)))], [], [], [], []⟩ .nil (by kernel_rfl) ?_
          refine Wk_trim (fs := [0, 1, 5]) (bs := []) (rs := []) (ms := []) (aa := []) (nv := []) ?_ (ih1 _ (some_elim hF).symm)
          kernel_rfl
      · have hF := ite_f hF hb
        refine Wk_exit rfl ?_
        have hF := inrO_done hF dn1
        exact Wk_metP () [] [] [] [] [] [] hF (by kernel_rfl)
    · intro v hF
      have hF : R_SameParts_J1 v = some r := hF
      unfold R_SameParts_J1 at hF
      refine Wk_seq ?_
      refine WR [] [4] [] [] [] [] [] ⟨[(4, .bool true)], [], [], [], []⟩ .nil (by kernel_rfl) ?_
      have hF := some_elim hF
      exact Wk_ret (hfin _ ⟨[], [], [], [], [], [], by first | (rw [← hF]; kernel_rfl) | kernel_rfl⟩)

/- tabularylaw.partsBegun -/
noncomputable def law_partsBegun  : Option Bool :=
  ob (parts_Split_v1 [(⟨([] : List UInt8), ([] : List UInt8), 5⟩ : Part)] 0 ([109] : List UInt8) 1 2) fun x =>
  ob (if (decide (x.2.Code = 0)) = true then (R_SameParts x.1 [(⟨([] : List UInt8), ([109] : List UInt8), 1⟩ : Part), (⟨([109] : List UInt8), ([] : List UInt8), 2⟩ : Part)]) else some default) fun x1 =>
  some ((decide (x.2.Code = 0)) && x1)
theorem law_partsBegun_ok  (r : Bool) (hF : law_partsBegun  = some r) : Pe Try.prog 15 S.none [] (.bool r) S.none := by
  refine Pe_of (N := 19) (res := [.tmp 0]) (ts := [4]) Ty.ok Fn.b15 Try.func15 rfl rfl rfl rfl rfl rfl ?_
  intro Q g hfin
  unfold law_partsBegun at hF
  refine Wk_seq ?_
  refine WR [] [] [] [] [] [] [] ⟨[], [], [], [], []⟩ .nil (by kernel_rfl) ?_
  refine Wk_seq ?_
  obtain ⟨x, h0, hF⟩ := ob_elim hF
  refine WR [.sealed, .call (.tup [.sl 3 (x.1.map e_Part), .agg [.int .i64 x.2.Code, .int .i64 x.2.At]])] [1, 2] [2] [] [] [] [] ⟨[(1, .sl 3 (x.1.map e_Part)), (2, .ptr 2 0)], [(2, [.int .i64 x.2.Code, .int .i64 x.2.At])], [], [], []⟩ (.cons (parts_Split_v1_ok [(⟨([] : List UInt8), ([] : List UInt8), 5⟩ : Part)] 0 ([109] : List UInt8) 1 2 x h0) .nil) (by kernel_rfl) ?_
  refine Wk_seq ?_
  obtain ⟨x1, h1, hF⟩ := ob_elim hF
  refine WR [.sealed, .callB (.bool x1)] [0] [] [] [] [] [] ⟨[(0, .bool ((decide (x.2.Code = 0)) && x1))], [], [], [], []⟩ (.cons (fun (ga0 : (decide (x.2.Code = 0)) = true) => (R_SameParts_ok x.1 [(⟨([] : List UInt8), ([109] : List UInt8), 1⟩ : Part), (⟨([109] : List UInt8), ([] : List UInt8), 2⟩ : Part)] x1 (ite_t h1 ga0))) .nil) (by kernel_rfl) ?_
  have hF := some_elim hF
  exact Wk_ret (hfin _ ⟨[], [], [], [], [], [], by first | (rw [← hF]; kernel_rfl) | kernel_rfl⟩)

/- tabularylaw.ownParts -/
noncomputable def law_ownParts_v1 (l : List Part) : Option (List Part) :=
  asrt ((l.length : Int) * 40 ≤ 140737488351232) <|
  some l
theorem law_ownParts_v1_ok (l : List Part) (r : List Part) (hF : law_ownParts_v1 l = some r) : Pe Try.prog 16 S.none [.sl 3 (l.map e_Part)] (.sl 3 (r.map e_Part)) S.none := by
  refine Pe_of (N := 5) (res := [.tmp 2]) (ts := [22]) Ty.ok Fn.b16 Try.func16 rfl rfl rfl rfl rfl rfl ?_
  intro Q g hfin
  unfold law_ownParts_v1 at hF
  refine Wk_seq ?_
  refine WR [] [0] [] [] [] [] [] ⟨[(0, .sl 3 (l.map e_Part))], [], [], [], []⟩ .nil (by kernel_rfl) ?_
  refine Wk_seq ?_
  obtain ⟨h0, hF⟩ := asrt_elim hF
  refine WR [.xs (l.map e_Part)] [2] [] [4] [] [] [] ⟨[(2, .row 4 1)], [], [(4, ⟨34, 3, 1, 0, 0, true, 0, [], (l.map e_Part)⟩)], [], []⟩ (.cons (app0_ok e_Part l) (.cons (appl_ok e_Part h0) .nil)) (by kernel_rfl) ?_
  have hF := some_elim hF
  exact Wk_ret (hfin _ ⟨[], [], [], [], [], [], by first | (rw [← hF]; kernel_rfl) | kernel_rfl⟩)

/- parts.Join -/
noncomputable def parts_Join_v1 (l : List Part) (at0 : Int) (id : Int) : Option (List Part × Fault) :=
  ob (parts_Check l) fun x =>
  if (!decide (x.Code = 0)) = true then
    some (([] : List Part), x)
  else
    if ((decide (at0 < 0)) || (decide ((w64 ((l.length : Int) - 1)) ≤ at0))) = true then
      lt (parts_fault 3 (-1)) fun x1 =>
      some (([] : List Part), x1)
    else
      lt (parts_number id) fun x2 =>
      if (!x2) = true then
        lt (parts_fault 3 (-3)) fun x3 =>
        some (([] : List Part), x3)
      else
        ob (parts_others l at0 (w64 (at0 + 2)) id) fun x4 =>
        if x4 = true then
          lt (parts_fault 10 (-3)) fun x5 =>
          some (([] : List Part), x5)
        else
          asrt (0 ≤ at0 ∧ at0 < (l.length : Int)) <|
          asrt (0 ≤ w64 (at0 + 1) ∧ w64 (at0 + 1) < (l.length : Int)) <|
          asrt (0 ≤ at0 ∧ at0 ≤ (l.length : Int)) <|
          asrt (0 ≤ w64 (at0 + 2) ∧ w64 (at0 + 2) ≤ (l.length : Int)) <|
          ob (slices_Concat_api_Part_api_Part ([(ltake l at0), [(⟨(lget l at0).From, (lget l (w64 (at0 + 1))).To, id⟩ : Part)], (ldrop l (w64 (at0 + 2)))] : List (List Part))) fun x6 =>
          some (x6, (⟨0, 0⟩ : Fault))
theorem parts_Join_v1_ok (l : List Part) (at0 : Int) (id : Int) (r : List Part × Fault) (hF : parts_Join_v1 l at0 id = some r) : Pe Try.prog 19 S.none [.sl 3 (l.map e_Part), .int .i64 at0, .int .i64 id] (.tup [.sl 3 (r.1.map e_Part), .agg [.int .i64 r.2.Code, .int .i64 r.2.At]]) S.none := by
  refine Pe_of (N := 65) (res := [.tmp 6, .cell 7 26]) (ts := [22, 26]) Ty.ok Fn.b19 Try.func19 rfl rfl rfl rfl rfl rfl ?_
  intro Q g hfin
  unfold parts_Join_v1 at hF
  refine Wk_seq ?_
  refine WR [] [0, 1, 2, 7] [7] [] [] [] [] ⟨[(0, .sl 3 (l.map e_Part)), (1, .int .i64 at0), (2, .int .i64 id), (7, .ptr 7 0)], [(7, [.int .i64 0, .int .i64 0])], [], [], []⟩ .nil (by kernel_rfl) ?_
  refine Wk_seq ?_
  refine Wk_seq ?_
  obtain ⟨x, h0, hF⟩ := ob_elim hF
  refine WR [.callB (.agg [.int .i64 x.Code, .int .i64 x.At])] [0, 1, 2, 7, 8] [7, 8] [] [] [] [] ⟨[(0, .sl 3 (l.map e_Part)), (1, .int .i64 at0), (2, .int .i64 id), (7, .ptr 7 0), (8, .ptr 8 0)], [(7, [.int .i64 0, .int .i64 0]), (8, [.int .i64 x.Code, .int .i64 x.At])], [], [], []⟩ (.cons (parts_Check_ok l x h0) .nil) (by kernel_rfl) ?_
  refine Wk_seq ?_
  refine WR [] [0, 1, 2, 7, 8, 14] [7, 8] [] [] [] [] ⟨[(0, .sl 3 (l.map e_Part)), (1, .int .i64 at0), (2, .int .i64 id), (7, .ptr 7 0), (8, .ptr 8 0), (14, .bool (!decide (x.Code = 0)))], [(7, [.int .i64 0, .int .i64 0]), (8, [.int .i64 x.Code, .int .i64 x.At])], [], [], []⟩ .nil (by kernel_rfl) ?_
  refine Wk_split rfl (fun hb => ?_) (fun hb => ?_)
  · have hF := ite_t hF hb
    refine Wk_seq ?_
    refine WD [] [6, 7] [7] [] [] [] [] ⟨[(6, .nils), (7, .ptr 7 0)], [(7, [.int .i64 x.Code, .int .i64 x.At])], [], [], []⟩ .nil (by kernel_rfl) ?_
    have hF := some_elim hF
    exact Wk_ret (hfin _ ⟨[], [], [], [], [], [], by first | (rw [← hF]; kernel_rfl) | kernel_rfl⟩)
  · have hF := ite_f hF hb
    refine Wk_skip ?_
    refine Wk_seq ?_
    refine Wk_block ?_
    refine Wk_seq ?_
    refine WR [.nat (l.length : Int)] [0, 1, 2, 7, 16] [7] [] [] [] [] ⟨[(0, .sl 3 (l.map e_Part)), (1, .int .i64 at0), (2, .int .i64 id), (7, .ptr 7 0), (16, .bool ((decide (at0 < 0)) || (decide ((w64 ((l.length : Int) - 1)) ≤ at0))))], [(7, [.int .i64 0, .int .i64 0])], [], [], []⟩ (.cons (fun (_ : (!(decide (at0 < 0))) = true) => (len_ok e_Part l)) .nil) (by kernel_rfl) ?_
    refine Wk_split rfl (fun hb => ?_) (fun hb => ?_)
    · have hF := ite_t hF hb
      refine Wk_seq ?_
      obtain ⟨x1, h1, hF⟩ := lt_split hF
      refine WR [.callB (.agg [.int .i64 x1.Code, .int .i64 x1.At])] [6, 7] [7] [] [] [] [] ⟨[(6, .nils), (7, .ptr 7 0)], [(7, [.int .i64 x1.Code, .int .i64 x1.At])], [], [], []⟩ (.cons (parts_fault_ok 3 (-1) x1 h1) .nil) (by kernel_rfl) ?_
      have hF := some_elim hF
      exact Wk_ret (hfin _ ⟨[], [], [], [], [], [], by first | (rw [← hF]; kernel_rfl) | kernel_rfl⟩)
    · have hF := ite_f hF hb
      refine Wk_seq ?_
      obtain ⟨x2, h2, hF⟩ := lt_split hF
      refine WR [.callB (.bool x2)] [0, 1, 2, 7, 27] [7] [] [] [] [] ⟨[(0, .sl 3 (l.map e_Part)), (1, .int .i64 at0), (2, .int .i64 id), (7, .ptr 7 0), (27, .bool (!x2))], [(7, [.int .i64 0, .int .i64 0])], [], [], []⟩ (.cons (parts_number_ok id x2 h2) .nil) (by kernel_rfl) ?_
      refine Wk_split rfl (fun hb => ?_) (fun hb => ?_)
      · have hF := ite_t hF hb
        refine Wk_seq ?_
        obtain ⟨x3, h3, hF⟩ := lt_split hF
        refine WR [.callB (.agg [.int .i64 x3.Code, .int .i64 x3.At])] [6, 7] [7] [] [] [] [] ⟨[(6, .nils), (7, .ptr 7 0)], [(7, [.int .i64 x3.Code, .int .i64 x3.At])], [], [], []⟩ (.cons (parts_fault_ok 3 (-3) x3 h3) .nil) (by kernel_rfl) ?_
        have hF := some_elim hF
        exact Wk_ret (hfin _ ⟨[], [], [], [], [], [], by first | (rw [← hF]; kernel_rfl) | kernel_rfl⟩)
      · have hF := ite_f hF hb
        refine Wk_seq ?_
        obtain ⟨x4, h4, hF⟩ := ob_elim hF
        refine WR [.callB (.bool x4)] [0, 1, 2, 7, 32] [7] [] [] [] [] ⟨[(0, .sl 3 (l.map e_Part)), (1, .int .i64 at0), (2, .int .i64 id), (7, .ptr 7 0), (32, .bool x4)], [(7, [.int .i64 0, .int .i64 0])], [], [], []⟩ (.cons (parts_others_ok l at0 (w64 (at0 + 2)) id x4 h4) .nil) (by kernel_rfl) ?_
        refine Wk_split rfl (fun hb => ?_) (fun hb => ?_)
        · have hF := ite_t hF hb
          refine Wk_seq ?_
          obtain ⟨x5, h5, hF⟩ := lt_split hF
          refine WR [.callB (.agg [.int .i64 x5.Code, .int .i64 x5.At])] [6, 7] [7] [] [] [] [] ⟨[(6, .nils), (7, .ptr 7 0)], [(7, [.int .i64 x5.Code, .int .i64 x5.At])], [], [], []⟩ (.cons (parts_fault_ok 10 (-3) x5 h5) .nil) (by kernel_rfl) ?_
          have hF := some_elim hF
          exact Wk_ret (hfin _ ⟨[], [], [], [], [], [], by first | (rw [← hF]; kernel_rfl) | kernel_rfl⟩)
        · have hF := ite_f hF hb
          refine Wk_skip ?_
          refine Wk_blk ?_
          refine Wk_seq ?_
          obtain ⟨h6, hF⟩ := asrt_elim hF
          obtain ⟨h7, hF⟩ := asrt_elim hF
          refine WD [.av (e_Part (lget l at0)), .av (e_Part (lget l (w64 (at0 + 1)))), .sealed] [0, 1, 7, 9] [7] [] [] [] [] ⟨[(0, .sl 3 (l.map e_Part)), (1, .int .i64 at0), (7, .ptr 7 0), (9, .sl 3 ([(⟨(lget l at0).From, (lget l (w64 (at0 + 1))).To, id⟩ : Part)].map e_Part))], [(7, [.int .i64 0, .int .i64 0])], [], [], []⟩ (.cons (idx_ok e_Part h6) (.cons (idx_ok e_Part h7) .nil)) (by kernel_rfl) ?_
          refine Wk_seq ?_
          obtain ⟨h8, hF⟩ := asrt_elim hF
          obtain ⟨h9, hF⟩ := asrt_elim hF
          obtain ⟨x6, h10, hF⟩ := ob_elim hF
          refine WD [.xs ((ltake l at0).map e_Part), .xs ((ldrop l (w64 (at0 + 2))).map e_Part), .sealed, .callE [] [] [] [] (.row 63 0) ⟨[], [], [(63, ⟨34, 3, 0, 0, 0, false, 0, [], (x6.map e_Part)⟩)], [], []⟩] [6, 7] [7] [63] [] [] [] ⟨[(6, .row 63 0), (7, .ptr 7 0)], [(7, [.int .i64 0, .int .i64 0])], [(63, ⟨34, 3, 0, 0, 0, false, 0, [], (x6.map e_Part)⟩)], [], []⟩ (.cons (sl01_ok e_Part h8) (.cons (sl10_ok e_Part h9) (.cons (Pe.ren (slices_Concat_api_Part_api_Part_ok ([(ltake l at0), [(⟨(lget l at0).From, (lget l (w64 (at0 + 1))).To, id⟩ : Part)], (ldrop l (w64 (at0 + 2)))] : List (List Part)) x6 h10) ⟨[], [(24, 63)], [], []⟩) .nil))) (by kernel_rfl) ?_
          have hF := some_elim hF
          exact Wk_ret (hfin _ ⟨[], [], [], [], [], [], by first | (rw [← hF]; kernel_rfl) | kernel_rfl⟩)

/- tabularyref.F -/
noncomputable def R_F (code : Int) (at0 : Int) : Fault :=
  (⟨code, at0⟩ : Fault)
theorem R_F_ok (code : Int) (at0 : Int) (r : Fault) (hF : R_F code at0 = r) : Pe Try.prog 22 S.none [.int .i64 code, .int .i64 at0] (.agg [.int .i64 r.Code, .int .i64 r.At]) S.none := by
  refine Pe_of (N := 8) (res := [.cell 4 26]) (ts := [26]) Ty.ok Fn.b22 Try.func22 rfl rfl rfl rfl rfl rfl ?_
  intro Q g hfin
  unfold R_F at hF
  refine Wk_seq ?_
  refine WR [] [0, 1, 4] [4] [] [] [] [] ⟨[(0, .int .i64 code), (1, .int .i64 at0), (4, .ptr 4 0)], [(4, [.int .i64 0, .int .i64 0])], [], [], []⟩ .nil (by kernel_rfl) ?_
  refine Wk_seq ?_
  refine WR [] [4] [4] [] [] [] [] ⟨[(4, .ptr 4 0)], [(4, [.int .i64 code, .int .i64 at0])], [], [], []⟩ .nil (by kernel_rfl) ?_
  exact Wk_ret (hfin _ ⟨[], [], [], [], [], [], by first | (rw [← hF]; kernel_rfl) | kernel_rfl⟩)

/- tabularyref.Num -/
noncomputable def R_Num (num : Int) : Bool :=
  (decide (0 ≤ num)) && (decide (num ≤ 1000000000))
theorem R_Num_ok (num : Int) (r : Bool) (hF : R_Num num = r) : Pe Try.prog 24 S.none [.int .i64 num] (.bool r) S.none := by
  refine Pe_of (N := 9) (res := [.tmp 2]) (ts := [4]) Ty.ok Fn.b24 Try.func24 rfl rfl rfl rfl rfl rfl ?_
  intro Q g hfin
  unfold R_Num at hF
  refine Wk_seq ?_
  refine WR [] [0] [] [] [] [] [] ⟨[(0, .int .i64 num)], [], [], [], []⟩ .nil (by kernel_rfl) ?_
  refine Wk_seq ?_
  refine WR [] [2] [] [] [] [] [] ⟨[(2, .bool ((decide (0 ≤ num)) && (decide (num ≤ 1000000000))))], [], [], [], []⟩ .nil (by kernel_rfl) ?_
  exact Wk_ret (hfin _ ⟨[], [], [], [], [], [], by first | (rw [← hF]; kernel_rfl) | kernel_rfl⟩)

/- tabularyref.PartsFault -/
noncomputable def R_PartsFault_J1 (v : Fault) : Option Fault :=
  some (⟨0, 0⟩ : Fault)
noncomputable def R_PartsFault_J2 (v1 : Fault × Int) (v2 : Fault) : Option ((Fault × Int) ⊕ Fault) :=
  some (Sum.inl (v2, w64 (v1.2 + 1)))
noncomputable def R_PartsFault_B2 (l : List Part) (v1 : Fault × Int) (v3 : Fault × Part × Int) : Option ((Fault × Part × Int) ⊕ ((Fault × Int) ⊕ Fault)) :=
  if (decide (v3.2.2 < v1.2)) = true then
    asrt (0 ≤ v3.2.2 ∧ v3.2.2 < (l.length : Int)) <|
    if (decide (((lget l v3.2.2).ID) = v3.2.1.ID)) = true then
      lt (R_F 10 v1.2) fun x7 =>
      some (Sum.inr (Sum.inr x7))
    else
      some (Sum.inl (v3.1, v3.2.1, w64 (v3.2.2 + 1)))
  else
    inrO (R_PartsFault_J2 v1 v3.1)
noncomputable def R_PartsFault_L2 (l : List Part) (v1 : Fault × Int) (v0 : Fault × Part × Int) : Option ((Fault × Int) ⊕ Fault) :=
  loopO (fun y => R_PartsFault_B2 l v1 y) v0
noncomputable def R_PartsFault_B1 (l : List Part) (v1 : Fault × Int) : Option ((Fault × Int) ⊕ Fault) :=
  if (decide (v1.2 < (l.length : Int))) = true then
    asrt (0 ≤ v1.2 ∧ v1.2 < (l.length : Int)) <|
    if ((decide (40 < (((lget l v1.2).From).length : Int))) || (decide (40 < (((lget l v1.2).To).length : Int)))) = true then
      lt (R_F 8 v1.2) fun x2 =>
      some (Sum.inr x2)
    else
      lt (R_Num ((lget l v1.2).ID)) fun x3 =>
      if (!x3) = true then
        lt (R_F 3 v1.2) fun x4 =>
        some (Sum.inr x4)
      else
        asrt ((decide (0 < v1.2)) = true → (!((decide (v1.2 = 0)) && (!decide (((lget l v1.2).From) = ([] : List UInt8))))) = true → 0 ≤ w64 (v1.2 - 1) ∧ w64 (v1.2 - 1) < (l.length : Int)) <|
        if (((decide (v1.2 = 0)) && (!decide (((lget l v1.2).From) = ([] : List UInt8)))) || ((decide (0 < v1.2)) && (!decide (((lget l v1.2).From) = ((lget l (w64 (v1.2 - 1))).To))))) = true then
          lt (R_F 5 v1.2) fun x5 =>
          some (Sum.inr x5)
        else
          if (((decide (v1.2 = (w64 ((l.length : Int) - 1)))) && (!decide (((lget l v1.2).To) = ([] : List UInt8)))) || ((decide (v1.2 < (w64 ((l.length : Int) - 1)))) && (!Op.bytesLess ((lget l v1.2).From) ((lget l v1.2).To)))) = true then
            lt (R_F 5 v1.2) fun x6 =>
            some (Sum.inr x6)
          else
            R_PartsFault_L2 l v1 (v1.1, (⟨(lget l v1.2).From, (lget l v1.2).To, (lget l v1.2).ID⟩ : Part), 0)
  else
    inrO (R_PartsFault_J1 v1.1)
noncomputable def R_PartsFault_L1 (l : List Part) (v0 : Fault × Int) : Option Fault :=
  loopO (fun y => R_PartsFault_B1 l y) v0
noncomputable def R_PartsFault (l : List Part) : Option Fault :=
  if (decide ((l.length : Int) = 0)) = true then
    lt (R_F 6 (-1)) fun x =>
    some x
  else
    if (decide (200 < (l.length : Int))) = true then
      lt (R_F 2 (-1)) fun x1 =>
      some x1
    else
      R_PartsFault_L1 l ((⟨0, 0⟩ : Fault), 0)
theorem R_PartsFault_ok (l : List Part) (r : Fault) (hF : R_PartsFault l = some r) : Pe Try.prog 20 S.none [.sl 3 (l.map e_Part)] (.agg [.int .i64 r.Code, .int .i64 r.At]) S.none := by
  refine Pe_of (N := 108) (res := [.cell 2 26]) (ts := [26]) Ty.ok Fn.b20 Try.func20 rfl rfl rfl rfl rfl rfl ?_
  intro Q g hfin
  unfold R_PartsFault at hF
  refine Wk_seq ?_
  refine WR [] [0, 2] [2] [] [] [] [] ⟨[(0, .sl 3 (l.map e_Part)), (2, .ptr 2 0)], [(2, [.int .i64 0, .int .i64 0])], [], [], []⟩ .nil (by kernel_rfl) ?_
  refine Wk_seq ?_
  refine Wk_seq ?_
  refine WR [.nat (l.length : Int)] [0, 2, 8] [2] [] [] [] [] ⟨[(0, .sl 3 (l.map e_Part)), (2, .ptr 2 0), (8, .bool (decide ((l.length : Int) = 0)))], [(2, [.int .i64 0, .int .i64 0])], [], [], []⟩ (.cons (len_ok e_Part l) .nil) (by kernel_rfl) ?_
  refine Wk_split rfl (fun hb => ?_) (fun hb => ?_)
  · have hF := ite_t hF hb
    refine Wk_seq ?_
    obtain ⟨x, h0, hF⟩ := lt_split hF
    refine WR [.callB (.agg [.int .i64 x.Code, .int .i64 x.At])] [2] [2] [] [] [] [] ⟨[(2, .ptr 2 0)], [(2, [.int .i64 x.Code, .int .i64 x.At])], [], [], []⟩ (.cons (R_F_ok 6 (-1) x h0) .nil) (by kernel_rfl) ?_
    have hF := some_elim hF
    exact Wk_ret (hfin _ ⟨[], [], [], [], [], [], by first | (rw [← hF]; kernel_rfl) | kernel_rfl⟩)
  · have hF := ite_f hF hb
    refine Wk_skip ?_
    refine Wk_seq ?_
    refine Wk_seq ?_
    refine WR [.nat (l.length : Int)] [0, 2, 12] [2] [] [] [] [] ⟨[(0, .sl 3 (l.map e_Part)), (2, .ptr 2 0), (12, .bool (decide (200 < (l.length : Int))))], [(2, [.int .i64 0, .int .i64 0])], [], [], []⟩ (.cons (len_ok e_Part l) .nil) (by kernel_rfl) ?_
    refine Wk_split rfl (fun hb => ?_) (fun hb => ?_)
    · have hF := ite_t hF hb
      refine Wk_seq ?_
      obtain ⟨x1, h1, hF⟩ := lt_split hF
      refine WR [.callB (.agg [.int .i64 x1.Code, .int .i64 x1.At])] [2] [2] [] [] [] [] ⟨[(2, .ptr 2 0)], [(2, [.int .i64 x1.Code, .int .i64 x1.At])], [], [], []⟩ (.cons (R_F_ok 2 (-1) x1 h1) .nil) (by kernel_rfl) ?_
      have hF := some_elim hF
      exact Wk_ret (hfin _ ⟨[], [], [], [], [], [], by first | (rw [← hF]; kernel_rfl) | kernel_rfl⟩)
    · have hF := ite_f hF hb
      refine Wk_skip ?_
      refine Wk_seq ?_
      refine Wk_seq ?_
      refine WR [] [0, 2, 3] [2] [] [] [] [] ⟨[(0, .sl 3 (l.map e_Part)), (2, .ptr 2 0), (3, .int .i64 0)], [(2, [.int .i64 0, .int .i64 0])], [], [], []⟩ .nil (by kernel_rfl) ?_
      refine Wk_meetP (fun v : Fault => (⟨[(2, .ptr 2 0)], [(2, [.int .i64 v.Code, .int .i64 v.At])], [], [], []⟩ : S)) (fun v => R_PartsFault_J1 v = some r) ?_ ?_
      · refine Wk_block ?_
        unfold R_PartsFault_L1 at hF
        refine Wk_trim (fs := [0, 2, 3]) (bs := [2]) (rs := []) (ms := []) (aa := []) (nv := []) (t := (fun v1 : Fault × Int => (⟨[(0, .sl 3 (l.map e_Part)), (2, .ptr 2 0), (3, .int .i64 v1.2)], [(2, [.int .i64 v1.1.Code, .int .i64 v1.1.At])], [], [], []⟩ : S)) ((⟨0, 0⟩ : Fault), 0)) (by kernel_rfl) ?_
        refine Wk_iter (step := fun y => R_PartsFault_B1 l y) (r := r) (fun v1 : Fault × Int => (⟨[(0, .sl 3 (l.map e_Part)), (2, .ptr 2 0), (3, .int .i64 v1.2)], [(2, [.int .i64 v1.1.Code, .int .i64 v1.1.At])], [], [], []⟩ : S)) ((⟨0, 0⟩ : Fault), 0) hF ?_
        intro n1 v1 y1 hF ih1 dn1
        have hF : R_PartsFault_B1 l v1 = some y1 := hF
        unfold R_PartsFault_B1 at hF
        refine Wk_seq ?_
        refine Wk_seq ?_
        refine WR [.nat (l.length : Int)] [0, 2, 3, 17] [2] [] [] [] [] ⟨[(0, .sl 3 (l.map e_Part)), (2, .ptr 2 0), (3, .int .i64 v1.2), (17, .bool (decide (v1.2 < (l.length : Int))))], [(2, [.int .i64 v1.1.Code, .int .i64 v1.1.At])], [], [], []⟩ (.cons (len_ok e_Part l) .nil) (by kernel_rfl) ?_
        refine Wk_split rfl (fun hb => ?_) (fun hb => ?_)
        · have hF := ite_t hF hb
          refine Wk_skip ?_
          refine Wk_seq ?_
          refine Wk_block ?_
          refine Wk_seq ?_
          obtain ⟨h2, hF⟩ := asrt_elim hF
          refine WR [.av (e_Part (lget l v1.2))] [0, 2, 3, 4] [2, 4] [] [] [] [] ⟨[(0, .sl 3 (l.map e_Part)), (2, .ptr 2 0), (3, .int .i64 v1.2), (4, .ptr 4 0)], [(2, [.int .i64 v1.1.Code, .int .i64 v1.1.At]), (4, [.str ((lget l v1.2).From), .str ((lget l v1.2).To), .int .i64 ((lget l v1.2).ID)])], [], [], []⟩ (.cons (idx_ok e_Part h2) .nil) (by kernel_rfl) ?_
          refine Wk_seq ?_
          refine Wk_seq ?_
          refine WR [] [0, 2, 3, 4, 33] [2, 4] [] [] [] [] ⟨[(0, .sl 3 (l.map e_Part)), (2, .ptr 2 0), (3, .int .i64 v1.2), (4, .ptr 4 0), (33, .bool ((decide (40 < (((lget l v1.2).From).length : Int))) || (decide (40 < (((lget l v1.2).To).length : Int)))))], [(2, [.int .i64 v1.1.Code, .int .i64 v1.1.At]), (4, [.str ((lget l v1.2).From), .str ((lget l v1.2).To), .int .i64 ((lget l v1.2).ID)])], [], [], []⟩ .nil (by kernel_rfl) ?_
          refine Wk_split rfl (fun hb => ?_) (fun hb => ?_)
          · have hF := ite_t hF hb
            refine Wk_seq ?_
            obtain ⟨x2, h3, hF⟩ := lt_split hF
            refine WR [.callB (.agg [.int .i64 x2.Code, .int .i64 x2.At])] [2] [2] [] [] [] [] ⟨[(2, .ptr 2 0)], [(2, [.int .i64 x2.Code, .int .i64 x2.At])], [], [], []⟩ (.cons (R_F_ok 8 v1.2 x2 h3) .nil) (by kernel_rfl) ?_
            have hF := ret_done hF dn1
            have hF := some_elim hF
            exact Wk_ret (hfin _ ⟨[], [], [], [], [], [], by first | (rw [← hF]; kernel_rfl) | kernel_rfl⟩)
          · have hF := ite_f hF hb
            refine Wk_skip ?_
            refine Wk_seq ?_
            refine Wk_seq ?_
            obtain ⟨x3, h4, hF⟩ := lt_split hF
            refine WR [.callB (.bool x3)] [0, 2, 3, 4, 39] [2, 4] [] [] [] [] ⟨[(0, .sl 3 (l.map e_Part)), (2, .ptr 2 0), (3, .int .i64 v1.2), (4, .ptr 4 0), (39, .bool (!x3))], [(2, [.int .i64 v1.1.Code, .int .i64 v1.1.At]), (4, [.str ((lget l v1.2).From), .str ((lget l v1.2).To), .int .i64 ((lget l v1.2).ID)])], [], [], []⟩ (.cons (R_Num_ok ((lget l v1.2).ID) x3 h4) .nil) (by kernel_rfl) ?_
            refine Wk_split rfl (fun hb => ?_) (fun hb => ?_)
            · have hF := ite_t hF hb
              refine Wk_seq ?_
              obtain ⟨x4, h5, hF⟩ := lt_split hF
              refine WR [.callB (.agg [.int .i64 x4.Code, .int .i64 x4.At])] [2] [2] [] [] [] [] ⟨[(2, .ptr 2 0)], [(2, [.int .i64 x4.Code, .int .i64 x4.At])], [], [], []⟩ (.cons (R_F_ok 3 v1.2 x4 h5) .nil) (by kernel_rfl) ?_
              have hF := ret_done hF dn1
              have hF := some_elim hF
              exact Wk_ret (hfin _ ⟨[], [], [], [], [], [], by first | (rw [← hF]; kernel_rfl) | kernel_rfl⟩)
            · have hF := ite_f hF hb
              refine Wk_skip ?_
              refine Wk_seq ?_
              refine Wk_seq ?_
              obtain ⟨h6, hF⟩ := asrt_elim hF
              refine WD [.av (e_Part (lget l (w64 (v1.2 - 1))))] [0, 2, 3, 4, 63] [2, 4] [] [] [] [] ⟨[(0, .sl 3 (l.map e_Part)), (2, .ptr 2 0), (3, .int .i64 v1.2), (4, .ptr 4 0), (63, .bool (((decide (v1.2 = 0)) && (!decide (((lget l v1.2).From) = ([] : List UInt8)))) || ((decide (0 < v1.2)) && (!decide (((lget l v1.2).From) = ((lget l (w64 (v1.2 - 1))).To))))))], [(2, [.int .i64 v1.1.Code, .int .i64 v1.1.At]), (4, [.str ((lget l v1.2).From), .str ((lget l v1.2).To), .int .i64 ((lget l v1.2).ID)])], [], [], []⟩ (.cons (fun (ga0 : (decide (0 < v1.2)) = true) (ga1 : (!((decide (v1.2 = 0)) && (!decide (((lget l v1.2).From) = ([] : List UInt8))))) = true) => (idx_ok e_Part (h6 ga0 ga1))) .nil) (by kernel_rfl) ?_
              refine Wk_split rfl (fun hb => ?_) (fun hb => ?_)
              · have hF := ite_t hF hb
                refine Wk_seq ?_
                obtain ⟨x5, h7, hF⟩ := lt_split hF
                refine WR [.callB (.agg [.int .i64 x5.Code, .int .i64 x5.At])] [2] [2] [] [] [] [] ⟨[(2, .ptr 2 0)], [(2, [.int .i64 x5.Code, .int .i64 x5.At])], [], [], []⟩ (.cons (R_F_ok 5 v1.2 x5 h7) .nil) (by kernel_rfl) ?_
                have hF := ret_done hF dn1
                have hF := some_elim hF
                exact Wk_ret (hfin _ ⟨[], [], [], [], [], [], by first | (rw [← hF]; kernel_rfl) | kernel_rfl⟩)
              · have hF := ite_f hF hb
                refine Wk_skip ?_
                refine Wk_seq ?_
                refine Wk_seq ?_
                refine WR [.nat (l.length : Int), .nat (l.length : Int)] [0, 2, 3, 4, 89] [2, 4] [] [] [] [] ⟨[(0, .sl 3 (l.map e_Part)), (2, .ptr 2 0), (3, .int .i64 v1.2), (4, .ptr 4 0), (89, .bool (((decide (v1.2 = (w64 ((l.length : Int) - 1)))) && (!decide (((lget l v1.2).To) = ([] : List UInt8)))) || ((decide (v1.2 < (w64 ((l.length : Int) - 1)))) && (!Op.bytesLess ((lget l v1.2).From) ((lget l v1.2).To)))))], [(2, [.int .i64 v1.1.Code, .int .i64 v1.1.At]), (4, [.str ((lget l v1.2).From), .str ((lget l v1.2).To), .int .i64 ((lget l v1.2).ID)])], [], [], []⟩ (.cons (len_ok e_Part l) (.cons (fun (_ : (!((decide (v1.2 = (w64 ((l.length : Int) - 1)))) && (!decide (((lget l v1.2).To) = ([] : List UInt8))))) = true) => (len_ok e_Part l)) .nil)) (by kernel_rfl) ?_
                refine Wk_split rfl (fun hb => ?_) (fun hb => ?_)
                · have hF := ite_t hF hb
                  refine Wk_seq ?_
                  obtain ⟨x6, h8, hF⟩ := lt_split hF
                  refine WR [.callB (.agg [.int .i64 x6.Code, .int .i64 x6.At])] [2] [2] [] [] [] [] ⟨[(2, .ptr 2 0)], [(2, [.int .i64 x6.Code, .int .i64 x6.At])], [], [], []⟩ (.cons (R_F_ok 5 v1.2 x6 h8) .nil) (by kernel_rfl) ?_
                  have hF := ret_done hF dn1
                  have hF := some_elim hF
                  exact Wk_ret (hfin _ ⟨[], [], [], [], [], [], by first | (rw [← hF]; kernel_rfl) | kernel_rfl⟩)
                · have hF := ite_f hF hb
                  refine Wk_skip ?_
                  refine Wk_seq ?_
                  refine WR [] [0, 2, 3, 4, 5] [2, 4] [] [] [] [] ⟨[(0, .sl 3 (l.map e_Part)), (2, .ptr 2 0), (3, .int .i64 v1.2), (4, .ptr 4 0), (5, .int .i64 0)], [(2, [.int .i64 v1.1.Code, .int .i64 v1.1.At]), (4, [.str ((lget l v1.2).From), .str ((lget l v1.2).To), .int .i64 ((lget l v1.2).ID)])], [], [], []⟩ .nil (by kernel_rfl) ?_
                  refine Wk_meetP (fun v2 : Fault => (⟨[(0, .sl 3 (l.map e_Part)), (2, .ptr 2 0), (3, .int .i64 v1.2)], [(2, [.int .i64 v2.Code, .int .i64 v2.At])], [], [], []⟩ : S)) (fun v2 => R_PartsFault_J2 v1 v2 = some y1) ?_ ?_
                  · refine Wk_block ?_
                    unfold R_PartsFault_L2 at hF
                    refine Wk_trim (fs := [0, 2, 3, 4, 5]) (bs := [2, 4]) (rs := []) (ms := []) (aa := []) (nv := []) (t := (fun v3 : Fault × Part × Int => (⟨[(0, .sl 3 (l.map e_Part)), (2, .ptr 2 0), (3, .int .i64 v1.2), (4, .ptr 4 0), (5, .int .i64 v3.2.2)], [(2, [.int .i64 v3.1.Code, .int .i64 v3.1.At]), (4, [.str v3.2.1.From, .str v3.2.1.To, .int .i64 v3.2.1.ID])], [], [], []⟩ : S)) (v1.1, (⟨(lget l v1.2).From, (lget l v1.2).To, (lget l v1.2).ID⟩ : Part), 0)) (by kernel_rfl) ?_
                    refine Wk_iter (step := fun y => R_PartsFault_B2 l v1 y) (r := y1) (fun v3 : Fault × Part × Int => (⟨[(0, .sl 3 (l.map e_Part)), (2, .ptr 2 0), (3, .int .i64 v1.2), (4, .ptr 4 0), (5, .int .i64 v3.2.2)], [(2, [.int .i64 v3.1.Code, .int .i64 v3.1.At]), (4, [.str v3.2.1.From, .str v3.2.1.To, .int .i64 v3.2.1.ID])], [], [], []⟩ : S)) (v1.1, (⟨(lget l v1.2).From, (lget l v1.2).To, (lget l v1.2).ID⟩ : Part), 0) hF ?_
                    intro n2 v3 y2 hF ih2 dn2
                    have hF : R_PartsFault_B2 l v1 v3 = some y2 := hF
                    unfold R_PartsFault_B2 at hF
                    refine Wk_seq ?_
                    refine Wk_seq ?_
                    refine WR [] [0, 2, 3, 4, 5, 94] [2, 4] [] [] [] [] ⟨[(0, .sl 3 (l.map e_Part)), (2, .ptr 2 0), (3, .int .i64 v1.2), (4, .ptr 4 0), (5, .int .i64 v3.2.2), (94, .bool (decide (v3.2.2 < v1.2)))], [(2, [.int .i64 v3.1.Code, .int .i64 v3.1.At]), (4, [.str v3.2.1.From, .str v3.2.1.To, .int .i64 v3.2.1.ID])], [], [], []⟩ .nil (by kernel_rfl) ?_
                    refine Wk_split rfl (fun hb => ?_) (fun hb => ?_)
                    · have hF := ite_t hF hb
                      refine Wk_skip ?_
                      refine Wk_seq ?_
                      refine Wk_block ?_
                      refine Wk_seq ?_
                      obtain ⟨h9, hF⟩ := asrt_elim hF
                      refine WD [.av (e_Part (lget l v3.2.2))] [0, 2, 3, 4, 5, 104] [2, 4] [] [] [] [] ⟨[(0, .sl 3 (l.map e_Part)), (2, .ptr 2 0), (3, .int .i64 v1.2), (4, .ptr 4 0), (5, .int .i64 v3.2.2), (104, .bool (decide (((lget l v3.2.2).ID) = v3.2.1.ID)))], [(2, [.int .i64 v3.1.Code, .int .i64 v3.1.At]), (4, [.str v3.2.1.From, .str v3.2.1.To, .int .i64 v3.2.1.ID])], [], [], []⟩ (.cons (idx_ok e_Part h9) .nil) (by kernel_rfl) ?_
                      refine Wk_split rfl (fun hb => ?_) (fun hb => ?_)
                      · have hF := ite_t hF hb
                        refine Wk_seq ?_
                        obtain ⟨x7, h10, hF⟩ := lt_split hF
                        refine WR [.callB (.agg [.int .i64 x7.Code, .int .i64 x7.At])] [2] [2] [] [] [] [] ⟨[(2, .ptr 2 0)], [(2, [.int .i64 x7.Code, .int .i64 x7.At])], [], [], []⟩ (.cons (R_F_ok 10 v1.2 x7 h10) .nil) (by kernel_rfl) ?_
                        have hF := ret_done hF dn2
                        have hF := ret_done hF dn1
                        have hF := some_elim hF
                        exact Wk_ret (hfin _ ⟨[], [], [], [], [], [], by first | (rw [← hF]; kernel_rfl) | kernel_rfl⟩)
                      · have hF := ite_f hF hb
                        refine Wk_skip ?_
                        refine Wk_blk ?_
                        refine WR [] [0, 2, 3, 4, 5] [2, 4] [] [] [] [] ⟨[(0, .sl 3 (l.map e_Part)), (2, .ptr 2 0), (3, .int .i64 v1.2), (4, .ptr 4 0), (5, .int .i64 (w64 (v3.2.2 + 1)))], [(2, [.int .i64 v3.1.Code, .int .i64 v3.1.At]), (4, [.str v3.2.1.From, .str v3.2.1.To, .int .i64 v3.2.1.ID])], [], [], []⟩ .nil (by kernel_rfl) ?_
                        refine Wk_trim (fs := [0, 2, 3, 4, 5]) (bs := [2, 4]) (rs := []) (ms := []) (aa := []) (nv := []) ?_ (ih2 _ (some_elim hF).symm)
                        kernel_rfl
                    · have hF := ite_f hF hb
                      refine Wk_exit rfl ?_
                      have hF := inrO_done hF dn2
                      exact Wk_metP v3.1 [0, 2, 3] [2] [] [] [] [] hF (by kernel_rfl)
                  · intro v2 hF
                    have hF : R_PartsFault_J2 v1 v2 = some y1 := hF
                    unfold R_PartsFault_J2 at hF
                    refine Wk_blk ?_
                    refine WR [] [0, 2, 3] [2] [] [] [] [] ⟨[(0, .sl 3 (l.map e_Part)), (2, .ptr 2 0), (3, .int .i64 (w64 (v1.2 + 1)))], [(2, [.int .i64 v2.Code, .int .i64 v2.At])], [], [], []⟩ .nil (by kernel_rfl) ?_
                    refine Wk_trim (fs := [0, 2, 3]) (bs := [2]) (rs := []) (ms := []) (aa := []) (nv := []) ?_ (ih1 _ (some_elim hF).symm)
                    kernel_rfl
        · have hF := ite_f hF hb
          refine Wk_exit rfl ?_
          have hF := inrO_done hF dn1
          exact Wk_metP v1.1 [2] [2] [] [] [] [] hF (by kernel_rfl)
      · intro v hF
        have hF : R_PartsFault_J1 v = some r := hF
        unfold R_PartsFault_J1 at hF
        refine Wk_seq ?_
        refine WR [] [2] [2] [] [] [] [] ⟨[(2, .ptr 2 0)], [(2, [.int .i64 0, .int .i64 0])], [], [], []⟩ .nil (by kernel_rfl) ?_
        have hF := some_elim hF
        exact Wk_ret (hfin _ ⟨[], [], [], [], [], [], by first | (rw [← hF]; kernel_rfl) | kernel_rfl⟩)

/- tabularyref.InPart -/
noncomputable def R_InPart (p : Part) (row : List UInt8) : Bool :=
  lt ((!Op.bytesLess row p.From) && ((decide (p.To = ([] : List UInt8))) || (Op.bytesLess row p.To))) fun (v : Bool) =>
  v
theorem R_InPart_ok (p : Part) (row : List UInt8) (r : Bool) (hF : R_InPart p row = r) : Pe Try.prog 23 S.none [.agg [.str p.From, .str p.To, .int .i64 p.ID], .str row] (.bool r) S.none := by
  refine Pe_of (N := 20) (res := [.tmp 4]) (ts := [4]) Ty.ok Fn.b23 Try.func23 rfl rfl rfl rfl rfl rfl ?_
  intro Q g hfin
  unfold R_InPart at hF
  refine Wk_seq ?_
  refine WR [] [1, 2] [2] [] [] [] [] ⟨[(1, .str row), (2, .ptr 2 0)], [(2, [.str p.From, .str p.To, .int .i64 p.ID])], [], [], []⟩ .nil (by kernel_rfl) ?_
  refine Wk_seq ?_
  refine WRL ((!Op.bytesLess row p.From) && ((decide (p.To = ([] : List UInt8))) || (Op.bytesLess row p.To))) (fun v : Bool => ⟨[(4, .bool v)], [], [], [], []⟩) [] [4] [] [] [] [] [] .nil (by kernel_rfl) (fun v hv => ?_)
  have hF := lt_elim hF hv
  exact Wk_ret (hfin _ ⟨[], [], [], [], [], [], by first | (rw [← hF]; kernel_rfl) | kernel_rfl⟩)

/- tabularyref.HasID -/
noncomputable def R_HasID_J1 (v : Unit) : Option Bool :=
  some false
noncomputable def R_HasID_B1 (l : List Part) (at0 : Int) (num : Int) (id : Int) (v1 : Int) : Option (Int ⊕ Bool) :=
  if (decide (v1 < (l.length : Int))) = true then
    asrt (0 ≤ v1 ∧ v1 < (l.length : Int)) <|
    if ((decide (((lget l v1).ID) = id)) && ((decide (v1 < at0)) || (decide ((w64 (at0 + num)) ≤ v1)))) = true then
      some (Sum.inr true)
    else
      some (Sum.inl (w64 (v1 + 1)))
  else
    inrO (R_HasID_J1 ())
noncomputable def R_HasID_L1 (l : List Part) (at0 : Int) (num : Int) (id : Int) (v0 : Int) : Option Bool :=
  loopO (fun y => R_HasID_B1 l at0 num id y) v0
noncomputable def R_HasID (l : List Part) (at0 : Int) (num : Int) (id : Int) : Option Bool :=
  R_HasID_L1 l at0 num id 0
theorem R_HasID_ok (l : List Part) (at0 : Int) (num : Int) (id : Int) (r : Bool) (hF : R_HasID l at0 num id = some r) : Pe Try.prog 25 S.none [.sl 3 (l.map e_Part), .int .i64 at0, .int .i64 num, .int .i64 id] (.bool r) S.none := by
  refine Pe_of (N := 35) (res := [.tmp 8]) (ts := [4]) Ty.ok Fn.b25 Try.func25 rfl rfl rfl rfl rfl rfl ?_
  intro Q g hfin
  unfold R_HasID at hF
  refine Wk_seq ?_
  refine WR [] [0, 1, 2, 3] [] [] [] [] [] ⟨[(0, .sl 3 (l.map e_Part)), (1, .int .i64 at0), (2, .int .i64 num), (3, .int .i64 id)], [], [], [], []⟩ .nil (by kernel_rfl) ?_
  refine Wk_seq ?_
  refine Wk_seq ?_
  refine WR [] [0, 1, 2, 3, 9] [] [] [] [] [] ⟨[(0, .sl 3 (l.map e_Part)), (1, .int .i64 at0), (2, .int .i64 num), (3, .int .i64 id), (9, .int .i64 0)], [], [], [], []⟩ .nil (by kernel_rfl) ?_
  refine Wk_meetP (fun v : Unit => (⟨[], [], [], [], []⟩ : S)) (fun v => R_HasID_J1 v = some r) ?_ ?_
  · refine Wk_block ?_
    unfold R_HasID_L1 at hF
    refine Wk_trim (fs := [0, 1, 2, 3, 9]) (bs := []) (rs := []) (ms := []) (aa := []) (nv := []) (t := (fun v1 : Int => (⟨[(0, .sl 3 (l.map e_Part)), (1, .int .i64 at0), (2, .int .i64 num), (3, .int .i64 id), (9, .int .i64 v1)], [], [], [], []⟩ : S)) 0) (by kernel_rfl) ?_
    refine Wk_iter (step := fun y => R_HasID_B1 l at0 num id y) (r := r) (fun v1 : Int => (⟨[(0, .sl 3 (l.map e_Part)), (1, .int .i64 at0), (2, .int .i64 num), (3, .int .i64 id), (9, .int .i64 v1)], [], [], [], []⟩ : S)) 0 hF ?_
    intro n1 v1 y1 hF ih1 dn1
    have hF : R_HasID_B1 l at0 num id v1 = some y1 := hF
    unfold R_HasID_B1 at hF
    refine Wk_seq ?_
    refine Wk_seq ?_
    refine WR [.nat (l.length : Int)] [0, 1, 2, 3, 9, 13] [] [] [] [] [] ⟨[(0, .sl 3 (l.map e_Part)), (1, .int .i64 at0), (2, .int .i64 num), (3, .int .i64 id), (9, .int .i64 v1), (13, .bool (decide (v1 < (l.length : Int))))], [], [], [], []⟩ (.cons (len_ok e_Part l) .nil) (by kernel_rfl) ?_
    refine Wk_split rfl (fun hb => ?_) (fun hb => ?_)
    · have hF := ite_t hF hb
      refine Wk_skip ?_
      refine Wk_seq ?_
      refine Wk_block ?_
      refine Wk_seq ?_
      obtain ⟨h0, hF⟩ := asrt_elim hF
      refine WR [.av (e_Part (lget l v1))] [0, 1, 2, 3, 9, 34] [] [] [] [] [] ⟨[(0, .sl 3 (l.map e_Part)), (1, .int .i64 at0), (2, .int .i64 num), (3, .int .i64 id), (9, .int .i64 v1), (34, .bool ((decide (((lget l v1).ID) = id)) && ((decide (v1 < at0)) || (decide ((w64 (at0 + num)) ≤ v1)))))], [], [], [], []⟩ (.cons (idx_ok e_Part h0) .nil) (by kernel_rfl) ?_
      refine Wk_split rfl (fun hb => ?_) (fun hb => ?_)
      · have hF := ite_t hF hb
        refine Wk_seq ?_
        refine WR [] [8] [] [] [] [] [] ⟨[(8, .bool true)], [], [], [], []⟩ .nil (by kernel_rfl) ?_
        have hF := ret_done hF dn1
        have hF := some_elim hF
        exact Wk_ret (hfin _ ⟨[], [], [], [], [], [], by first | (rw [← hF]; kernel_rfl) | kernel_rfl⟩)
      · have hF := ite_f hF hb
        refine Wk_skip ?_
        refine Wk_blk ?_
        refine WR [] [0, 1, 2, 3, 9] [] [] [] [] [] ⟨[(0, .sl 3 (l.map e_Part)), (1, .int .i64 at0), (2, .int .i64 num), (3, .int .i64 id), (9, .int .i64 (w64 (v1 + 1)))], [], [], [], []⟩ .nil (by kernel_rfl) ?_
        refine Wk_trim (fs := [0, 1, 2, 3, 9]) (bs := []) (rs := []) (ms := []) (aa := []) (nv := []) ?_ (ih1 _ (some_elim hF).symm)
        kernel_rfl
    · have hF := ite_f hF hb
      refine Wk_exit rfl ?_
      have hF := inrO_done hF dn1
      exact Wk_metP () [] [] [] [] [] [] hF (by kernel_rfl)
  · intro v hF
    have hF : R_HasID_J1 v = some r := hF
    unfold R_HasID_J1 at hF
    refine Wk_seq ?_
    refine WR [] [8] [] [] [] [] [] ⟨[(8, .bool false)], [], [], [], []⟩ .nil (by kernel_rfl) ?_
    have hF := some_elim hF
    exact Wk_ret (hfin _ ⟨[], [], [], [], [], [], by first | (rw [← hF]; kernel_rfl) | kernel_rfl⟩)

end G
end Go.Proofs.Ytdjlninhfndjfaa
