/- The program's functions as plain functions, and that they are these. Written by a program (dec2.py). -/
import Derived.Test.YtcnngkigpfpalaaTys
namespace Go.Proofs.Ytcnngkigpfpalaa
open Go Go.Dm
set_option linter.unusedVariables false
set_option linter.unusedSimpArgs false
set_option maxRecDepth 100000
namespace G
/- entry.fault -/
noncomputable def entry_fault (code : Int) (at0 : Int) : Fault :=
  (⟨code, at0⟩ : Fault)
theorem entry_fault_ok (code : Int) (at0 : Int) (r : Fault) (hF : entry_fault code at0 = r) : Pe Try.prog 57 S.none [.int .i64 code, .int .i64 at0] (.agg [.int .i64 r.Code, .int .i64 r.At]) S.none := by
  refine Pe_of (N := 8) (res := [.cell 4 26]) (ts := [26]) Ty.ok Fn.b57 Try.func57 rfl rfl rfl rfl rfl rfl ?_
  intro Q g hfin
  unfold entry_fault at hF
  refine Wk_seq ?_
  refine WR [] [0, 1, 4] [4] [] [] [] [] ⟨[(0, .int .i64 code), (1, .int .i64 at0), (4, .ptr 4 0)], [(4, [.int .i64 0, .int .i64 0])], [], [], []⟩ .nil (by kernel_rfl) ?_
  refine Wk_seq ?_
  refine WR [] [4] [4] [] [] [] [] ⟨[(4, .ptr 4 0)], [(4, [.int .i64 code, .int .i64 at0])], [], [], []⟩ .nil (by kernel_rfl) ?_
  exact Wk_ret (hfin _ ⟨[], [], [], [], [], [], by first | (rw [← hF]; kernel_rfl) | kernel_rfl⟩)

/- entry.Check -/
noncomputable def entry_Check_J1 (v : Fault) : Option Fault :=
  some (⟨0, 0⟩ : Fault)
noncomputable def entry_Check_B1 (l : List Entry) (v1 : Fault × Int × Int) : Option ((Fault × Int × Int) ⊕ Fault) :=
  if (decide (v1.2.2 < (l.length : Int))) = true then
    asrt (0 ≤ v1.2.2 ∧ v1.2.2 < (l.length : Int)) <|
    if ((decide (((lget l v1.2.2).Term) < 1)) || (decide (1000000000 < ((lget l v1.2.2).Term)))) = true then
      lt (entry_fault 3 v1.2.2) fun x1 =>
      some (Sum.inr x1)
    else
      if (decide (((lget l v1.2.2).Term) < v1.2.1)) = true then
        lt (entry_fault 11 v1.2.2) fun x2 =>
        some (Sum.inr x2)
      else
        if (decide (200 < (((lget l v1.2.2).Text).length : Int))) = true then
          lt (entry_fault 8 v1.2.2) fun x3 =>
          some (Sum.inr x3)
        else
          some (Sum.inl (v1.1, (lget l v1.2.2).Term, w64 (v1.2.2 + 1)))
  else
    inrO (entry_Check_J1 v1.1)
noncomputable def entry_Check_L1 (l : List Entry) (v0 : Fault × Int × Int) : Option Fault :=
  loopO (fun y => entry_Check_B1 l y) v0
noncomputable def entry_Check (l : List Entry) : Option Fault :=
  if (decide (100 < (l.length : Int))) = true then
    lt (entry_fault 2 (-1)) fun x =>
    some x
  else
    entry_Check_L1 l ((⟨0, 0⟩ : Fault), 0, 0)
theorem entry_Check_ok (l : List Entry) (r : Fault) (hF : entry_Check l = some r) : Pe Try.prog 17 S.none [.sl 2 (l.map e_Entry)] (.agg [.int .i64 r.Code, .int .i64 r.At]) S.none := by
  refine Pe_of (N := 46) (res := [.cell 2 26]) (ts := [26]) Ty.ok Fn.b17 Try.func17 rfl rfl rfl rfl rfl rfl ?_
  intro Q g hfin
  unfold entry_Check at hF
  refine Wk_seq ?_
  refine WR [] [0, 2] [2] [] [] [] [] ⟨[(0, .sl 2 (l.map e_Entry)), (2, .ptr 2 0)], [(2, [.int .i64 0, .int .i64 0])], [], [], []⟩ .nil (by kernel_rfl) ?_
  refine Wk_seq ?_
  refine Wk_seq ?_
  refine WR [.nat (l.length : Int)] [0, 2, 8] [2] [] [] [] [] ⟨[(0, .sl 2 (l.map e_Entry)), (2, .ptr 2 0), (8, .bool (decide (100 < (l.length : Int))))], [(2, [.int .i64 0, .int .i64 0])], [], [], []⟩ (.cons (len_ok e_Entry l) .nil) (by kernel_rfl) ?_
  refine Wk_split rfl (fun hb => ?_) (fun hb => ?_)
  · have hF := ite_t hF hb
    refine Wk_seq ?_
    obtain ⟨x, h0, hF⟩ := lt_split hF
    refine WR [.callB (.agg [.int .i64 x.Code, .int .i64 x.At])] [2] [2] [] [] [] [] ⟨[(2, .ptr 2 0)], [(2, [.int .i64 x.Code, .int .i64 x.At])], [], [], []⟩ (.cons (entry_fault_ok 2 (-1) x h0) .nil) (by kernel_rfl) ?_
    have hF := some_elim hF
    exact Wk_ret (hfin _ ⟨[], [], [], [], [], [], by first | (rw [← hF]; kernel_rfl) | kernel_rfl⟩)
  · have hF := ite_f hF hb
    refine Wk_skip ?_
    refine Wk_seq ?_
    refine WR [] [0, 2, 3] [2] [] [] [] [] ⟨[(0, .sl 2 (l.map e_Entry)), (2, .ptr 2 0), (3, .int .i64 0)], [(2, [.int .i64 0, .int .i64 0])], [], [], []⟩ .nil (by kernel_rfl) ?_
    refine Wk_seq ?_
    refine Wk_seq ?_
    refine WR [.nat (l.length : Int)] [2, 3, 10, 11, 12] [2] [] [] [] [] ⟨[(2, .ptr 2 0), (3, .int .i64 0), (10, .sl 2 (l.map e_Entry)), (11, .int .i64 (l.length : Int)), (12, .int .i64 0)], [(2, [.int .i64 0, .int .i64 0])], [], [], []⟩ (.cons (len_ok e_Entry l) .nil) (by kernel_rfl) ?_
    refine Wk_meetP (fun v : Fault => (⟨[(2, .ptr 2 0)], [(2, [.int .i64 v.Code, .int .i64 v.At])], [], [], []⟩ : S)) (fun v => entry_Check_J1 v = some r) ?_ ?_
    · refine Wk_block ?_
      unfold entry_Check_L1 at hF
      refine Wk_trim (fs := [2, 3, 10, 11, 12]) (bs := [2]) (rs := []) (ms := []) (aa := []) (nv := []) (t := (fun v1 : Fault × Int × Int => (⟨[(2, .ptr 2 0), (3, .int .i64 v1.2.1), (10, .sl 2 (l.map e_Entry)), (11, .int .i64 (l.length : Int)), (12, .int .i64 v1.2.2)], [(2, [.int .i64 v1.1.Code, .int .i64 v1.1.At])], [], [], []⟩ : S)) ((⟨0, 0⟩ : Fault), 0, 0)) (by kernel_rfl) ?_
      refine Wk_iter (step := fun y => entry_Check_B1 l y) (r := r) (fun v1 : Fault × Int × Int => (⟨[(2, .ptr 2 0), (3, .int .i64 v1.2.1), (10, .sl 2 (l.map e_Entry)), (11, .int .i64 (l.length : Int)), (12, .int .i64 v1.2.2)], [(2, [.int .i64 v1.1.Code, .int .i64 v1.1.At])], [], [], []⟩ : S)) ((⟨0, 0⟩ : Fault), 0, 0) hF ?_
      intro n1 v1 y1 hF ih1 dn1
      have hF : entry_Check_B1 l v1 = some y1 := hF
      unfold entry_Check_B1 at hF
      refine Wk_seq ?_
      refine WR [] [2, 3, 10, 11, 12, 13] [2] [] [] [] [] ⟨[(2, .ptr 2 0), (3, .int .i64 v1.2.1), (10, .sl 2 (l.map e_Entry)), (11, .int .i64 (l.length : Int)), (12, .int .i64 v1.2.2), (13, .bool (decide (v1.2.2 < (l.length : Int))))], [(2, [.int .i64 v1.1.Code, .int .i64 v1.1.At])], [], [], []⟩ .nil (by kernel_rfl) ?_
      refine Wk_seq ?_
      refine Wk_split rfl (fun hb => ?_) (fun hb => ?_)
      · have hF := ite_t hF hb
        refine Wk_skip ?_
        refine Wk_seq ?_
        refine Wk_block ?_
        refine Wk_seq ?_
        obtain ⟨h1, hF⟩ := asrt_elim hF
        refine WR [.av (e_Entry (lget l v1.2.2))] [2, 3, 4, 5, 10, 11, 12] [2, 5] [] [] [] [] ⟨[(2, .ptr 2 0), (3, .int .i64 v1.2.1), (4, .int .i64 v1.2.2), (5, .ptr 5 0), (10, .sl 2 (l.map e_Entry)), (11, .int .i64 (l.length : Int)), (12, .int .i64 v1.2.2)], [(2, [.int .i64 v1.1.Code, .int .i64 v1.1.At]), (5, [.int .i64 ((lget l v1.2.2).Term), .str ((lget l v1.2.2).Text)])], [], [], []⟩ (.cons (idx_ok e_Entry h1) .nil) (by kernel_rfl) ?_
        refine Wk_seq ?_
        refine Wk_block ?_
        refine Wk_seq ?_
        refine WR [] [2, 3, 4, 5, 10, 11, 12, 17] [2, 5] [] [] [] [] ⟨[(2, .ptr 2 0), (3, .int .i64 v1.2.1), (4, .int .i64 v1.2.2), (5, .ptr 5 0), (10, .sl 2 (l.map e_Entry)), (11, .int .i64 (l.length : Int)), (12, .int .i64 v1.2.2), (17, .bool ((decide (((lget l v1.2.2).Term) < 1)) || (decide (1000000000 < ((lget l v1.2.2).Term)))))], [(2, [.int .i64 v1.1.Code, .int .i64 v1.1.At]), (5, [.int .i64 ((lget l v1.2.2).Term), .str ((lget l v1.2.2).Text)])], [], [], []⟩ .nil (by kernel_rfl) ?_
        refine Wk_split rfl (fun hb => ?_) (fun hb => ?_)
        · have hF := ite_t hF hb
          refine Wk_seq ?_
          obtain ⟨x1, h2, hF⟩ := lt_split hF
          refine WR [.callB (.agg [.int .i64 x1.Code, .int .i64 x1.At])] [2] [2] [] [] [] [] ⟨[(2, .ptr 2 0)], [(2, [.int .i64 x1.Code, .int .i64 x1.At])], [], [], []⟩ (.cons (entry_fault_ok 3 v1.2.2 x1 h2) .nil) (by kernel_rfl) ?_
          have hF := ret_done hF dn1
          have hF := some_elim hF
          exact Wk_ret (hfin _ ⟨[], [], [], [], [], [], by first | (rw [← hF]; kernel_rfl) | kernel_rfl⟩)
        · have hF := ite_f hF hb
          refine Wk_seq ?_
          refine WR [] [2, 4, 5, 10, 11, 12, 28] [2, 5] [] [] [] [] ⟨[(2, .ptr 2 0), (4, .int .i64 v1.2.2), (5, .ptr 5 0), (10, .sl 2 (l.map e_Entry)), (11, .int .i64 (l.length : Int)), (12, .int .i64 v1.2.2), (28, .bool (decide (((lget l v1.2.2).Term) < v1.2.1)))], [(2, [.int .i64 v1.1.Code, .int .i64 v1.1.At]), (5, [.int .i64 ((lget l v1.2.2).Term), .str ((lget l v1.2.2).Text)])], [], [], []⟩ .nil (by kernel_rfl) ?_
          refine Wk_split rfl (fun hb => ?_) (fun hb => ?_)
          · have hF := ite_t hF hb
            refine Wk_seq ?_
            obtain ⟨x2, h3, hF⟩ := lt_split hF
            refine WR [.callB (.agg [.int .i64 x2.Code, .int .i64 x2.At])] [2] [2] [] [] [] [] ⟨[(2, .ptr 2 0)], [(2, [.int .i64 x2.Code, .int .i64 x2.At])], [], [], []⟩ (.cons (entry_fault_ok 11 v1.2.2 x2 h3) .nil) (by kernel_rfl) ?_
            have hF := ret_done hF dn1
            have hF := some_elim hF
            exact Wk_ret (hfin _ ⟨[], [], [], [], [], [], by first | (rw [← hF]; kernel_rfl) | kernel_rfl⟩)
          · have hF := ite_f hF hb
            refine Wk_seq ?_
            refine WR [] [2, 4, 5, 10, 11, 12, 35] [2, 5] [] [] [] [] ⟨[(2, .ptr 2 0), (4, .int .i64 v1.2.2), (5, .ptr 5 0), (10, .sl 2 (l.map e_Entry)), (11, .int .i64 (l.length : Int)), (12, .int .i64 v1.2.2), (35, .bool (decide (200 < (((lget l v1.2.2).Text).length : Int))))], [(2, [.int .i64 v1.1.Code, .int .i64 v1.1.At]), (5, [.int .i64 ((lget l v1.2.2).Term), .str ((lget l v1.2.2).Text)])], [], [], []⟩ .nil (by kernel_rfl) ?_
            refine Wk_split rfl (fun hb => ?_) (fun hb => ?_)
            · have hF := ite_t hF hb
              refine Wk_seq ?_
              obtain ⟨x3, h4, hF⟩ := lt_split hF
              refine WR [.callB (.agg [.int .i64 x3.Code, .int .i64 x3.At])] [2] [2] [] [] [] [] ⟨[(2, .ptr 2 0)], [(2, [.int .i64 x3.Code, .int .i64 x3.At])], [], [], []⟩ (.cons (entry_fault_ok 8 v1.2.2 x3 h4) .nil) (by kernel_rfl) ?_
              have hF := ret_done hF dn1
              have hF := some_elim hF
              exact Wk_ret (hfin _ ⟨[], [], [], [], [], [], by first | (rw [← hF]; kernel_rfl) | kernel_rfl⟩)
            · have hF := ite_f hF hb
              refine Wk_skip ?_
              refine Wk_blk ?_
              refine WR [] [2, 3, 10, 11, 12] [2] [] [] [] [] ⟨[(2, .ptr 2 0), (3, .int .i64 ((lget l v1.2.2).Term)), (10, .sl 2 (l.map e_Entry)), (11, .int .i64 (l.length : Int)), (12, .int .i64 v1.2.2)], [(2, [.int .i64 v1.1.Code, .int .i64 v1.1.At])], [], [], []⟩ .nil (by kernel_rfl) ?_
              refine Wk_blk ?_
              refine WR [] [2, 3, 10, 11, 12] [2] [] [] [] [] ⟨[(2, .ptr 2 0), (3, .int .i64 ((lget l v1.2.2).Term)), (10, .sl 2 (l.map e_Entry)), (11, .int .i64 (l.length : Int)), (12, .int .i64 (w64 (v1.2.2 + 1)))], [(2, [.int .i64 v1.1.Code, .int .i64 v1.1.At])], [], [], []⟩ .nil (by kernel_rfl) ?_
              refine Wk_trim (fs := [2, 3, 10, 11, 12]) (bs := [2]) (rs := []) (ms := []) (aa := []) (nv := []) ?_ (ih1 _ (some_elim hF).symm)
              kernel_rfl
      · have hF := ite_f hF hb
        refine Wk_exit rfl ?_
        have hF := inrO_done hF dn1
        exact Wk_metP v1.1 [2] [2] [] [] [] [] hF (by kernel_rfl)
    · intro v hF
      have hF : entry_Check_J1 v = some r := hF
      unfold entry_Check_J1 at hF
      refine Wk_seq ?_
      refine WR [] [2] [2] [] [] [] [] ⟨[(2, .ptr 2 0)], [(2, [.int .i64 0, .int .i64 0])], [], [], []⟩ .nil (by kernel_rfl) ?_
      have hF := some_elim hF
      exact Wk_ret (hfin _ ⟨[], [], [], [], [], [], by first | (rw [← hF]; kernel_rfl) | kernel_rfl⟩)

/- entry.two -/
noncomputable def entry_two (a0 : List Entry) (b : List Entry) : Option Fault :=
  ob (entry_Check a0) fun x =>
  ob (
    if (decide (x.Code = 0)) = true then
      ob (entry_Check b) fun x1 =>
      if (!decide (x1.Code = 0)) = true then
        some ((⟨0, 0⟩ : Fault), (⟨x1.Code, w64 (x1.At - 1000)⟩ : Fault))
      else
        some ((⟨0, 0⟩ : Fault), x1)
    else
      some ((⟨0, 0⟩ : Fault), x)) fun (v : Fault × Fault) =>
  some v.2
theorem entry_two_ok (a0 : List Entry) (b : List Entry) (r : Fault) (hF : entry_two a0 b = some r) : Pe Try.prog 53 S.none [.sl 2 (a0.map e_Entry), .sl 2 (b.map e_Entry)] (.agg [.int .i64 r.Code, .int .i64 r.At]) S.none := by
  refine Pe_of (N := 21) (res := [.cell 4 26]) (ts := [26]) Ty.ok Fn.b53 Try.func53 rfl rfl rfl rfl rfl rfl ?_
  intro Q g hfin
  unfold entry_two at hF
  refine Wk_seq ?_
  refine WR [] [0, 1, 4] [4] [] [] [] [] ⟨[(0, .sl 2 (a0.map e_Entry)), (1, .sl 2 (b.map e_Entry)), (4, .ptr 4 0)], [(4, [.int .i64 0, .int .i64 0])], [], [], []⟩ .nil (by kernel_rfl) ?_
  refine Wk_seq ?_
  obtain ⟨x, h0, hF⟩ := ob_elim hF
  refine WR [.callB (.agg [.int .i64 x.Code, .int .i64 x.At])] [1, 4, 5] [4, 5] [] [] [] [] ⟨[(1, .sl 2 (b.map e_Entry)), (4, .ptr 4 0), (5, .ptr 5 0)], [(4, [.int .i64 0, .int .i64 0]), (5, [.int .i64 x.Code, .int .i64 x.At])], [], [], []⟩ (.cons (entry_Check_ok a0 x h0) .nil) (by kernel_rfl) ?_
  refine Wk_seq ?_
  refine Wk_seq ?_
  refine WR [] [1, 4, 5, 10] [4, 5] [] [] [] [] ⟨[(1, .sl 2 (b.map e_Entry)), (4, .ptr 4 0), (5, .ptr 5 0), (10, .bool (decide (x.Code = 0)))], [(4, [.int .i64 0, .int .i64 0]), (5, [.int .i64 x.Code, .int .i64 x.At])], [], [], []⟩ .nil (by kernel_rfl) ?_
  obtain ⟨v, hv, hF⟩ := ob_elim hF
  refine Wk_meet (⟨[(4, .ptr 4 0), (5, .ptr 5 0)], [(4, [.int .i64 v.1.Code, .int .i64 v.1.At]), (5, [.int .i64 v.2.Code, .int .i64 v.2.At])], [], [], []⟩ : S) ?_ ?_
  · have hF := hv
    refine Wk_split rfl (fun hb => ?_) (fun hb => ?_)
    · have hF := ite_t hF hb
      refine Wk_seq ?_
      obtain ⟨x1, h1, hF⟩ := ob_elim hF
      refine WR [.callB (.agg [.int .i64 x1.Code, .int .i64 x1.At])] [4, 5] [4, 5] [] [] [] [] ⟨[(4, .ptr 4 0), (5, .ptr 5 0)], [(4, [.int .i64 0, .int .i64 0]), (5, [.int .i64 x1.Code, .int .i64 x1.At])], [], [], []⟩ (.cons (entry_Check_ok b x1 h1) .nil) (by kernel_rfl) ?_
      refine Wk_seq ?_
      refine WR [] [4, 5, 15] [4, 5] [] [] [] [] ⟨[(4, .ptr 4 0), (5, .ptr 5 0), (15, .bool (!decide (x1.Code = 0)))], [(4, [.int .i64 0, .int .i64 0]), (5, [.int .i64 x1.Code, .int .i64 x1.At])], [], [], []⟩ .nil (by kernel_rfl) ?_
      refine Wk_split rfl (fun hb => ?_) (fun hb => ?_)
      · have hF := ite_t hF hb
        refine WR [] [4, 5] [4, 5] [] [] [] [] ⟨[(4, .ptr 4 0), (5, .ptr 5 0)], [(4, [.int .i64 0, .int .i64 0]), (5, [.int .i64 x1.Code, .int .i64 (w64 (x1.At - 1000))])], [], [], []⟩ .nil (by kernel_rfl) ?_
        exact Wk_met (fs := [4, 5]) (bs := [4, 5]) (rs := []) (ms := []) (aa := []) (nv := []) (by first | (rw [← some_elim hF]; kernel_rfl) | kernel_rfl)
      · have hF := ite_f hF hb
        refine Wk_skip ?_
        exact Wk_met (fs := [4, 5]) (bs := [4, 5]) (rs := []) (ms := []) (aa := []) (nv := []) (by first | (rw [← some_elim hF]; kernel_rfl) | kernel_rfl)
    · have hF := ite_f hF hb
      refine Wk_skip ?_
      exact Wk_met (fs := [4, 5]) (bs := [4, 5]) (rs := []) (ms := []) (aa := []) (nv := []) (by first | (rw [← some_elim hF]; kernel_rfl) | kernel_rfl)
  · refine Wk_seq ?_
    refine WR [] [4] [4] [] [] [] [] ⟨[(4, .ptr 4 0)], [(4, [.int .i64 v.2.Code, .int .i64 v.2.At])], [], [], []⟩ .nil (by kernel_rfl) ?_
    have hF := some_elim hF
    exact Wk_ret (hfin _ ⟨[], [], [], [], [], [], by first | (rw [← hF]; kernel_rfl) | kernel_rfl⟩)

/- entry.number -/
noncomputable def entry_number (num : Int) : Bool :=
  (decide (0 ≤ num)) && (decide (num ≤ 1000000000))
theorem entry_number_ok (num : Int) (r : Bool) (hF : entry_number num = r) : Pe Try.prog 89 S.none [.int .i64 num] (.bool r) S.none := by
  refine Pe_of (N := 9) (res := [.tmp 2]) (ts := [4]) Ty.ok Fn.b89 Try.func89 rfl rfl rfl rfl rfl rfl ?_
  intro Q g hfin
  unfold entry_number at hF
  refine Wk_seq ?_
  refine WR [] [0] [] [] [] [] [] ⟨[(0, .int .i64 num)], [], [], [], []⟩ .nil (by kernel_rfl) ?_
  refine Wk_seq ?_
  refine WR [] [2] [] [] [] [] [] ⟨[(2, .bool ((decide (0 ≤ num)) && (decide (num ≤ 1000000000))))], [], [], [], []⟩ .nil (by kernel_rfl) ?_
  exact Wk_ret (hfin _ ⟨[], [], [], [], [], [], by first | (rw [← hF]; kernel_rfl) | kernel_rfl⟩)

/- entry.ranged -/
noncomputable def entry_ranged (num : Int) (term : Int) : Fault :=
  lt (entry_number num) fun x =>
  if (!x) = true then
    lt (entry_fault 3 (-1)) fun x1 =>
    x1
  else
    lt (entry_number term) fun x2 =>
    if (!x2) = true then
      lt (entry_fault 3 (-2)) fun x3 =>
      x3
    else
      (⟨0, 0⟩ : Fault)
theorem entry_ranged_ok (num : Int) (term : Int) (r : Fault) (hF : entry_ranged num term = r) : Pe Try.prog 54 S.none [.int .i64 num, .int .i64 term] (.agg [.int .i64 r.Code, .int .i64 r.At]) S.none := by
  refine Pe_of (N := 14) (res := [.cell 4 26]) (ts := [26]) Ty.ok Fn.b54 Try.func54 rfl rfl rfl rfl rfl rfl ?_
  intro Q g hfin
  unfold entry_ranged at hF
  refine Wk_seq ?_
  refine WR [] [0, 1, 4] [4] [] [] [] [] ⟨[(0, .int .i64 num), (1, .int .i64 term), (4, .ptr 4 0)], [(4, [.int .i64 0, .int .i64 0])], [], [], []⟩ .nil (by kernel_rfl) ?_
  refine Wk_seq ?_
  refine Wk_seq ?_
  obtain ⟨x, h0, hF⟩ := lt_split hF
  refine WR [.callB (.bool x)] [1, 4, 7] [4] [] [] [] [] ⟨[(1, .int .i64 term), (4, .ptr 4 0), (7, .bool (!x))], [(4, [.int .i64 0, .int .i64 0])], [], [], []⟩ (.cons (entry_number_ok num x h0) .nil) (by kernel_rfl) ?_
  refine Wk_split rfl (fun hb => ?_) (fun hb => ?_)
  · have hF := ite_t hF hb
    refine Wk_seq ?_
    obtain ⟨x1, h1, hF⟩ := lt_split hF
    refine WR [.callB (.agg [.int .i64 x1.Code, .int .i64 x1.At])] [4] [4] [] [] [] [] ⟨[(4, .ptr 4 0)], [(4, [.int .i64 x1.Code, .int .i64 x1.At])], [], [], []⟩ (.cons (entry_fault_ok 3 (-1) x1 h1) .nil) (by kernel_rfl) ?_
    exact Wk_ret (hfin _ ⟨[], [], [], [], [], [], by first | (rw [← hF]; kernel_rfl) | kernel_rfl⟩)
  · have hF := ite_f hF hb
    refine Wk_skip ?_
    refine Wk_seq ?_
    refine Wk_seq ?_
    obtain ⟨x2, h2, hF⟩ := lt_split hF
    refine WR [.callB (.bool x2)] [4, 11] [4] [] [] [] [] ⟨[(4, .ptr 4 0), (11, .bool (!x2))], [(4, [.int .i64 0, .int .i64 0])], [], [], []⟩ (.cons (entry_number_ok term x2 h2) .nil) (by kernel_rfl) ?_
    refine Wk_split rfl (fun hb => ?_) (fun hb => ?_)
    · have hF := ite_t hF hb
      refine Wk_seq ?_
      obtain ⟨x3, h3, hF⟩ := lt_split hF
      refine WR [.callB (.agg [.int .i64 x3.Code, .int .i64 x3.At])] [4] [4] [] [] [] [] ⟨[(4, .ptr 4 0)], [(4, [.int .i64 x3.Code, .int .i64 x3.At])], [], [], []⟩ (.cons (entry_fault_ok 3 (-2) x3 h3) .nil) (by kernel_rfl) ?_
      exact Wk_ret (hfin _ ⟨[], [], [], [], [], [], by first | (rw [← hF]; kernel_rfl) | kernel_rfl⟩)
    · have hF := ite_f hF hb
      refine Wk_skip ?_
      refine Wk_seq ?_
      refine WR [] [4] [4] [] [] [] [] ⟨[(4, .ptr 4 0)], [(4, [.int .i64 0, .int .i64 0])], [], [], []⟩ .nil (by kernel_rfl) ?_
      exact Wk_ret (hfin _ ⟨[], [], [], [], [], [], by first | (rw [← hF]; kernel_rfl) | kernel_rfl⟩)

/- slices.Clone[[]api.Entry,api.Entry] -/
noncomputable def slices_Clone_api_Entry_api_Entry (s0 : List Entry) : Option (List Entry) :=
  ubO (decide (s0.length = 0)) (
    some ([] : List Entry)) (
    asrt (((([] : List Entry) ++ s0).length : Int) * 24 ≤ 140737488351232) <|
    some (([] : List Entry) ++ s0))
theorem slices_Clone_api_Entry_api_Entry_ok (s0 : List Entry) (r : List Entry) (hF : slices_Clone_api_Entry_api_Entry s0 = some r) : Pe Try.prog 55 ⟨[], [], [], [], []⟩ [.sl 2 (s0.map e_Entry)] (.row 5 0) ⟨[], [], [(5, ⟨31, 2, 0, 0, 0, false, 0, [], (r.map e_Entry)⟩)], [], []⟩ := by
  refine Pe_of (N := 8) (res := [.tmp 2]) (ts := [22]) Ty.ok Fn.b55 Try.func55 rfl rfl rfl rfl rfl rfl ?_
  intro Q g hfin
  unfold slices_Clone_api_Entry_api_Entry at hF
  refine Wk_seq ?_
  refine WR [] [0] [] [] [] [] [] ⟨[(0, .sl 2 (s0.map e_Entry))], [], [], [], []⟩ .nil (by kernel_rfl) ?_
  refine Wk_seq ?_
  refine Wk_seq ?_
  refine WR [.bo (decide (s0.length = 0))] [0, 4] [] [] [] [] [] ⟨[(0, .sl 2 (s0.map e_Entry)), (4, .ub (decide (s0.length = 0)) true)], [], [], [], []⟩ (.cons (ubn_ok e_Entry s0) .nil) (by kernel_rfl) ?_
  refine Wk_ub 4 rfl fun b hb1 hb2 => ?_
  refine Wk_split rfl (fun hb => ?_) (fun hb => ?_)
  · have hb := hb1 hb
    have hF := (ubO_elim hF).1 hb
    refine Wk_seq ?_
    refine WR [] [2] [] [] [] [] [] ⟨[(2, .nils)], [], [], [], []⟩ .nil (by kernel_rfl) ?_
    have hF := some_elim hF
    refine Wk_nilrow 2 60000 31 2 rfl rfl rfl ?_
    refine Wk_ren' ⟨[], [(60000, 5)], [], []⟩ rfl ?_
    exact Wk_ret (hfin _ ⟨[5], [], [5], [], [], [(5, ⟨0, true, false, false⟩)], by first | (rw [← hF]; kernel_rfl) | kernel_rfl⟩)
  · have hF := (ubO_elim hF).2
    refine Wk_skip ?_
    refine Wk_seq ?_
    obtain ⟨h0, hF⟩ := asrt_elim hF
    refine WR [.xs ((([] : List Entry) ++ s0).map e_Entry)] [2] [] [5] [] [] [] ⟨[(2, .row 5 1)], [], [(5, ⟨31, 2, 1, 0, 0, false, 0, [], ((([] : List Entry) ++ s0).map e_Entry)⟩)], [], []⟩ (.cons (app_ok e_Entry ([] : List Entry) s0) (.cons (appl_ok e_Entry h0) .nil)) (by kernel_rfl) ?_
    have hF := some_elim hF
    exact Wk_ret (hfin _ ⟨[5], [], [5], [], [], [(5, ⟨0, true, true, false⟩)], by first | (rw [← hF]; kernel_rfl) | kernel_rfl⟩)

/- entry.TermAt -/
noncomputable def entry_TermAt (l : List Entry) (at0 : Int) : Option Int :=
  if ((decide (at0 < 1)) || (decide ((l.length : Int) < at0))) = true then
    some 0
  else
    asrt (0 ≤ w64 (at0 - 1) ∧ w64 (at0 - 1) < (l.length : Int)) <|
    some ((lget l (w64 (at0 - 1))).Term)
theorem entry_TermAt_ok (l : List Entry) (at0 : Int) (r : Int) (hF : entry_TermAt l at0 = some r) : Pe Try.prog 62 S.none [.sl 2 (l.map e_Entry), .int .i64 at0] (.int .i64 r) S.none := by
  refine Pe_of (N := 19) (res := [.tmp 4]) (ts := [3]) Ty.ok Fn.b62 Try.func62 rfl rfl rfl rfl rfl rfl ?_
  intro Q g hfin
  unfold entry_TermAt at hF
  refine Wk_seq ?_
  refine WR [] [0, 1] [] [] [] [] [] ⟨[(0, .sl 2 (l.map e_Entry)), (1, .int .i64 at0)], [], [], [], []⟩ .nil (by kernel_rfl) ?_
  refine Wk_seq ?_
  refine Wk_seq ?_
  refine WR [.nat (l.length : Int)] [0, 1, 12] [] [] [] [] [] ⟨[(0, .sl 2 (l.map e_Entry)), (1, .int .i64 at0), (12, .bool ((decide (at0 < 1)) || (decide ((l.length : Int) < at0))))], [], [], [], []⟩ (.cons (fun (_ : (!(decide (at0 < 1))) = true) => (len_ok e_Entry l)) .nil) (by kernel_rfl) ?_
  refine Wk_split rfl (fun hb => ?_) (fun hb => ?_)
  · have hF := ite_t hF hb
    refine Wk_seq ?_
    refine WR [] [4] [] [] [] [] [] ⟨[(4, .int .i64 0)], [], [], [], []⟩ .nil (by kernel_rfl) ?_
    have hF := some_elim hF
    exact Wk_ret (hfin _ ⟨[], [], [], [], [], [], by first | (rw [← hF]; kernel_rfl) | kernel_rfl⟩)
  · have hF := ite_f hF hb
    refine Wk_skip ?_
    refine Wk_seq ?_
    obtain ⟨h0, hF⟩ := asrt_elim hF
    refine WR [.av (e_Entry (lget l (w64 (at0 - 1))))] [4] [] [] [] [] [] ⟨[(4, .int .i64 ((lget l (w64 (at0 - 1))).Term))], [], [], [], []⟩ (.cons (idx_ok e_Entry h0) .nil) (by kernel_rfl) ?_
    have hF := some_elim hF
    exact Wk_ret (hfin _ ⟨[], [], [], [], [], [], by first | (rw [← hF]; kernel_rfl) | kernel_rfl⟩)

/- entry.Fits -/
noncomputable def entry_Fits (l : List Entry) (at0 : Int) (term : Int) : Option Bool :=
  ob (if (decide (at0 ≤ (l.length : Int))) = true then (entry_TermAt l at0) else some default) fun x =>
  some ((decide (at0 ≤ (l.length : Int))) && (decide (x = term)))
theorem entry_Fits_ok (l : List Entry) (at0 : Int) (term : Int) (r : Bool) (hF : entry_Fits l at0 term = some r) : Pe Try.prog 56 S.none [.sl 2 (l.map e_Entry), .int .i64 at0, .int .i64 term] (.bool r) S.none := by
  refine Pe_of (N := 18) (res := [.tmp 6]) (ts := [4]) Ty.ok Fn.b56 Try.func56 rfl rfl rfl rfl rfl rfl ?_
  intro Q g hfin
  unfold entry_Fits at hF
  refine Wk_seq ?_
  refine WR [] [0, 1, 2] [] [] [] [] [] ⟨[(0, .sl 2 (l.map e_Entry)), (1, .int .i64 at0), (2, .int .i64 term)], [], [], [], []⟩ .nil (by kernel_rfl) ?_
  refine Wk_seq ?_
  obtain ⟨x, h0, hF⟩ := ob_elim hF
  refine WR [.nat (l.length : Int), .callB (.int .i64 x)] [6] [] [] [] [] [] ⟨[(6, .bool ((decide (at0 ≤ (l.length : Int))) && (decide (x = term))))], [], [], [], []⟩ (.cons (len_ok e_Entry l) (.cons (fun (ga0 : (decide (at0 ≤ (l.length : Int))) = true) => (entry_TermAt_ok l at0 x (ite_t h0 ga0))) .nil)) (by kernel_rfl) ?_
  have hF := some_elim hF
  exact Wk_ret (hfin _ ⟨[], [], [], [], [], [], by first | (rw [← hF]; kernel_rfl) | kernel_rfl⟩)

/- entry.Put -/
noncomputable def entry_Put_J1 (v1 : Fault × Fault × List Entry) : Option (List Entry × Bool × Fault) :=
  ob (entry_Check v1.2.2) fun x4 =>
  if (!decide (x4.Code = 0)) = true then
    lt (entry_fault x4.Code (-1)) fun x5 =>
    some (([] : List Entry), false, x5)
  else
    some (v1.2.2, true, x4)
noncomputable def entry_Put_B1 (at0 : Int) (more : List Entry) (v2 : Fault × Fault × List Entry × Int) : Option ((Fault × Fault × List Entry × Int) ⊕ (List Entry × Bool × Fault)) :=
  if (decide (v2.2.2.2 < (more.length : Int))) = true then
    ob (
      asrt (0 ≤ v2.2.2.2 ∧ v2.2.2.2 < (more.length : Int)) <|
      asrt ((decide ((w64 (at0 + v2.2.2.2)) < (v2.2.2.1.length : Int))) = true → 0 ≤ w64 (at0 + v2.2.2.2) ∧ w64 (at0 + v2.2.2.2) < (v2.2.2.1.length : Int)) <|
      asrt ((decide ((w64 (at0 + v2.2.2.2)) < (v2.2.2.1.length : Int))) = true → 0 ≤ w64 (at0 + v2.2.2.2) ∧ w64 (at0 + v2.2.2.2) < (v2.2.2.1.length : Int)) <|
      if ((decide ((w64 (at0 + v2.2.2.2)) < (v2.2.2.1.length : Int))) && (decide (((lget v2.2.2.1 (w64 (at0 + v2.2.2.2))).Term) = ((lget more v2.2.2.2).Term)))) = true then
        some (v2.1, v2.2.1, v2.2.2.1)
      else
        asrt (0 ≤ (min (w64 (at0 + v2.2.2.2)) (v2.2.2.1.length : Int)) ∧ (min (w64 (at0 + v2.2.2.2)) (v2.2.2.1.length : Int)) ≤ (v2.2.2.1.length : Int)) <|
        asrt (((v2.2.2.1.take ((min (w64 (at0 + v2.2.2.2)) (v2.2.2.1.length : Int)).toNat) ++ [(⟨(lget more v2.2.2.2).Term, (lget more v2.2.2.2).Text⟩ : Entry)]).length : Int) * 24 ≤ 140737488351232) <|
        asrt (((min (w64 (at0 + v2.2.2.2)) (v2.2.2.1.length : Int)).toNat) ≤ v2.2.2.1.length) <|
        lt ((v2.2.2.1.take ((min (w64 (at0 + v2.2.2.2)) (v2.2.2.1.length : Int)).toNat) ++ [(⟨(lget more v2.2.2.2).Term, (lget more v2.2.2.2).Text⟩ : Entry)])) fun (v4 : List Entry) =>
        some (v2.1, v2.2.1, v4)) fun (v3 : Fault × Fault × List Entry) =>
    some (Sum.inl (v3.1, v3.2.1, v3.2.2, w64 (v2.2.2.2 + 1)))
  else
    inrO (entry_Put_J1 (v2.1, v2.2.1, v2.2.2.1))
noncomputable def entry_Put_L1 (at0 : Int) (more : List Entry) (v0 : Fault × Fault × List Entry × Int) : Option (List Entry × Bool × Fault) :=
  loopO (fun y => entry_Put_B1 at0 more y) v0
noncomputable def entry_Put (l : List Entry) (at0 : Int) (term : Int) (more : List Entry) : Option (List Entry × Bool × Fault) :=
  ob (entry_two l more) fun x =>
  ob (
    if (decide (x.Code = 0)) = true then
      lt (entry_ranged at0 term) fun x1 =>
      some ((⟨0, 0⟩ : Fault), x1)
    else
      some ((⟨0, 0⟩ : Fault), x)) fun (v : Fault × Fault) =>
  if (!decide (v.2.Code = 0)) = true then
    some (([] : List Entry), false, v.2)
  else
    ob (slices_Clone_api_Entry_api_Entry l) fun x2 =>
    ob (entry_Fits l at0 term) fun x3 =>
    if (!x3) = true then
      some (x2, false, v.2)
    else
      entry_Put_L1 at0 more (v.1, v.2, x2, 0)
theorem entry_Put_ok (l : List Entry) (at0 : Int) (term : Int) (more : List Entry) (r : List Entry × Bool × Fault) (hF : entry_Put l at0 term more = some r) : Pe Try.prog 15 ⟨[], [], [], [], []⟩ [.sl 2 (l.map e_Entry), .int .i64 at0, .int .i64 term, .sl 2 (more.map e_Entry)] (.tup [.row 30 0, .bool r.2.1, .agg [.int .i64 r.2.2.Code, .int .i64 r.2.2.At]]) ⟨[], [], [(30, ⟨31, 2, 0, 0, 0, false, 0, [], (r.1.map e_Entry)⟩)], [], []⟩ := by
  refine Pe_of (N := 82) (res := [.tmp 8, .tmp 9, .cell 10 26]) (ts := [22, 4, 26]) Ty.ok Fn.b15 Try.func15 rfl rfl rfl rfl rfl rfl ?_
  intro Q g hfin
  unfold entry_Put at hF
  refine Wk_seq ?_
  refine WR [] [0, 1, 2, 3, 10] [10] [] [] [] [] ⟨[(0, .sl 2 (l.map e_Entry)), (1, .int .i64 at0), (2, .int .i64 term), (3, .sl 2 (more.map e_Entry)), (10, .ptr 10 0)], [(10, [.int .i64 0, .int .i64 0])], [], [], []⟩ .nil (by kernel_rfl) ?_
  refine Wk_seq ?_
  obtain ⟨x, h0, hF⟩ := ob_elim hF
  refine WR [.callB (.agg [.int .i64 x.Code, .int .i64 x.At])] [0, 1, 2, 3, 10, 11] [10, 11] [] [] [] [] ⟨[(0, .sl 2 (l.map e_Entry)), (1, .int .i64 at0), (2, .int .i64 term), (3, .sl 2 (more.map e_Entry)), (10, .ptr 10 0), (11, .ptr 11 0)], [(10, [.int .i64 0, .int .i64 0]), (11, [.int .i64 x.Code, .int .i64 x.At])], [], [], []⟩ (.cons (entry_two_ok l more x h0) .nil) (by kernel_rfl) ?_
  refine Wk_seq ?_
  refine Wk_seq ?_
  refine WR [] [0, 1, 2, 3, 10, 11, 21] [10, 11] [] [] [] [] ⟨[(0, .sl 2 (l.map e_Entry)), (1, .int .i64 at0), (2, .int .i64 term), (3, .sl 2 (more.map e_Entry)), (10, .ptr 10 0), (11, .ptr 11 0), (21, .bool (decide (x.Code = 0)))], [(10, [.int .i64 0, .int .i64 0]), (11, [.int .i64 x.Code, .int .i64 x.At])], [], [], []⟩ .nil (by kernel_rfl) ?_
  obtain ⟨v, hv, hF⟩ := ob_elim hF
  refine Wk_meet (⟨[(0, .sl 2 (l.map e_Entry)), (1, .int .i64 at0), (2, .int .i64 term), (3, .sl 2 (more.map e_Entry)), (10, .ptr 10 0), (11, .ptr 11 0)], [(10, [.int .i64 v.1.Code, .int .i64 v.1.At]), (11, [.int .i64 v.2.Code, .int .i64 v.2.At])], [], [], []⟩ : S) ?_ ?_
  · have hF := hv
    refine Wk_split rfl (fun hb => ?_) (fun hb => ?_)
    · have hF := ite_t hF hb
      obtain ⟨x1, h1, hF⟩ := lt_split hF
      refine WR [.callB (.agg [.int .i64 x1.Code, .int .i64 x1.At])] [0, 1, 2, 3, 10, 11] [10, 11] [] [] [] [] ⟨[(0, .sl 2 (l.map e_Entry)), (1, .int .i64 at0), (2, .int .i64 term), (3, .sl 2 (more.map e_Entry)), (10, .ptr 10 0), (11, .ptr 11 0)], [(10, [.int .i64 0, .int .i64 0]), (11, [.int .i64 x1.Code, .int .i64 x1.At])], [], [], []⟩ (.cons (entry_ranged_ok at0 term x1 h1) .nil) (by kernel_rfl) ?_
      exact Wk_met (fs := [0, 1, 2, 3, 10, 11]) (bs := [10, 11]) (rs := []) (ms := []) (aa := []) (nv := []) (by first | (rw [← some_elim hF]; kernel_rfl) | kernel_rfl)
    · have hF := ite_f hF hb
      refine Wk_skip ?_
      exact Wk_met (fs := [0, 1, 2, 3, 10, 11]) (bs := [10, 11]) (rs := []) (ms := []) (aa := []) (nv := []) (by first | (rw [← some_elim hF]; kernel_rfl) | kernel_rfl)
  · refine Wk_seq ?_
    refine Wk_seq ?_
    refine WR [] [0, 1, 2, 3, 10, 11, 27] [10, 11] [] [] [] [] ⟨[(0, .sl 2 (l.map e_Entry)), (1, .int .i64 at0), (2, .int .i64 term), (3, .sl 2 (more.map e_Entry)), (10, .ptr 10 0), (11, .ptr 11 0), (27, .bool (!decide (v.2.Code = 0)))], [(10, [.int .i64 v.1.Code, .int .i64 v.1.At]), (11, [.int .i64 v.2.Code, .int .i64 v.2.At])], [], [], []⟩ .nil (by kernel_rfl) ?_
    refine Wk_split rfl (fun hb => ?_) (fun hb => ?_)
    · have hF := ite_t hF hb
      refine Wk_seq ?_
      refine WD [] [8, 9, 10] [10] [] [] [] [] ⟨[(8, .nils), (9, .bool false), (10, .ptr 10 0)], [(10, [.int .i64 v.2.Code, .int .i64 v.2.At])], [], [], []⟩ .nil (by kernel_rfl) ?_
      have hF := some_elim hF
      refine Wk_nilrow 8 60000 31 2 rfl rfl rfl ?_
      refine Wk_ren' ⟨[], [(60000, 30)], [], []⟩ rfl ?_
      exact Wk_ret (hfin _ ⟨[30], [], [30], [], [], [(30, ⟨0, true, false, false⟩)], by first | (rw [← hF]; kernel_rfl) | kernel_rfl⟩)
    · have hF := ite_f hF hb
      refine Wk_skip ?_
      refine Wk_seq ?_
      obtain ⟨x2, h2, hF⟩ := ob_elim hF
      refine WR [.callE [] [] [] [] (.row 30 0) ⟨[], [], [(30, ⟨31, 2, 0, 0, 0, false, 0, [], (x2.map e_Entry)⟩)], [], []⟩] [0, 1, 2, 3, 10, 11, 12] [10, 11] [30] [] [] [] ⟨[(0, .sl 2 (l.map e_Entry)), (1, .int .i64 at0), (2, .int .i64 term), (3, .sl 2 (more.map e_Entry)), (10, .ptr 10 0), (11, .ptr 11 0), (12, .row 30 0)], [(10, [.int .i64 v.1.Code, .int .i64 v.1.At]), (11, [.int .i64 v.2.Code, .int .i64 v.2.At])], [(30, ⟨31, 2, 0, 0, 0, false, 0, [], (x2.map e_Entry)⟩)], [], []⟩ (.cons (Pe.ren (slices_Clone_api_Entry_api_Entry_ok l x2 h2) ⟨[], [(5, 30)], [], []⟩) .nil) (by kernel_rfl) ?_
      refine Wk_seq ?_
      refine Wk_seq ?_
      obtain ⟨x3, h3, hF⟩ := ob_elim hF
      refine WR [.callB (.bool x3)] [1, 3, 10, 11, 12, 35] [10, 11] [30] [] [] [] ⟨[(1, .int .i64 at0), (3, .sl 2 (more.map e_Entry)), (10, .ptr 10 0), (11, .ptr 11 0), (12, .row 30 0), (35, .bool (!x3))], [(10, [.int .i64 v.1.Code, .int .i64 v.1.At]), (11, [.int .i64 v.2.Code, .int .i64 v.2.At])], [(30, ⟨31, 2, 0, 0, 0, false, 0, [], (x2.map e_Entry)⟩)], [], []⟩ (.cons (entry_Fits_ok l at0 term x3 h3) .nil) (by kernel_rfl) ?_
      refine Wk_split rfl (fun hb => ?_) (fun hb => ?_)
      · have hF := ite_t hF hb
        refine Wk_seq ?_
        refine WD [] [8, 9, 10] [10] [30] [] [] [] ⟨[(8, .row 30 0), (9, .bool false), (10, .ptr 10 0)], [(10, [.int .i64 v.2.Code, .int .i64 v.2.At])], [(30, ⟨31, 2, 0, 0, 0, false, 0, [], (x2.map e_Entry)⟩)], [], []⟩ .nil (by kernel_rfl) ?_
        have hF := some_elim hF
        exact Wk_ret (hfin _ ⟨[30], [], [30], [], [], [], by first | (rw [← hF]; kernel_rfl) | kernel_rfl⟩)
      · have hF := ite_f hF hb
        refine Wk_skip ?_
        refine Wk_seq ?_
        refine Wk_seq ?_
        refine WR [.nat (more.length : Int)] [1, 10, 11, 12, 38, 39, 40] [10, 11] [30] [] [] [] ⟨[(1, .int .i64 at0), (10, .ptr 10 0), (11, .ptr 11 0), (12, .row 30 0), (38, .sl 2 (more.map e_Entry)), (39, .int .i64 (more.length : Int)), (40, .int .i64 0)], [(10, [.int .i64 v.1.Code, .int .i64 v.1.At]), (11, [.int .i64 v.2.Code, .int .i64 v.2.At])], [(30, ⟨31, 2, 0, 0, 0, false, 0, [], (x2.map e_Entry)⟩)], [], []⟩ (.cons (len_ok e_Entry more) .nil) (by kernel_rfl) ?_
        refine Wk_meetP (fun v1 : Fault × Fault × List Entry => (⟨[(10, .ptr 10 0), (11, .ptr 11 0), (12, .row 30 0)], [(10, [.int .i64 v1.1.Code, .int .i64 v1.1.At]), (11, [.int .i64 v1.2.1.Code, .int .i64 v1.2.1.At])], [(30, ⟨31, 2, 0, 0, 0, false, 0, [], (v1.2.2.map e_Entry)⟩)], [], []⟩ : S)) (fun v1 => entry_Put_J1 v1 = some r) ?_ ?_
        · refine Wk_block ?_
          unfold entry_Put_L1 at hF
          refine Wk_trim (fs := [1, 10, 11, 12, 38, 39, 40]) (bs := [10, 11]) (rs := [30]) (ms := []) (aa := []) (nv := []) (t := (fun v2 : Fault × Fault × List Entry × Int => (⟨[(1, .int .i64 at0), (10, .ptr 10 0), (11, .ptr 11 0), (12, .row 30 0), (38, .sl 2 (more.map e_Entry)), (39, .int .i64 (more.length : Int)), (40, .int .i64 v2.2.2.2)], [(10, [.int .i64 v2.1.Code, .int .i64 v2.1.At]), (11, [.int .i64 v2.2.1.Code, .int .i64 v2.2.1.At])], [(30, ⟨31, 2, 0, 0, 0, false, 0, [], (v2.2.2.1.map e_Entry)⟩)], [], []⟩ : S)) (v.1, v.2, x2, 0)) (by kernel_rfl) ?_
          refine Wk_iter (step := fun y => entry_Put_B1 at0 more y) (r := r) (fun v2 : Fault × Fault × List Entry × Int => (⟨[(1, .int .i64 at0), (10, .ptr 10 0), (11, .ptr 11 0), (12, .row 30 0), (38, .sl 2 (more.map e_Entry)), (39, .int .i64 (more.length : Int)), (40, .int .i64 v2.2.2.2)], [(10, [.int .i64 v2.1.Code, .int .i64 v2.1.At]), (11, [.int .i64 v2.2.1.Code, .int .i64 v2.2.1.At])], [(30, ⟨31, 2, 0, 0, 0, false, 0, [], (v2.2.2.1.map e_Entry)⟩)], [], []⟩ : S)) (v.1, v.2, x2, 0) hF ?_
          intro n1 v2 y1 hF ih1 dn1
          have hF : entry_Put_B1 at0 more v2 = some y1 := hF
          unfold entry_Put_B1 at hF
          refine Wk_seq ?_
          refine WR [] [1, 10, 11, 12, 38, 39, 40, 41] [10, 11] [30] [] [] [] ⟨[(1, .int .i64 at0), (10, .ptr 10 0), (11, .ptr 11 0), (12, .row 30 0), (38, .sl 2 (more.map e_Entry)), (39, .int .i64 (more.length : Int)), (40, .int .i64 v2.2.2.2), (41, .bool (decide (v2.2.2.2 < (more.length : Int))))], [(10, [.int .i64 v2.1.Code, .int .i64 v2.1.At]), (11, [.int .i64 v2.2.1.Code, .int .i64 v2.2.1.At])], [(30, ⟨31, 2, 0, 0, 0, false, 0, [], (v2.2.2.1.map e_Entry)⟩)], [], []⟩ .nil (by kernel_rfl) ?_
          refine Wk_seq ?_
          refine Wk_split rfl (fun hb => ?_) (fun hb => ?_)
          · have hF := ite_t hF hb
            refine Wk_skip ?_
            refine Wk_seq ?_
            obtain ⟨v3, hv, hF⟩ := ob_elim hF
            refine Wk_meet (⟨[(1, .int .i64 at0), (10, .ptr 10 0), (11, .ptr 11 0), (12, .row 30 0), (38, .sl 2 (more.map e_Entry)), (39, .int .i64 (more.length : Int)), (40, .int .i64 v2.2.2.2)], [(10, [.int .i64 v3.1.Code, .int .i64 v3.1.At]), (11, [.int .i64 v3.2.1.Code, .int .i64 v3.2.1.At])], [(30, ⟨31, 2, 0, 0, 0, false, 0, [], (v3.2.2.map e_Entry)⟩)], [], []⟩ : S) ?_ ?_
            · have hF := hv
              refine Wk_block ?_
              refine Wk_seq ?_
              obtain ⟨h6, hF⟩ := asrt_elim hF
              refine WR [.av (e_Entry (lget more v2.2.2.2))] [1, 10, 11, 12, 13, 14, 38, 39, 40] [10, 11, 14] [30] [] [] [] ⟨[(1, .int .i64 at0), (10, .ptr 10 0), (11, .ptr 11 0), (12, .row 30 0), (13, .int .i64 v2.2.2.2), (14, .ptr 14 0), (38, .sl 2 (more.map e_Entry)), (39, .int .i64 (more.length : Int)), (40, .int .i64 v2.2.2.2)], [(10, [.int .i64 v2.1.Code, .int .i64 v2.1.At]), (11, [.int .i64 v2.2.1.Code, .int .i64 v2.2.1.At]), (14, [.int .i64 ((lget more v2.2.2.2).Term), .str ((lget more v2.2.2.2).Text)])], [(30, ⟨31, 2, 0, 0, 0, false, 0, [], (v2.2.2.1.map e_Entry)⟩)], [], []⟩ (.cons (idx_ok e_Entry h6) .nil) (by kernel_rfl) ?_
              refine Wk_seq ?_
              refine WR [] [1, 10, 11, 12, 14, 15, 38, 39, 40] [10, 11, 14] [30] [] [] [] ⟨[(1, .int .i64 at0), (10, .ptr 10 0), (11, .ptr 11 0), (12, .row 30 0), (14, .ptr 14 0), (15, .int .i64 (w64 (at0 + v2.2.2.2))), (38, .sl 2 (more.map e_Entry)), (39, .int .i64 (more.length : Int)), (40, .int .i64 v2.2.2.2)], [(10, [.int .i64 v2.1.Code, .int .i64 v2.1.At]), (11, [.int .i64 v2.2.1.Code, .int .i64 v2.2.1.At]), (14, [.int .i64 ((lget more v2.2.2.2).Term), .str ((lget more v2.2.2.2).Text)])], [(30, ⟨31, 2, 0, 0, 0, false, 0, [], (v2.2.2.1.map e_Entry)⟩)], [], []⟩ .nil (by kernel_rfl) ?_
              refine Wk_seq ?_
              refine Wk_seq ?_
              obtain ⟨h7, hF⟩ := asrt_elim hF
              obtain ⟨h8, hF⟩ := asrt_elim hF
              refine WD [.nat (v2.2.2.1.length : Int), .av (e_Entry (lget v2.2.2.1 (w64 (at0 + v2.2.2.2))))] [1, 10, 11, 12, 14, 15, 38, 39, 40, 61] [10, 11, 14] [30] [] [] [] ⟨[(1, .int .i64 at0), (10, .ptr 10 0), (11, .ptr 11 0), (12, .row 30 0), (14, .ptr 14 0), (15, .int .i64 (w64 (at0 + v2.2.2.2))), (38, .sl 2 (more.map e_Entry)), (39, .int .i64 (more.length : Int)), (40, .int .i64 v2.2.2.2), (61, .bool ((decide ((w64 (at0 + v2.2.2.2)) < (v2.2.2.1.length : Int))) && (decide (((lget v2.2.2.1 (w64 (at0 + v2.2.2.2))).Term) = ((lget more v2.2.2.2).Term)))))], [(10, [.int .i64 v2.1.Code, .int .i64 v2.1.At]), (11, [.int .i64 v2.2.1.Code, .int .i64 v2.2.1.At]), (14, [.int .i64 ((lget more v2.2.2.2).Term), .str ((lget more v2.2.2.2).Text)])], [(30, ⟨31, 2, 0, 0, 0, false, 0, [], (v2.2.2.1.map e_Entry)⟩)], [], []⟩ (.cons (len_ok e_Entry v2.2.2.1) (.cons (fun (ga0 : (decide ((w64 (at0 + v2.2.2.2)) < (v2.2.2.1.length : Int))) = true) => (ixr_ok e_Entry (h7 ga0))) (.cons (fun (ga0 : (decide ((w64 (at0 + v2.2.2.2)) < (v2.2.2.1.length : Int))) = true) => (ldr_ok e_Entry (h8 ga0))) .nil))) (by kernel_rfl) ?_
              refine Wk_split rfl (fun hb => ?_) (fun hb => ?_)
              · have hF := ite_t hF hb
                refine Wk_exit rfl ?_
                exact Wk_met (fs := [1, 10, 11, 12, 38, 39, 40]) (bs := [10, 11]) (rs := [30]) (ms := []) (aa := []) (nv := []) (by first | (rw [← some_elim hF]; kernel_rfl) | kernel_rfl)
              · have hF := ite_f hF hb
                refine Wk_skip ?_
                obtain ⟨h9, hF⟩ := asrt_elim hF
                obtain ⟨h10, hF⟩ := asrt_elim hF
                obtain ⟨h11, hF⟩ := asrt_elim hF
                refine WDL ((v2.2.2.1.take ((min (w64 (at0 + v2.2.2.2)) (v2.2.2.1.length : Int)).toNat) ++ [(⟨(lget more v2.2.2.2).Term, (lget more v2.2.2.2).Text⟩ : Entry)])) (fun v4 : List Entry => ⟨[(1, .int .i64 at0), (10, .ptr 10 0), (11, .ptr 11 0), (12, .row 30 1), (38, .sl 2 (more.map e_Entry)), (39, .int .i64 (more.length : Int)), (40, .int .i64 v2.2.2.2)], [(10, [.int .i64 v2.1.Code, .int .i64 v2.1.At]), (11, [.int .i64 v2.2.1.Code, .int .i64 v2.2.1.At])], [(30, ⟨31, 2, 1, 0, (v2.2.2.1.map e_Entry).length, false, 0, [], (v4.map e_Entry)⟩)], [], []⟩) [.nat (v2.2.2.1.length : Int), .vw ((min (w64 (at0 + v2.2.2.2)) (v2.2.2.1.length : Int)).toNat), .sealed, .xs ((v2.2.2.1.take ((min (w64 (at0 + v2.2.2.2)) (v2.2.2.1.length : Int)).toNat) ++ [(⟨(lget more v2.2.2.2).Term, (lget more v2.2.2.2).Text⟩ : Entry)]).map e_Entry)] [1, 10, 11, 12, 38, 39, 40] [10, 11] [30] [] [] [] (.cons (len_ok e_Entry v2.2.2.1) (.cons (vw01_ok (cm := 0) e_Entry h9) (.cons (tap_ok e_Entry v2.2.2.1 ((min (w64 (at0 + v2.2.2.2)) (v2.2.2.1.length : Int)).toNat) [(⟨(lget more v2.2.2.2).Term, (lget more v2.2.2.2).Text⟩ : Entry)]) (.cons (appl_ok e_Entry h10) (.cons (tk_ok e_Entry h11) .nil))))) (by kernel_rfl) (fun v4 hv => ?_)
                have hF := lt_elim hF hv
                refine Wk_blk ?_
                exact Wk_met (fs := [1, 10, 11, 12, 38, 39, 40]) (bs := [10, 11]) (rs := [30]) (ms := []) (aa := []) (nv := [(30, ⟨0, false, true, false⟩)]) (by first | (rw [← some_elim hF]; kernel_rfl) | kernel_rfl)
            · refine WR [] [1, 10, 11, 12, 38, 39, 40] [10, 11] [30] [] [] [] ⟨[(1, .int .i64 at0), (10, .ptr 10 0), (11, .ptr 11 0), (12, .row 30 0), (38, .sl 2 (more.map e_Entry)), (39, .int .i64 (more.length : Int)), (40, .int .i64 (w64 (v2.2.2.2 + 1)))], [(10, [.int .i64 v3.1.Code, .int .i64 v3.1.At]), (11, [.int .i64 v3.2.1.Code, .int .i64 v3.2.1.At])], [(30, ⟨31, 2, 0, 0, 0, false, 0, [], (v3.2.2.map e_Entry)⟩)], [], []⟩ .nil (by kernel_rfl) ?_
              refine Wk_trim (fs := [1, 10, 11, 12, 38, 39, 40]) (bs := [10, 11]) (rs := [30]) (ms := []) (aa := []) (nv := []) ?_ (ih1 _ (some_elim hF).symm)
              kernel_rfl
          · have hF := ite_f hF hb
            refine Wk_exit rfl ?_
            have hF := inrO_done hF dn1
            exact Wk_metP (v2.1, v2.2.1, v2.2.2.1) [10, 11, 12] [10, 11] [30] [] [] [] hF (by kernel_rfl)
        · intro v1 hF
          have hF : entry_Put_J1 v1 = some r := hF
          unfold entry_Put_J1 at hF
          refine Wk_seq ?_
          refine Wk_seq ?_
          obtain ⟨x4, h4, hF⟩ := ob_elim hF
          refine WR [.callB (.agg [.int .i64 x4.Code, .int .i64 x4.At])] [10, 11, 12] [10, 11] [30] [] [] [] ⟨[(10, .ptr 10 0), (11, .ptr 11 0), (12, .row 30 0)], [(10, [.int .i64 v1.1.Code, .int .i64 v1.1.At]), (11, [.int .i64 x4.Code, .int .i64 x4.At])], [(30, ⟨31, 2, 0, 0, 0, false, 0, [], (v1.2.2.map e_Entry)⟩)], [], []⟩ (.cons (entry_Check_ok v1.2.2 x4 h4) .nil) (by kernel_rfl) ?_
          refine Wk_seq ?_
          refine WR [] [10, 11, 12, 76] [10, 11] [30] [] [] [] ⟨[(10, .ptr 10 0), (11, .ptr 11 0), (12, .row 30 0), (76, .bool (!decide (x4.Code = 0)))], [(10, [.int .i64 v1.1.Code, .int .i64 v1.1.At]), (11, [.int .i64 x4.Code, .int .i64 x4.At])], [(30, ⟨31, 2, 0, 0, 0, false, 0, [], (v1.2.2.map e_Entry)⟩)], [], []⟩ .nil (by kernel_rfl) ?_
          refine Wk_split rfl (fun hb => ?_) (fun hb => ?_)
          · have hF := ite_t hF hb
            refine Wk_seq ?_
            obtain ⟨x5, h5, hF⟩ := lt_split hF
            refine WR [.callB (.agg [.int .i64 x5.Code, .int .i64 x5.At])] [8, 9, 10] [10] [] [] [] [] ⟨[(8, .nils), (9, .bool false), (10, .ptr 10 0)], [(10, [.int .i64 x5.Code, .int .i64 x5.At])], [], [], []⟩ (.cons (entry_fault_ok x4.Code (-1) x5 h5) .nil) (by kernel_rfl) ?_
            have hF := some_elim hF
            refine Wk_nilrow 8 60001 31 2 rfl rfl rfl ?_
            refine Wk_ren' ⟨[], [(60001, 30)], [], []⟩ rfl ?_
            exact Wk_ret (hfin _ ⟨[30], [], [30], [], [], [(30, ⟨0, true, false, false⟩)], by first | (rw [← hF]; kernel_rfl) | kernel_rfl⟩)
          · have hF := ite_f hF hb
            refine Wk_skip ?_
            refine Wk_seq ?_
            refine WD [] [8, 9, 10] [10] [30] [] [] [] ⟨[(8, .row 30 0), (9, .bool true), (10, .ptr 10 0)], [(10, [.int .i64 x4.Code, .int .i64 x4.At])], [(30, ⟨31, 2, 0, 0, 0, false, 0, [], (v1.2.2.map e_Entry)⟩)], [], []⟩ .nil (by kernel_rfl) ?_
            have hF := some_elim hF
            exact Wk_ret (hfin _ ⟨[30], [], [30], [], [], [], by first | (rw [← hF]; kernel_rfl) | kernel_rfl⟩)

/- entry.Put -/
noncomputable def entry_Put_v1_J1 (v1 : Fault × Fault × List Entry) : Option (List Entry × Bool × Fault) :=
  ob (entry_Check v1.2.2) fun x4 =>
  if (!decide (x4.Code = 0)) = true then
    lt (entry_fault x4.Code (-1)) fun x5 =>
    some (([] : List Entry), false, x5)
  else
    some (v1.2.2, true, x4)
noncomputable def entry_Put_v1_B1 (at0 : Int) (more : List Entry) (v2 : Fault × Fault × List Entry × Int) : Option ((Fault × Fault × List Entry × Int) ⊕ (List Entry × Bool × Fault)) :=
  if (decide (v2.2.2.2 < (more.length : Int))) = true then
    ob (
      asrt (0 ≤ v2.2.2.2 ∧ v2.2.2.2 < (more.length : Int)) <|
      asrt ((decide ((w64 (at0 + v2.2.2.2)) < (v2.2.2.1.length : Int))) = true → 0 ≤ w64 (at0 + v2.2.2.2) ∧ w64 (at0 + v2.2.2.2) < (v2.2.2.1.length : Int)) <|
      asrt ((decide ((w64 (at0 + v2.2.2.2)) < (v2.2.2.1.length : Int))) = true → 0 ≤ w64 (at0 + v2.2.2.2) ∧ w64 (at0 + v2.2.2.2) < (v2.2.2.1.length : Int)) <|
      if ((decide ((w64 (at0 + v2.2.2.2)) < (v2.2.2.1.length : Int))) && (decide (((lget v2.2.2.1 (w64 (at0 + v2.2.2.2))).Term) = ((lget more v2.2.2.2).Term)))) = true then
        some (v2.1, v2.2.1, v2.2.2.1)
      else
        asrt (0 ≤ (min (w64 (at0 + v2.2.2.2)) (v2.2.2.1.length : Int)) ∧ (min (w64 (at0 + v2.2.2.2)) (v2.2.2.1.length : Int)) ≤ (v2.2.2.1.length : Int)) <|
        asrt (((v2.2.2.1.take ((min (w64 (at0 + v2.2.2.2)) (v2.2.2.1.length : Int)).toNat) ++ [(⟨(lget more v2.2.2.2).Term, (lget more v2.2.2.2).Text⟩ : Entry)]).length : Int) * 24 ≤ 140737488351232) <|
        asrt (((min (w64 (at0 + v2.2.2.2)) (v2.2.2.1.length : Int)).toNat) ≤ v2.2.2.1.length) <|
        lt ((v2.2.2.1.take ((min (w64 (at0 + v2.2.2.2)) (v2.2.2.1.length : Int)).toNat) ++ [(⟨(lget more v2.2.2.2).Term, (lget more v2.2.2.2).Text⟩ : Entry)])) fun (v4 : List Entry) =>
        some (v2.1, v2.2.1, v4)) fun (v3 : Fault × Fault × List Entry) =>
    some (Sum.inl (v3.1, v3.2.1, v3.2.2, w64 (v2.2.2.2 + 1)))
  else
    inrO (entry_Put_v1_J1 (v2.1, v2.2.1, v2.2.2.1))
noncomputable def entry_Put_v1_L1 (at0 : Int) (more : List Entry) (v0 : Fault × Fault × List Entry × Int) : Option (List Entry × Bool × Fault) :=
  loopO (fun y => entry_Put_v1_B1 at0 more y) v0
noncomputable def entry_Put_v1 (l : List Entry) (at0 : Int) (term : Int) (more : List Entry) : Option (List Entry × Bool × Fault) :=
  ob (entry_two l more) fun x =>
  ob (
    if (decide (x.Code = 0)) = true then
      lt (entry_ranged at0 term) fun x1 =>
      some ((⟨0, 0⟩ : Fault), x1)
    else
      some ((⟨0, 0⟩ : Fault), x)) fun (v : Fault × Fault) =>
  if (!decide (v.2.Code = 0)) = true then
    some (([] : List Entry), false, v.2)
  else
    ob (slices_Clone_api_Entry_api_Entry l) fun x2 =>
    ob (entry_Fits l at0 term) fun x3 =>
    if (!x3) = true then
      some (x2, false, v.2)
    else
      entry_Put_v1_L1 at0 more (v.1, v.2, x2, 0)
theorem entry_Put_v1_ok (l : List Entry) (at0 : Int) (term : Int) (more : List Entry) (r : List Entry × Bool × Fault) (hF : entry_Put_v1 l at0 term more = some r) : Pe Try.prog 15 S.none [.sl 2 (l.map e_Entry), .int .i64 at0, .int .i64 term, .sl 2 (more.map e_Entry)] (.tup [.sl 2 (r.1.map e_Entry), .bool r.2.1, .agg [.int .i64 r.2.2.Code, .int .i64 r.2.2.At]]) S.none := by
  refine Pe_of (N := 82) (res := [.tmp 8, .tmp 9, .cell 10 26]) (ts := [22, 4, 26]) Ty.ok Fn.b15 Try.func15 rfl rfl rfl rfl rfl rfl ?_
  intro Q g hfin
  unfold entry_Put_v1 at hF
  refine Wk_seq ?_
  refine WR [] [0, 1, 2, 3, 10] [10] [] [] [] [] ⟨[(0, .sl 2 (l.map e_Entry)), (1, .int .i64 at0), (2, .int .i64 term), (3, .sl 2 (more.map e_Entry)), (10, .ptr 10 0)], [(10, [.int .i64 0, .int .i64 0])], [], [], []⟩ .nil (by kernel_rfl) ?_
  refine Wk_seq ?_
  obtain ⟨x, h0, hF⟩ := ob_elim hF
  refine WR [.callB (.agg [.int .i64 x.Code, .int .i64 x.At])] [0, 1, 2, 3, 10, 11] [10, 11] [] [] [] [] ⟨[(0, .sl 2 (l.map e_Entry)), (1, .int .i64 at0), (2, .int .i64 term), (3, .sl 2 (more.map e_Entry)), (10, .ptr 10 0), (11, .ptr 11 0)], [(10, [.int .i64 0, .int .i64 0]), (11, [.int .i64 x.Code, .int .i64 x.At])], [], [], []⟩ (.cons (entry_two_ok l more x h0) .nil) (by kernel_rfl) ?_
  refine Wk_seq ?_
  refine Wk_seq ?_
  refine WR [] [0, 1, 2, 3, 10, 11, 21] [10, 11] [] [] [] [] ⟨[(0, .sl 2 (l.map e_Entry)), (1, .int .i64 at0), (2, .int .i64 term), (3, .sl 2 (more.map e_Entry)), (10, .ptr 10 0), (11, .ptr 11 0), (21, .bool (decide (x.Code = 0)))], [(10, [.int .i64 0, .int .i64 0]), (11, [.int .i64 x.Code, .int .i64 x.At])], [], [], []⟩ .nil (by kernel_rfl) ?_
  obtain ⟨v, hv, hF⟩ := ob_elim hF
  refine Wk_meet (⟨[(0, .sl 2 (l.map e_Entry)), (1, .int .i64 at0), (2, .int .i64 term), (3, .sl 2 (more.map e_Entry)), (10, .ptr 10 0), (11, .ptr 11 0)], [(10, [.int .i64 v.1.Code, .int .i64 v.1.At]), (11, [.int .i64 v.2.Code, .int .i64 v.2.At])], [], [], []⟩ : S) ?_ ?_
  · have hF := hv
    refine Wk_split rfl (fun hb => ?_) (fun hb => ?_)
    · have hF := ite_t hF hb
      obtain ⟨x1, h1, hF⟩ := lt_split hF
      refine WR [.callB (.agg [.int .i64 x1.Code, .int .i64 x1.At])] [0, 1, 2, 3, 10, 11] [10, 11] [] [] [] [] ⟨[(0, .sl 2 (l.map e_Entry)), (1, .int .i64 at0), (2, .int .i64 term), (3, .sl 2 (more.map e_Entry)), (10, .ptr 10 0), (11, .ptr 11 0)], [(10, [.int .i64 0, .int .i64 0]), (11, [.int .i64 x1.Code, .int .i64 x1.At])], [], [], []⟩ (.cons (entry_ranged_ok at0 term x1 h1) .nil) (by kernel_rfl) ?_
      exact Wk_met (fs := [0, 1, 2, 3, 10, 11]) (bs := [10, 11]) (rs := []) (ms := []) (aa := []) (nv := []) (by first | (rw [← some_elim hF]; kernel_rfl) | kernel_rfl)
    · have hF := ite_f hF hb
      refine Wk_skip ?_
      exact Wk_met (fs := [0, 1, 2, 3, 10, 11]) (bs := [10, 11]) (rs := []) (ms := []) (aa := []) (nv := []) (by first | (rw [← some_elim hF]; kernel_rfl) | kernel_rfl)
  · refine Wk_seq ?_
    refine Wk_seq ?_
    refine WR [] [0, 1, 2, 3, 10, 11, 27] [10, 11] [] [] [] [] ⟨[(0, .sl 2 (l.map e_Entry)), (1, .int .i64 at0), (2, .int .i64 term), (3, .sl 2 (more.map e_Entry)), (10, .ptr 10 0), (11, .ptr 11 0), (27, .bool (!decide (v.2.Code = 0)))], [(10, [.int .i64 v.1.Code, .int .i64 v.1.At]), (11, [.int .i64 v.2.Code, .int .i64 v.2.At])], [], [], []⟩ .nil (by kernel_rfl) ?_
    refine Wk_split rfl (fun hb => ?_) (fun hb => ?_)
    · have hF := ite_t hF hb
      refine Wk_seq ?_
      refine WD [] [8, 9, 10] [10] [] [] [] [] ⟨[(8, .nils), (9, .bool false), (10, .ptr 10 0)], [(10, [.int .i64 v.2.Code, .int .i64 v.2.At])], [], [], []⟩ .nil (by kernel_rfl) ?_
      have hF := some_elim hF
      exact Wk_ret (hfin _ ⟨[], [], [], [], [], [], by first | (rw [← hF]; kernel_rfl) | kernel_rfl⟩)
    · have hF := ite_f hF hb
      refine Wk_skip ?_
      refine Wk_seq ?_
      obtain ⟨x2, h2, hF⟩ := ob_elim hF
      refine WR [.callE [] [] [] [] (.row 30 0) ⟨[], [], [(30, ⟨31, 2, 0, 0, 0, false, 0, [], (x2.map e_Entry)⟩)], [], []⟩] [0, 1, 2, 3, 10, 11, 12] [10, 11] [30] [] [] [] ⟨[(0, .sl 2 (l.map e_Entry)), (1, .int .i64 at0), (2, .int .i64 term), (3, .sl 2 (more.map e_Entry)), (10, .ptr 10 0), (11, .ptr 11 0), (12, .row 30 0)], [(10, [.int .i64 v.1.Code, .int .i64 v.1.At]), (11, [.int .i64 v.2.Code, .int .i64 v.2.At])], [(30, ⟨31, 2, 0, 0, 0, false, 0, [], (x2.map e_Entry)⟩)], [], []⟩ (.cons (Pe.ren (slices_Clone_api_Entry_api_Entry_ok l x2 h2) ⟨[], [(5, 30)], [], []⟩) .nil) (by kernel_rfl) ?_
      refine Wk_seq ?_
      refine Wk_seq ?_
      obtain ⟨x3, h3, hF⟩ := ob_elim hF
      refine WR [.callB (.bool x3)] [1, 3, 10, 11, 12, 35] [10, 11] [30] [] [] [] ⟨[(1, .int .i64 at0), (3, .sl 2 (more.map e_Entry)), (10, .ptr 10 0), (11, .ptr 11 0), (12, .row 30 0), (35, .bool (!x3))], [(10, [.int .i64 v.1.Code, .int .i64 v.1.At]), (11, [.int .i64 v.2.Code, .int .i64 v.2.At])], [(30, ⟨31, 2, 0, 0, 0, false, 0, [], (x2.map e_Entry)⟩)], [], []⟩ (.cons (entry_Fits_ok l at0 term x3 h3) .nil) (by kernel_rfl) ?_
      refine Wk_split rfl (fun hb => ?_) (fun hb => ?_)
      · have hF := ite_t hF hb
        refine Wk_seq ?_
        refine WD [] [8, 9, 10] [10] [30] [] [] [] ⟨[(8, .row 30 0), (9, .bool false), (10, .ptr 10 0)], [(10, [.int .i64 v.2.Code, .int .i64 v.2.At])], [(30, ⟨31, 2, 0, 0, 0, false, 0, [], (x2.map e_Entry)⟩)], [], []⟩ .nil (by kernel_rfl) ?_
        have hF := some_elim hF
        exact Wk_ret (hfin _ ⟨[], [], [], [], [], [], by first | (rw [← hF]; kernel_rfl) | kernel_rfl⟩)
      · have hF := ite_f hF hb
        refine Wk_skip ?_
        refine Wk_seq ?_
        refine Wk_seq ?_
        refine WR [.nat (more.length : Int)] [1, 10, 11, 12, 38, 39, 40] [10, 11] [30] [] [] [] ⟨[(1, .int .i64 at0), (10, .ptr 10 0), (11, .ptr 11 0), (12, .row 30 0), (38, .sl 2 (more.map e_Entry)), (39, .int .i64 (more.length : Int)), (40, .int .i64 0)], [(10, [.int .i64 v.1.Code, .int .i64 v.1.At]), (11, [.int .i64 v.2.Code, .int .i64 v.2.At])], [(30, ⟨31, 2, 0, 0, 0, false, 0, [], (x2.map e_Entry)⟩)], [], []⟩ (.cons (len_ok e_Entry more) .nil) (by kernel_rfl) ?_
        refine Wk_meetP (fun v1 : Fault × Fault × List Entry => (⟨[(10, .ptr 10 0), (11, .ptr 11 0), (12, .row 30 0)], [(10, [.int .i64 v1.1.Code, .int .i64 v1.1.At]), (11, [.int .i64 v1.2.1.Code, .int .i64 v1.2.1.At])], [(30, ⟨31, 2, 0, 0, 0, false, 0, [], (v1.2.2.map e_Entry)⟩)], [], []⟩ : S)) (fun v1 => entry_Put_v1_J1 v1 = some r) ?_ ?_
        · refine Wk_block ?_
          unfold entry_Put_v1_L1 at hF
          refine Wk_trim (fs := [1, 10, 11, 12, 38, 39, 40]) (bs := [10, 11]) (rs := [30]) (ms := []) (aa := []) (nv := []) (t := (fun v2 : Fault × Fault × List Entry × Int => (⟨[(1, .int .i64 at0), (10, .ptr 10 0), (11, .ptr 11 0), (12, .row 30 0), (38, .sl 2 (more.map e_Entry)), (39, .int .i64 (more.length : Int)), (40, .int .i64 v2.2.2.2)], [(10, [.int .i64 v2.1.Code, .int .i64 v2.1.At]), (11, [.int .i64 v2.2.1.Code, .int .i64 v2.2.1.At])], [(30, ⟨31, 2, 0, 0, 0, false, 0, [], (v2.2.2.1.map e_Entry)⟩)], [], []⟩ : S)) (v.1, v.2, x2, 0)) (by kernel_rfl) ?_
          refine Wk_iter (step := fun y => entry_Put_v1_B1 at0 more y) (r := r) (fun v2 : Fault × Fault × List Entry × Int => (⟨[(1, .int .i64 at0), (10, .ptr 10 0), (11, .ptr 11 0), (12, .row 30 0), (38, .sl 2 (more.map e_Entry)), (39, .int .i64 (more.length : Int)), (40, .int .i64 v2.2.2.2)], [(10, [.int .i64 v2.1.Code, .int .i64 v2.1.At]), (11, [.int .i64 v2.2.1.Code, .int .i64 v2.2.1.At])], [(30, ⟨31, 2, 0, 0, 0, false, 0, [], (v2.2.2.1.map e_Entry)⟩)], [], []⟩ : S)) (v.1, v.2, x2, 0) hF ?_
          intro n1 v2 y1 hF ih1 dn1
          have hF : entry_Put_v1_B1 at0 more v2 = some y1 := hF
          unfold entry_Put_v1_B1 at hF
          refine Wk_seq ?_
          refine WR [] [1, 10, 11, 12, 38, 39, 40, 41] [10, 11] [30] [] [] [] ⟨[(1, .int .i64 at0), (10, .ptr 10 0), (11, .ptr 11 0), (12, .row 30 0), (38, .sl 2 (more.map e_Entry)), (39, .int .i64 (more.length : Int)), (40, .int .i64 v2.2.2.2), (41, .bool (decide (v2.2.2.2 < (more.length : Int))))], [(10, [.int .i64 v2.1.Code, .int .i64 v2.1.At]), (11, [.int .i64 v2.2.1.Code, .int .i64 v2.2.1.At])], [(30, ⟨31, 2, 0, 0, 0, false, 0, [], (v2.2.2.1.map e_Entry)⟩)], [], []⟩ .nil (by kernel_rfl) ?_
          refine Wk_seq ?_
          refine Wk_split rfl (fun hb => ?_) (fun hb => ?_)
          · have hF := ite_t hF hb
            refine Wk_skip ?_
            refine Wk_seq ?_
            obtain ⟨v3, hv, hF⟩ := ob_elim hF
            refine Wk_meet (⟨[(1, .int .i64 at0), (10, .ptr 10 0), (11, .ptr 11 0), (12, .row 30 0), (38, .sl 2 (more.map e_Entry)), (39, .int .i64 (more.length : Int)), (40, .int .i64 v2.2.2.2)], [(10, [.int .i64 v3.1.Code, .int .i64 v3.1.At]), (11, [.int .i64 v3.2.1.Code, .int .i64 v3.2.1.At])], [(30, ⟨31, 2, 0, 0, 0, false, 0, [], (v3.2.2.map e_Entry)⟩)], [], []⟩ : S) ?_ ?_
            · have hF := hv
              refine Wk_block ?_
              refine Wk_seq ?_
              obtain ⟨h6, hF⟩ := asrt_elim hF
              refine WR [.av (e_Entry (lget more v2.2.2.2))] [1, 10, 11, 12, 13, 14, 38, 39, 40] [10, 11, 14] [30] [] [] [] ⟨[(1, .int .i64 at0), (10, .ptr 10 0), (11, .ptr 11 0), (12, .row 30 0), (13, .int .i64 v2.2.2.2), (14, .ptr 14 0), (38, .sl 2 (more.map e_Entry)), (39, .int .i64 (more.length : Int)), (40, .int .i64 v2.2.2.2)], [(10, [.int .i64 v2.1.Code, .int .i64 v2.1.At]), (11, [.int .i64 v2.2.1.Code, .int .i64 v2.2.1.At]), (14, [.int .i64 ((lget more v2.2.2.2).Term), .str ((lget more v2.2.2.2).Text)])], [(30, ⟨31, 2, 0, 0, 0, false, 0, [], (v2.2.2.1.map e_Entry)⟩)], [], []⟩ (.cons (idx_ok e_Entry h6) .nil) (by kernel_rfl) ?_
              refine Wk_seq ?_
              refine WR [] [1, 10, 11, 12, 14, 15, 38, 39, 40] [10, 11, 14] [30] [] [] [] ⟨[(1, .int .i64 at0), (10, .ptr 10 0), (11, .ptr 11 0), (12, .row 30 0), (14, .ptr 14 0), (15, .int .i64 (w64 (at0 + v2.2.2.2))), (38, .sl 2 (more.map e_Entry)), (39, .int .i64 (more.length : Int)), (40, .int .i64 v2.2.2.2)], [(10, [.int .i64 v2.1.Code, .int .i64 v2.1.At]), (11, [.int .i64 v2.2.1.Code, .int .i64 v2.2.1.At]), (14, [.int .i64 ((lget more v2.2.2.2).Term), .str ((lget more v2.2.2.2).Text)])], [(30, ⟨31, 2, 0, 0, 0, false, 0, [], (v2.2.2.1.map e_Entry)⟩)], [], []⟩ .nil (by kernel_rfl) ?_
              refine Wk_seq ?_
              refine Wk_seq ?_
              obtain ⟨h7, hF⟩ := asrt_elim hF
              obtain ⟨h8, hF⟩ := asrt_elim hF
              refine WD [.nat (v2.2.2.1.length : Int), .av (e_Entry (lget v2.2.2.1 (w64 (at0 + v2.2.2.2))))] [1, 10, 11, 12, 14, 15, 38, 39, 40, 61] [10, 11, 14] [30] [] [] [] ⟨[(1, .int .i64 at0), (10, .ptr 10 0), (11, .ptr 11 0), (12, .row 30 0), (14, .ptr 14 0), (15, .int .i64 (w64 (at0 + v2.2.2.2))), (38, .sl 2 (more.map e_Entry)), (39, .int .i64 (more.length : Int)), (40, .int .i64 v2.2.2.2), (61, .bool ((decide ((w64 (at0 + v2.2.2.2)) < (v2.2.2.1.length : Int))) && (decide (((lget v2.2.2.1 (w64 (at0 + v2.2.2.2))).Term) = ((lget more v2.2.2.2).Term)))))], [(10, [.int .i64 v2.1.Code, .int .i64 v2.1.At]), (11, [.int .i64 v2.2.1.Code, .int .i64 v2.2.1.At]), (14, [.int .i64 ((lget more v2.2.2.2).Term), .str ((lget more v2.2.2.2).Text)])], [(30, ⟨31, 2, 0, 0, 0, false, 0, [], (v2.2.2.1.map e_Entry)⟩)], [], []⟩ (.cons (len_ok e_Entry v2.2.2.1) (.cons (fun (ga0 : (decide ((w64 (at0 + v2.2.2.2)) < (v2.2.2.1.length : Int))) = true) => (ixr_ok e_Entry (h7 ga0))) (.cons (fun (ga0 : (decide ((w64 (at0 + v2.2.2.2)) < (v2.2.2.1.length : Int))) = true) => (ldr_ok e_Entry (h8 ga0))) .nil))) (by kernel_rfl) ?_
              refine Wk_split rfl (fun hb => ?_) (fun hb => ?_)
              · have hF := ite_t hF hb
                refine Wk_exit rfl ?_
                exact Wk_met (fs := [1, 10, 11, 12, 38, 39, 40]) (bs := [10, 11]) (rs := [30]) (ms := []) (aa := []) (nv := []) (by first | (rw [← some_elim hF]; kernel_rfl) | kernel_rfl)
              · have hF := ite_f hF hb
                refine Wk_skip ?_
                obtain ⟨h9, hF⟩ := asrt_elim hF
                obtain ⟨h10, hF⟩ := asrt_elim hF
                obtain ⟨h11, hF⟩ := asrt_elim hF
                refine WDL ((v2.2.2.1.take ((min (w64 (at0 + v2.2.2.2)) (v2.2.2.1.length : Int)).toNat) ++ [(⟨(lget more v2.2.2.2).Term, (lget more v2.2.2.2).Text⟩ : Entry)])) (fun v4 : List Entry => ⟨[(1, .int .i64 at0), (10, .ptr 10 0), (11, .ptr 11 0), (12, .row 30 1), (38, .sl 2 (more.map e_Entry)), (39, .int .i64 (more.length : Int)), (40, .int .i64 v2.2.2.2)], [(10, [.int .i64 v2.1.Code, .int .i64 v2.1.At]), (11, [.int .i64 v2.2.1.Code, .int .i64 v2.2.1.At])], [(30, ⟨31, 2, 1, 0, (v2.2.2.1.map e_Entry).length, false, 0, [], (v4.map e_Entry)⟩)], [], []⟩) [.nat (v2.2.2.1.length : Int), .vw ((min (w64 (at0 + v2.2.2.2)) (v2.2.2.1.length : Int)).toNat), .sealed, .xs ((v2.2.2.1.take ((min (w64 (at0 + v2.2.2.2)) (v2.2.2.1.length : Int)).toNat) ++ [(⟨(lget more v2.2.2.2).Term, (lget more v2.2.2.2).Text⟩ : Entry)]).map e_Entry)] [1, 10, 11, 12, 38, 39, 40] [10, 11] [30] [] [] [] (.cons (len_ok e_Entry v2.2.2.1) (.cons (vw01_ok (cm := 0) e_Entry h9) (.cons (tap_ok e_Entry v2.2.2.1 ((min (w64 (at0 + v2.2.2.2)) (v2.2.2.1.length : Int)).toNat) [(⟨(lget more v2.2.2.2).Term, (lget more v2.2.2.2).Text⟩ : Entry)]) (.cons (appl_ok e_Entry h10) (.cons (tk_ok e_Entry h11) .nil))))) (by kernel_rfl) (fun v4 hv => ?_)
                have hF := lt_elim hF hv
                refine Wk_blk ?_
                exact Wk_met (fs := [1, 10, 11, 12, 38, 39, 40]) (bs := [10, 11]) (rs := [30]) (ms := []) (aa := []) (nv := [(30, ⟨0, false, true, false⟩)]) (by first | (rw [← some_elim hF]; kernel_rfl) | kernel_rfl)
            · refine WR [] [1, 10, 11, 12, 38, 39, 40] [10, 11] [30] [] [] [] ⟨[(1, .int .i64 at0), (10, .ptr 10 0), (11, .ptr 11 0), (12, .row 30 0), (38, .sl 2 (more.map e_Entry)), (39, .int .i64 (more.length : Int)), (40, .int .i64 (w64 (v2.2.2.2 + 1)))], [(10, [.int .i64 v3.1.Code, .int .i64 v3.1.At]), (11, [.int .i64 v3.2.1.Code, .int .i64 v3.2.1.At])], [(30, ⟨31, 2, 0, 0, 0, false, 0, [], (v3.2.2.map e_Entry)⟩)], [], []⟩ .nil (by kernel_rfl) ?_
              refine Wk_trim (fs := [1, 10, 11, 12, 38, 39, 40]) (bs := [10, 11]) (rs := [30]) (ms := []) (aa := []) (nv := []) ?_ (ih1 _ (some_elim hF).symm)
              kernel_rfl
          · have hF := ite_f hF hb
            refine Wk_exit rfl ?_
            have hF := inrO_done hF dn1
            exact Wk_metP (v2.1, v2.2.1, v2.2.2.1) [10, 11, 12] [10, 11] [30] [] [] [] hF (by kernel_rfl)
        · intro v1 hF
          have hF : entry_Put_v1_J1 v1 = some r := hF
          unfold entry_Put_v1_J1 at hF
          refine Wk_seq ?_
          refine Wk_seq ?_
          obtain ⟨x4, h4, hF⟩ := ob_elim hF
          refine WR [.callB (.agg [.int .i64 x4.Code, .int .i64 x4.At])] [10, 11, 12] [10, 11] [30] [] [] [] ⟨[(10, .ptr 10 0), (11, .ptr 11 0), (12, .row 30 0)], [(10, [.int .i64 v1.1.Code, .int .i64 v1.1.At]), (11, [.int .i64 x4.Code, .int .i64 x4.At])], [(30, ⟨31, 2, 0, 0, 0, false, 0, [], (v1.2.2.map e_Entry)⟩)], [], []⟩ (.cons (entry_Check_ok v1.2.2 x4 h4) .nil) (by kernel_rfl) ?_
          refine Wk_seq ?_
          refine WR [] [10, 11, 12, 76] [10, 11] [30] [] [] [] ⟨[(10, .ptr 10 0), (11, .ptr 11 0), (12, .row 30 0), (76, .bool (!decide (x4.Code = 0)))], [(10, [.int .i64 v1.1.Code, .int .i64 v1.1.At]), (11, [.int .i64 x4.Code, .int .i64 x4.At])], [(30, ⟨31, 2, 0, 0, 0, false, 0, [], (v1.2.2.map e_Entry)⟩)], [], []⟩ .nil (by kernel_rfl) ?_
          refine Wk_split rfl (fun hb => ?_) (fun hb => ?_)
          · have hF := ite_t hF hb
            refine Wk_seq ?_
            obtain ⟨x5, h5, hF⟩ := lt_split hF
            refine WR [.callB (.agg [.int .i64 x5.Code, .int .i64 x5.At])] [8, 9, 10] [10] [] [] [] [] ⟨[(8, .nils), (9, .bool false), (10, .ptr 10 0)], [(10, [.int .i64 x5.Code, .int .i64 x5.At])], [], [], []⟩ (.cons (entry_fault_ok x4.Code (-1) x5 h5) .nil) (by kernel_rfl) ?_
            have hF := some_elim hF
            exact Wk_ret (hfin _ ⟨[], [], [], [], [], [], by first | (rw [← hF]; kernel_rfl) | kernel_rfl⟩)
          · have hF := ite_f hF hb
            refine Wk_skip ?_
            refine Wk_seq ?_
            refine WD [] [8, 9, 10] [10] [30] [] [] [] ⟨[(8, .row 30 0), (9, .bool true), (10, .ptr 10 0)], [(10, [.int .i64 x4.Code, .int .i64 x4.At])], [(30, ⟨31, 2, 0, 0, 0, false, 0, [], (v1.2.2.map e_Entry)⟩)], [], []⟩ .nil (by kernel_rfl) ?_
            have hF := some_elim hF
            exact Wk_ret (hfin _ ⟨[], [], [], [], [], [], by first | (rw [← hF]; kernel_rfl) | kernel_rfl⟩)

/- tabularyref.SameLog -/
noncomputable def R_SameLog_J1 (v : Unit) : Option Bool :=
  some true
noncomputable def R_SameLog_B1 (a0 : List Entry) (b : List Entry) (v1 : Int) : Option (Int ⊕ Bool) :=
  if (decide (v1 < (a0.length : Int))) = true then
    asrt (0 ≤ v1 ∧ v1 < (a0.length : Int)) <|
    asrt (0 ≤ v1 ∧ v1 < (b.length : Int)) <|
    if (!(decide ((lget a0 v1).Term = (lget b v1).Term) && (decide ((lget a0 v1).Text = (lget b v1).Text) && true))) = true then
      some (Sum.inr false)
    else
      some (Sum.inl (w64 (v1 + 1)))
  else
    inrO (R_SameLog_J1 ())
noncomputable def R_SameLog_L1 (a0 : List Entry) (b : List Entry) (v0 : Int) : Option Bool :=
  loopO (fun y => R_SameLog_B1 a0 b y) v0
noncomputable def R_SameLog (a0 : List Entry) (b : List Entry) : Option Bool :=
  if (!decide ((a0.length : Int) = (b.length : Int))) = true then
    some false
  else
    R_SameLog_L1 a0 b 0
theorem R_SameLog_ok (a0 : List Entry) (b : List Entry) (r : Bool) (hF : R_SameLog a0 b = some r) : Pe Try.prog 16 S.none [.sl 2 (a0.map e_Entry), .sl 2 (b.map e_Entry)] (.bool r) S.none := by
  refine Pe_of (N := 26) (res := [.tmp 4]) (ts := [4]) Ty.ok Fn.b16 Try.func16 rfl rfl rfl rfl rfl rfl ?_
  intro Q g hfin
  unfold R_SameLog at hF
  refine Wk_seq ?_
  refine WR [] [0, 1] [] [] [] [] [] ⟨[(0, .sl 2 (a0.map e_Entry)), (1, .sl 2 (b.map e_Entry))], [], [], [], []⟩ .nil (by kernel_rfl) ?_
  refine Wk_seq ?_
  refine Wk_seq ?_
  refine WR [.nat (a0.length : Int), .nat (b.length : Int)] [0, 1, 10] [] [] [] [] [] ⟨[(0, .sl 2 (a0.map e_Entry)), (1, .sl 2 (b.map e_Entry)), (10, .bool (!decide ((a0.length : Int) = (b.length : Int))))], [], [], [], []⟩ (.cons (len_ok e_Entry a0) (.cons (len_ok e_Entry b) .nil)) (by kernel_rfl) ?_
  refine Wk_split rfl (fun hb => ?_) (fun hb => ?_)
  · have hF := ite_t hF hb
    refine Wk_seq ?_
    refine WR [] [4] [] [] [] [] [] ⟨[(4, .bool false)], [], [], [], []⟩ .nil (by kernel_rfl) ?_
    have hF := some_elim hF
    exact Wk_ret (hfin _ ⟨[], [], [], [], [], [], by first | (rw [← hF]; kernel_rfl) | kernel_rfl⟩)
  · have hF := ite_f hF hb
    refine Wk_skip ?_
    refine Wk_seq ?_
    refine Wk_seq ?_
    refine WR [] [0, 1, 5] [] [] [] [] [] ⟨[(0, .sl 2 (a0.map e_Entry)), (1, .sl 2 (b.map e_Entry)), (5, .int .i64 0)], [], [], [], []⟩ .nil (by kernel_rfl) ?_
    refine Wk_meetP (fun v : Unit => (⟨[], [], [], [], []⟩ : S)) (fun v => R_SameLog_J1 v = some r) ?_ ?_
    · refine Wk_block ?_
      unfold R_SameLog_L1 at hF
      refine Wk_trim (fs := [0, 1, 5]) (bs := []) (rs := []) (ms := []) (aa := []) (nv := []) (t := (fun v1 : Int => (⟨[(0, .sl 2 (a0.map e_Entry)), (1, .sl 2 (b.map e_Entry)), (5, .int .i64 v1)], [], [], [], []⟩ : S)) 0) (by kernel_rfl) ?_
      refine Wk_iter (step := fun y => R_SameLog_B1 a0 b y) (r := r) (fun v1 : Int => (⟨[(0, .sl 2 (a0.map e_Entry)), (1, .sl 2 (b.map e_Entry)), (5, .int .i64 v1)], [], [], [], []⟩ : S)) 0 hF ?_
      intro n1 v1 y1 hF ih1 dn1
      have hF : R_SameLog_B1 a0 b v1 = some y1 := hF
      unfold R_SameLog_B1 at hF
      refine Wk_seq ?_
      refine Wk_seq ?_
      refine WR [.nat (a0.length : Int)] [0, 1, 5, 14] [] [] [] [] [] ⟨[(0, .sl 2 (a0.map e_Entry)), (1, .sl 2 (b.map e_Entry)), (5, .int .i64 v1), (14, .bool (decide (v1 < (a0.length : Int))))], [], [], [], []⟩ (.cons (len_ok e_Entry a0) .nil) (by kernel_rfl) ?_
      refine Wk_split rfl (fun hb => ?_) (fun hb => ?_)
      · have hF := ite_t hF hb
        refine Wk_skip ?_
        refine Wk_seq ?_
        refine Wk_block ?_
        refine Wk_seq ?_
        obtain ⟨h0, hF⟩ := asrt_elim hF
        obtain ⟨h1, hF⟩ := asrt_elim hF
        refine WD [.av (e_Entry (lget a0 v1)), .av (e_Entry (lget b v1))] [0, 1, 5, 25] [] [] [] [] [] ⟨[(0, .sl 2 (a0.map e_Entry)), (1, .sl 2 (b.map e_Entry)), (5, .int .i64 v1), (25, .bool (!(decide ((lget a0 v1).Term = (lget b v1).Term) && (decide ((lget a0 v1).Text = (lget b v1).Text) && true))))], [], [], [], []⟩ (.cons (idx_ok e_Entry h0) (.cons (idx_ok e_Entry h1) .nil)) (by kernel_rfl) ?_
        refine Wk_split rfl (fun hb => ?_) (fun hb => ?_)
        · have hF := ite_t hF hb
          refine Wk_seq ?_
          refine WR [] [4] [] [] [] [] [] ⟨[(4, .bool false)], [], [], [], []⟩ .nil (by kernel_rfl) ?_
          have hF := ret_done hF dn1
          have hF := some_elim hF
          exact Wk_ret (hfin _ ⟨[], [], [], [], [], [], by first | (rw [← hF]; kernel_rfl) | kernel_rfl⟩)
        · have hF := ite_f hF hb
          refine Wk_skip ?_
          refine Wk_blk ?_
          refine WR [] [0, 1, 5] [] [] [] [] [] ⟨[(0, .sl 2 (a0.map e_Entry)), (1, .sl 2 (b.map e_Entry)), (5, .int .i64 (w64 (v1 + 1)))], [], [], [], []⟩ .nil (by kernel_rfl) ?_
          refine Wk_trim (fs := [0, 1, 5]) (bs := []) (rs := []) (ms := []) (aa := []) (nv := []) ?_ (ih1 _ (some_elim hF).symm)
          kernel_rfl
      · have hF := ite_f hF hb
        refine Wk_exit rfl ?_
        have hF := inrO_done hF dn1
        exact Wk_metP () [] [] [] [] [] [] hF (by kernel_rfl)
    · intro v hF
      have hF : R_SameLog_J1 v = some r := hF
      unfold R_SameLog_J1 at hF
      refine Wk_seq ?_
      refine WR [] [4] [] [] [] [] [] ⟨[(4, .bool true)], [], [], [], []⟩ .nil (by kernel_rfl) ?_
      have hF := some_elim hF
      exact Wk_ret (hfin _ ⟨[], [], [], [], [], [], by first | (rw [← hF]; kernel_rfl) | kernel_rfl⟩)

/- tabularylaw.entryBegun -/
noncomputable def law_entryBegun  : Option Bool :=
  ob (entry_Put_v1 [(⟨1, ([97] : List UInt8)⟩ : Entry), (⟨1, ([98] : List UInt8)⟩ : Entry)] 1 1 [(⟨2, ([99] : List UInt8)⟩ : Entry)]) fun x =>
  ob (if ((decide (x.2.2.Code = 0)) && x.2.1) = true then (R_SameLog x.1 [(⟨1, ([97] : List UInt8)⟩ : Entry), (⟨2, ([99] : List UInt8)⟩ : Entry)]) else some default) fun x1 =>
  some (((decide (x.2.2.Code = 0)) && x.2.1) && x1)
theorem law_entryBegun_ok  (r : Bool) (hF : law_entryBegun  = some r) : Pe Try.prog 13 S.none [] (.bool r) S.none := by
  refine Pe_of (N := 27) (res := [.tmp 0]) (ts := [4]) Ty.ok Fn.b13 Try.func13 rfl rfl rfl rfl rfl rfl ?_
  intro Q g hfin
  unfold law_entryBegun at hF
  refine Wk_seq ?_
  refine WR [] [] [] [] [] [] [] ⟨[], [], [], [], []⟩ .nil (by kernel_rfl) ?_
  refine Wk_seq ?_
  obtain ⟨x, h0, hF⟩ := ob_elim hF
  refine WR [.sealed, .sealed, .call (.tup [.sl 2 (x.1.map e_Entry), .bool x.2.1, .agg [.int .i64 x.2.2.Code, .int .i64 x.2.2.At]])] [1, 2, 3] [3] [] [] [] [] ⟨[(1, .sl 2 (x.1.map e_Entry)), (2, .bool x.2.1), (3, .ptr 3 0)], [(3, [.int .i64 x.2.2.Code, .int .i64 x.2.2.At])], [], [], []⟩ (.cons (entry_Put_v1_ok [(⟨1, ([97] : List UInt8)⟩ : Entry), (⟨1, ([98] : List UInt8)⟩ : Entry)] 1 1 [(⟨2, ([99] : List UInt8)⟩ : Entry)] x h0) .nil) (by kernel_rfl) ?_
  refine Wk_seq ?_
  obtain ⟨x1, h1, hF⟩ := ob_elim hF
  refine WR [.sealed, .callB (.bool x1)] [0] [] [] [] [] [] ⟨[(0, .bool (((decide (x.2.2.Code = 0)) && x.2.1) && x1))], [], [], [], []⟩ (.cons (fun (ga0 : ((decide (x.2.2.Code = 0)) && x.2.1) = true) => (R_SameLog_ok x.1 [(⟨1, ([97] : List UInt8)⟩ : Entry), (⟨2, ([99] : List UInt8)⟩ : Entry)] x1 (ite_t h1 ga0))) .nil) (by kernel_rfl) ?_
  have hF := some_elim hF
  exact Wk_ret (hfin _ ⟨[], [], [], [], [], [], by first | (rw [← hF]; kernel_rfl) | kernel_rfl⟩)

/- tabularylaw.vastLog -/
noncomputable def law_vastLog (l : List Entry) : Bool :=
  decide (300 < (l.length : Int))
theorem law_vastLog_ok (l : List Entry) (r : Bool) (hF : law_vastLog l = r) : Pe Try.prog 14 S.none [.sl 2 (l.map e_Entry)] (.bool r) S.none := by
  refine Pe_of (N := 6) (res := [.tmp 2]) (ts := [4]) Ty.ok Fn.b14 Try.func14 rfl rfl rfl rfl rfl rfl ?_
  intro Q g hfin
  unfold law_vastLog at hF
  refine Wk_seq ?_
  refine WR [] [0] [] [] [] [] [] ⟨[(0, .sl 2 (l.map e_Entry))], [], [], [], []⟩ .nil (by kernel_rfl) ?_
  refine Wk_seq ?_
  refine WR [.nat (l.length : Int)] [2] [] [] [] [] [] ⟨[(2, .bool (decide (300 < (l.length : Int))))], [], [], [], []⟩ (.cons (len_ok e_Entry l) .nil) (by kernel_rfl) ?_
  exact Wk_ret (hfin _ ⟨[], [], [], [], [], [], by first | (rw [← hF]; kernel_rfl) | kernel_rfl⟩)

/- tabularylaw.EntryStays -/
noncomputable def law_EntryStays_J1 (a0 : List Entry) (b : List Entry) (at0 : Int) (term : Int) (x3 : List Entry × Bool × Fault) (v : Fault × Bool) : Option Bool :=
  ob (if v.2 = true then (R_SameLog x3.1 a0) else some default) fun x6 =>
  if ((v.2 && (!x6)) || ((!v.2) && (!decide ((x3.1.length : Int) = (w64 (at0 + (b.length : Int))))))) = true then
    some false
  else
    ob (entry_Put_v1 x3.1 at0 term b) fun x7 =>
    ob (if ((decide (x7.2.2.Code = 0)) && x7.2.1) = true then (R_SameLog x7.1 x3.1) else some default) fun x8 =>
    ob (if (((decide (x7.2.2.Code = 0)) && x7.2.1) && x8) = true then (entry_Check x3.1) else some default) fun x9 =>
    lt ((((decide (x7.2.2.Code = 0)) && x7.2.1) && x8) && (decide (x9.Code = 0))) fun (v1 : Bool) =>
    some v1
noncomputable def law_EntryStays_B1 (a0 : List Entry) (b : List Entry) (at0 : Int) (term : Int) (x3 : List Entry × Bool × Fault) (v2 : Fault × Bool × Int) : Option ((Fault × Bool × Int) ⊕ Bool) :=
  if (decide (v2.2.2 < (b.length : Int))) = true then
    asrt (0 ≤ w64 (at0 + v2.2.2) ∧ w64 (at0 + v2.2.2) < (x3.1.length : Int)) <|
    asrt (0 ≤ v2.2.2 ∧ v2.2.2 < (b.length : Int)) <|
    if (!decide (((lget x3.1 (w64 (at0 + v2.2.2))).Term) = ((lget b v2.2.2).Term))) = true then
      some (Sum.inr false)
    else
      asrt (v2.2.1 = true → 0 ≤ w64 (at0 + v2.2.2) ∧ w64 (at0 + v2.2.2) < (a0.length : Int)) <|
      asrt (v2.2.1 = true → 0 ≤ v2.2.2 ∧ v2.2.2 < (b.length : Int)) <|
      lt (v2.2.1 && (decide (((lget a0 (w64 (at0 + v2.2.2))).Term) = ((lget b v2.2.2).Term)))) fun (v3 : Bool) =>
      some (Sum.inl (v2.1, v3, w64 (v2.2.2 + 1)))
  else
    inrO (law_EntryStays_J1 a0 b at0 term x3 (v2.1, v2.2.1))
noncomputable def law_EntryStays_L1 (a0 : List Entry) (b : List Entry) (at0 : Int) (term : Int) (x3 : List Entry × Bool × Fault) (v0 : Fault × Bool × Int) : Option Bool :=
  loopO (fun y => law_EntryStays_B1 a0 b at0 term x3 y) v0
noncomputable def law_EntryStays (a0 : List Entry) (b : List Entry) (at0 : Int) (term : Int) : Option Bool :=
  ob (law_entryBegun) fun x =>
  if (!x) = true then
    some false
  else
    lt (law_vastLog a0) fun x1 =>
    lt (law_vastLog b) fun x2 =>
    if (x1 || x2) = true then
      some true
    else
      ob (entry_Put_v1 a0 at0 term b) fun x3 =>
      if (!decide (x3.2.2.Code = 0)) = true then
        some ((!x3.2.1) && (decide ((x3.1.length : Int) = 0)))
      else
        if (!x3.2.1) = true then
          ob (R_SameLog x3.1 a0) fun x4 =>
          some x4
        else
          asrt ((!(((decide (at0 < 0)) || (decide ((a0.length : Int) < at0))) || (decide ((x3.1.length : Int) < (w64 (at0 + (b.length : Int))))))) = true → 0 ≤ at0 ∧ at0 ≤ (x3.1.length : Int)) <|
          asrt ((!(((decide (at0 < 0)) || (decide ((a0.length : Int) < at0))) || (decide ((x3.1.length : Int) < (w64 (at0 + (b.length : Int))))))) = true → 0 ≤ at0 ∧ at0 ≤ (a0.length : Int)) <|
          ob (if (!(((decide (at0 < 0)) || (decide ((a0.length : Int) < at0))) || (decide ((x3.1.length : Int) < (w64 (at0 + (b.length : Int))))))) = true then (R_SameLog (ltake x3.1 at0) (ltake a0 at0)) else some default) fun x5 =>
          if ((((decide (at0 < 0)) || (decide ((a0.length : Int) < at0))) || (decide ((x3.1.length : Int) < (w64 (at0 + (b.length : Int)))))) || (!x5)) = true then
            some false
          else
            law_EntryStays_L1 a0 b at0 term x3 (x3.2.2, decide ((w64 (at0 + (b.length : Int))) ≤ (a0.length : Int)), 0)
theorem law_EntryStays_ok (a0 : List Entry) (b : List Entry) (at0 : Int) (term : Int) (r : Bool) (hF : law_EntryStays a0 b at0 term = some r) : Pe Try.prog 3 S.none [.sl 2 (a0.map e_Entry), .sl 2 (b.map e_Entry), .int .i64 at0, .int .i64 term] (.bool r) S.none := by
  refine Pe_of (N := 162) (res := [.tmp 8]) (ts := [4]) Ty.ok Fn.b3 Try.func3 rfl rfl rfl rfl rfl rfl ?_
  intro Q g hfin
  unfold law_EntryStays at hF
  refine Wk_seq ?_
  refine WR [] [0, 1, 2, 3] [] [] [] [] [] ⟨[(0, .sl 2 (a0.map e_Entry)), (1, .sl 2 (b.map e_Entry)), (2, .int .i64 at0), (3, .int .i64 term)], [], [], [], []⟩ .nil (by kernel_rfl) ?_
  refine Wk_seq ?_
  refine Wk_seq ?_
  obtain ⟨x, h0, hF⟩ := ob_elim hF
  refine WR [.callB (.bool x)] [0, 1, 2, 3, 16] [] [] [] [] [] ⟨[(0, .sl 2 (a0.map e_Entry)), (1, .sl 2 (b.map e_Entry)), (2, .int .i64 at0), (3, .int .i64 term), (16, .bool (!x))], [], [], [], []⟩ (.cons (law_entryBegun_ok  x h0) .nil) (by kernel_rfl) ?_
  refine Wk_split rfl (fun hb => ?_) (fun hb => ?_)
  · have hF := ite_t hF hb
    refine Wk_seq ?_
    refine WR [] [8] [] [] [] [] [] ⟨[(8, .bool false)], [], [], [], []⟩ .nil (by kernel_rfl) ?_
    have hF := some_elim hF
    exact Wk_ret (hfin _ ⟨[], [], [], [], [], [], by first | (rw [← hF]; kernel_rfl) | kernel_rfl⟩)
  · have hF := ite_f hF hb
    refine Wk_skip ?_
    refine Wk_seq ?_
    refine Wk_seq ?_
    obtain ⟨x1, h1, hF⟩ := lt_split hF
    obtain ⟨x2, h2, hF⟩ := lt_split hF
    refine WR [.callB (.bool x1), .callB (.bool x2)] [0, 1, 2, 3, 22] [] [] [] [] [] ⟨[(0, .sl 2 (a0.map e_Entry)), (1, .sl 2 (b.map e_Entry)), (2, .int .i64 at0), (3, .int .i64 term), (22, .bool (x1 || x2))], [], [], [], []⟩ (.cons (law_vastLog_ok a0 x1 h1) (.cons (fun (ga0 : (!x1) = true) => (law_vastLog_ok b x2 h2)) .nil)) (by kernel_rfl) ?_
    refine Wk_split rfl (fun hb => ?_) (fun hb => ?_)
    · have hF := ite_t hF hb
      refine Wk_seq ?_
      refine WR [] [8] [] [] [] [] [] ⟨[(8, .bool true)], [], [], [], []⟩ .nil (by kernel_rfl) ?_
      have hF := some_elim hF
      exact Wk_ret (hfin _ ⟨[], [], [], [], [], [], by first | (rw [← hF]; kernel_rfl) | kernel_rfl⟩)
    · have hF := ite_f hF hb
      refine Wk_skip ?_
      refine Wk_seq ?_
      obtain ⟨x3, h3, hF⟩ := ob_elim hF
      refine WR [.call (.tup [.sl 2 (x3.1.map e_Entry), .bool x3.2.1, .agg [.int .i64 x3.2.2.Code, .int .i64 x3.2.2.At]])] [0, 1, 2, 3, 9, 10, 11] [11] [] [] [] [] ⟨[(0, .sl 2 (a0.map e_Entry)), (1, .sl 2 (b.map e_Entry)), (2, .int .i64 at0), (3, .int .i64 term), (9, .sl 2 (x3.1.map e_Entry)), (10, .bool x3.2.1), (11, .ptr 11 0)], [(11, [.int .i64 x3.2.2.Code, .int .i64 x3.2.2.At])], [], [], []⟩ (.cons (entry_Put_v1_ok a0 at0 term b x3 h3) .nil) (by kernel_rfl) ?_
      refine Wk_seq ?_
      refine Wk_seq ?_
      refine WR [] [0, 1, 2, 3, 9, 10, 11, 34] [11] [] [] [] [] ⟨[(0, .sl 2 (a0.map e_Entry)), (1, .sl 2 (b.map e_Entry)), (2, .int .i64 at0), (3, .int .i64 term), (9, .sl 2 (x3.1.map e_Entry)), (10, .bool x3.2.1), (11, .ptr 11 0), (34, .bool (!decide (x3.2.2.Code = 0)))], [(11, [.int .i64 x3.2.2.Code, .int .i64 x3.2.2.At])], [], [], []⟩ .nil (by kernel_rfl) ?_
      refine Wk_split rfl (fun hb => ?_) (fun hb => ?_)
      · have hF := ite_t hF hb
        refine Wk_seq ?_
        refine WR [.nat (x3.1.length : Int)] [8] [] [] [] [] [] ⟨[(8, .bool ((!x3.2.1) && (decide ((x3.1.length : Int) = 0))))], [], [], [], []⟩ (.cons (fun (_ : (!x3.2.1) = true) => (len_ok e_Entry x3.1)) .nil) (by kernel_rfl) ?_
        have hF := some_elim hF
        exact Wk_ret (hfin _ ⟨[], [], [], [], [], [], by first | (rw [← hF]; kernel_rfl) | kernel_rfl⟩)
      · have hF := ite_f hF hb
        refine Wk_skip ?_
        refine Wk_seq ?_
        refine Wk_seq ?_
        refine WR [] [0, 1, 2, 3, 9, 11, 43] [11] [] [] [] [] ⟨[(0, .sl 2 (a0.map e_Entry)), (1, .sl 2 (b.map e_Entry)), (2, .int .i64 at0), (3, .int .i64 term), (9, .sl 2 (x3.1.map e_Entry)), (11, .ptr 11 0), (43, .bool (!x3.2.1))], [(11, [.int .i64 x3.2.2.Code, .int .i64 x3.2.2.At])], [], [], []⟩ .nil (by kernel_rfl) ?_
        refine Wk_split rfl (fun hb => ?_) (fun hb => ?_)
        · have hF := ite_t hF hb
          refine Wk_seq ?_
          obtain ⟨x4, h4, hF⟩ := ob_elim hF
          refine WR [.callB (.bool x4)] [8] [] [] [] [] [] ⟨[(8, .bool x4)], [], [], [], []⟩ (.cons (R_SameLog_ok x3.1 a0 x4 h4) .nil) (by kernel_rfl) ?_
          have hF := some_elim hF
          exact Wk_ret (hfin _ ⟨[], [], [], [], [], [], by first | (rw [← hF]; kernel_rfl) | kernel_rfl⟩)
        · have hF := ite_f hF hb
          refine Wk_skip ?_
          refine Wk_seq ?_
          refine Wk_seq ?_
          obtain ⟨h5, hF⟩ := asrt_elim hF
          obtain ⟨h6, hF⟩ := asrt_elim hF
          obtain ⟨x5, h7, hF⟩ := ob_elim hF
          refine WD [.nat (a0.length : Int), .nat (x3.1.length : Int), .nat (b.length : Int), .xs ((ltake x3.1 at0).map e_Entry), .xs ((ltake a0 at0).map e_Entry), .callB (.bool x5)] [0, 1, 2, 3, 9, 11, 73] [11] [] [] [] [] ⟨[(0, .sl 2 (a0.map e_Entry)), (1, .sl 2 (b.map e_Entry)), (2, .int .i64 at0), (3, .int .i64 term), (9, .sl 2 (x3.1.map e_Entry)), (11, .ptr 11 0), (73, .bool ((((decide (at0 < 0)) || (decide ((a0.length : Int) < at0))) || (decide ((x3.1.length : Int) < (w64 (at0 + (b.length : Int)))))) || (!x5)))], [(11, [.int .i64 x3.2.2.Code, .int .i64 x3.2.2.At])], [], [], []⟩ (.cons (fun (_ : (!(decide (at0 < 0))) = true) => (len_ok e_Entry a0)) (.cons (fun (_ : (!((decide (at0 < 0)) || (decide ((a0.length : Int) < at0)))) = true) => (len_ok e_Entry x3.1)) (.cons (fun (_ : (!((decide (at0 < 0)) || (decide ((a0.length : Int) < at0)))) = true) => (len_ok e_Entry b)) (.cons (fun (ga0 : (!(((decide (at0 < 0)) || (decide ((a0.length : Int) < at0))) || (decide ((x3.1.length : Int) < (w64 (at0 + (b.length : Int))))))) = true) => (sl01_ok e_Entry (h5 ga0))) (.cons (fun (ga0 : (!(((decide (at0 < 0)) || (decide ((a0.length : Int) < at0))) || (decide ((x3.1.length : Int) < (w64 (at0 + (b.length : Int))))))) = true) => (sl01_ok e_Entry (h6 ga0))) (.cons (fun (ga0 : (!(((decide (at0 < 0)) || (decide ((a0.length : Int) < at0))) || (decide ((x3.1.length : Int) < (w64 (at0 + (b.length : Int))))))) = true) => (R_SameLog_ok (ltake x3.1 at0) (ltake a0 at0) x5 (ite_t h7 ga0))) .nil)))))) (by kernel_rfl) ?_
          refine Wk_split rfl (fun hb => ?_) (fun hb => ?_)
          · have hF := ite_t hF hb
            refine Wk_seq ?_
            refine WR [] [8] [] [] [] [] [] ⟨[(8, .bool false)], [], [], [], []⟩ .nil (by kernel_rfl) ?_
            have hF := some_elim hF
            exact Wk_ret (hfin _ ⟨[], [], [], [], [], [], by first | (rw [← hF]; kernel_rfl) | kernel_rfl⟩)
          · have hF := ite_f hF hb
            refine Wk_skip ?_
            refine Wk_seq ?_
            refine WR [.nat (a0.length : Int), .nat (b.length : Int)] [0, 1, 2, 3, 9, 11, 12] [11] [] [] [] [] ⟨[(0, .sl 2 (a0.map e_Entry)), (1, .sl 2 (b.map e_Entry)), (2, .int .i64 at0), (3, .int .i64 term), (9, .sl 2 (x3.1.map e_Entry)), (11, .ptr 11 0), (12, .bool (decide ((w64 (at0 + (b.length : Int))) ≤ (a0.length : Int))))], [(11, [.int .i64 x3.2.2.Code, .int .i64 x3.2.2.At])], [], [], []⟩ (.cons (len_ok e_Entry a0) (.cons (len_ok e_Entry b) .nil)) (by kernel_rfl) ?_
            refine Wk_seq ?_
            refine Wk_seq ?_
            refine WR [] [0, 1, 2, 3, 9, 11, 12, 13] [11] [] [] [] [] ⟨[(0, .sl 2 (a0.map e_Entry)), (1, .sl 2 (b.map e_Entry)), (2, .int .i64 at0), (3, .int .i64 term), (9, .sl 2 (x3.1.map e_Entry)), (11, .ptr 11 0), (12, .bool (decide ((w64 (at0 + (b.length : Int))) ≤ (a0.length : Int)))), (13, .int .i64 0)], [(11, [.int .i64 x3.2.2.Code, .int .i64 x3.2.2.At])], [], [], []⟩ .nil (by kernel_rfl) ?_
            refine Wk_meetP (fun v : Fault × Bool => (⟨[(0, .sl 2 (a0.map e_Entry)), (1, .sl 2 (b.map e_Entry)), (2, .int .i64 at0), (3, .int .i64 term), (9, .sl 2 (x3.1.map e_Entry)), (11, .ptr 11 0), (12, .bool v.2)], [(11, [.int .i64 v.1.Code, .int .i64 v.1.At])], [], [], []⟩ : S)) (fun v => law_EntryStays_J1 a0 b at0 term x3 v = some r) ?_ ?_
            · refine Wk_block ?_
              unfold law_EntryStays_L1 at hF
              refine Wk_trim (fs := [0, 1, 2, 3, 9, 11, 12, 13]) (bs := [11]) (rs := []) (ms := []) (aa := []) (nv := []) (t := (fun v2 : Fault × Bool × Int => (⟨[(0, .sl 2 (a0.map e_Entry)), (1, .sl 2 (b.map e_Entry)), (2, .int .i64 at0), (3, .int .i64 term), (9, .sl 2 (x3.1.map e_Entry)), (11, .ptr 11 0), (12, .bool v2.2.1), (13, .int .i64 v2.2.2)], [(11, [.int .i64 v2.1.Code, .int .i64 v2.1.At])], [], [], []⟩ : S)) (x3.2.2, decide ((w64 (at0 + (b.length : Int))) ≤ (a0.length : Int)), 0)) (by kernel_rfl) ?_
              refine Wk_iter (step := fun y => law_EntryStays_B1 a0 b at0 term x3 y) (r := r) (fun v2 : Fault × Bool × Int => (⟨[(0, .sl 2 (a0.map e_Entry)), (1, .sl 2 (b.map e_Entry)), (2, .int .i64 at0), (3, .int .i64 term), (9, .sl 2 (x3.1.map e_Entry)), (11, .ptr 11 0), (12, .bool v2.2.1), (13, .int .i64 v2.2.2)], [(11, [.int .i64 v2.1.Code, .int .i64 v2.1.At])], [], [], []⟩ : S)) (x3.2.2, decide ((w64 (at0 + (b.length : Int))) ≤ (a0.length : Int)), 0) hF ?_
              intro n1 v2 y1 hF ih1 dn1
              have hF : law_EntryStays_B1 a0 b at0 term x3 v2 = some y1 := hF
              unfold law_EntryStays_B1 at hF
              refine Wk_seq ?_
              refine Wk_seq ?_
              refine WR [.nat (b.length : Int)] [0, 1, 2, 3, 9, 11, 12, 13, 84] [11] [] [] [] [] ⟨[(0, .sl 2 (a0.map e_Entry)), (1, .sl 2 (b.map e_Entry)), (2, .int .i64 at0), (3, .int .i64 term), (9, .sl 2 (x3.1.map e_Entry)), (11, .ptr 11 0), (12, .bool v2.2.1), (13, .int .i64 v2.2.2), (84, .bool (decide (v2.2.2 < (b.length : Int))))], [(11, [.int .i64 v2.1.Code, .int .i64 v2.1.At])], [], [], []⟩ (.cons (len_ok e_Entry b) .nil) (by kernel_rfl) ?_
              refine Wk_split rfl (fun hb => ?_) (fun hb => ?_)
              · have hF := ite_t hF hb
                refine Wk_skip ?_
                refine Wk_seq ?_
                refine Wk_block ?_
                refine Wk_seq ?_
                refine Wk_seq ?_
                obtain ⟨h12, hF⟩ := asrt_elim hF
                obtain ⟨h13, hF⟩ := asrt_elim hF
                refine WD [.av (e_Entry (lget x3.1 (w64 (at0 + v2.2.2)))), .av (e_Entry (lget b v2.2.2))] [0, 1, 2, 3, 9, 11, 12, 13, 99] [11] [] [] [] [] ⟨[(0, .sl 2 (a0.map e_Entry)), (1, .sl 2 (b.map e_Entry)), (2, .int .i64 at0), (3, .int .i64 term), (9, .sl 2 (x3.1.map e_Entry)), (11, .ptr 11 0), (12, .bool v2.2.1), (13, .int .i64 v2.2.2), (99, .bool (!decide (((lget x3.1 (w64 (at0 + v2.2.2))).Term) = ((lget b v2.2.2).Term))))], [(11, [.int .i64 v2.1.Code, .int .i64 v2.1.At])], [], [], []⟩ (.cons (idx_ok e_Entry h12) (.cons (idx_ok e_Entry h13) .nil)) (by kernel_rfl) ?_
                refine Wk_split rfl (fun hb => ?_) (fun hb => ?_)
                · have hF := ite_t hF hb
                  refine Wk_seq ?_
                  refine WR [] [8] [] [] [] [] [] ⟨[(8, .bool false)], [], [], [], []⟩ .nil (by kernel_rfl) ?_
                  have hF := ret_done hF dn1
                  have hF := some_elim hF
                  exact Wk_ret (hfin _ ⟨[], [], [], [], [], [], by first | (rw [← hF]; kernel_rfl) | kernel_rfl⟩)
                · have hF := ite_f hF hb
                  refine Wk_skip ?_
                  obtain ⟨h14, hF⟩ := asrt_elim hF
                  obtain ⟨h15, hF⟩ := asrt_elim hF
                  refine WDL (v2.2.1 && (decide (((lget a0 (w64 (at0 + v2.2.2))).Term) = ((lget b v2.2.2).Term)))) (fun v3 : Bool => ⟨[(0, .sl 2 (a0.map e_Entry)), (1, .sl 2 (b.map e_Entry)), (2, .int .i64 at0), (3, .int .i64 term), (9, .sl 2 (x3.1.map e_Entry)), (11, .ptr 11 0), (12, .bool v3), (13, .int .i64 v2.2.2)], [(11, [.int .i64 v2.1.Code, .int .i64 v2.1.At])], [], [], []⟩) [.av (e_Entry (lget a0 (w64 (at0 + v2.2.2)))), .av (e_Entry (lget b v2.2.2))] [0, 1, 2, 3, 9, 11, 12, 13] [11] [] [] [] [] (.cons (fun (ga0 : v2.2.1 = true) => (idx_ok e_Entry (h14 ga0))) (.cons (fun (ga0 : v2.2.1 = true) => (idx_ok e_Entry (h15 ga0))) .nil)) (by kernel_rfl) (fun v3 hv => ?_)
                  have hF := lt_elim hF hv
                  refine Wk_blk ?_
                  refine WR [] [0, 1, 2, 3, 9, 11, 12, 13] [11] [] [] [] [] ⟨[(0, .sl 2 (a0.map e_Entry)), (1, .sl 2 (b.map e_Entry)), (2, .int .i64 at0), (3, .int .i64 term), (9, .sl 2 (x3.1.map e_Entry)), (11, .ptr 11 0), (12, .bool v3), (13, .int .i64 (w64 (v2.2.2 + 1)))], [(11, [.int .i64 v2.1.Code, .int .i64 v2.1.At])], [], [], []⟩ .nil (by kernel_rfl) ?_
                  refine Wk_trim (fs := [0, 1, 2, 3, 9, 11, 12, 13]) (bs := [11]) (rs := []) (ms := []) (aa := []) (nv := []) ?_ (ih1 _ (some_elim hF).symm)
                  kernel_rfl
              · have hF := ite_f hF hb
                refine Wk_exit rfl ?_
                have hF := inrO_done hF dn1
                exact Wk_metP (v2.1, v2.2.1) [0, 1, 2, 3, 9, 11, 12] [11] [] [] [] [] hF (by kernel_rfl)
            · intro v hF
              have hF : law_EntryStays_J1 a0 b at0 term x3 v = some r := hF
              unfold law_EntryStays_J1 at hF
              refine Wk_seq ?_
              refine Wk_seq ?_
              obtain ⟨x6, h8, hF⟩ := ob_elim hF
              refine WR [.callB (.bool x6), .nat (x3.1.length : Int), .nat (b.length : Int)] [1, 2, 3, 9, 11, 135] [11] [] [] [] [] ⟨[(1, .sl 2 (b.map e_Entry)), (2, .int .i64 at0), (3, .int .i64 term), (9, .sl 2 (x3.1.map e_Entry)), (11, .ptr 11 0), (135, .bool ((v.2 && (!x6)) || ((!v.2) && (!decide ((x3.1.length : Int) = (w64 (at0 + (b.length : Int))))))))], [(11, [.int .i64 v.1.Code, .int .i64 v.1.At])], [], [], []⟩ (.cons (fun (ga0 : v.2 = true) => (R_SameLog_ok x3.1 a0 x6 (ite_t h8 ga0))) (.cons (fun (_ : (!v.2) = true) (_ : (!(v.2 && (!x6))) = true) => (len_ok e_Entry x3.1)) (.cons (fun (_ : (!v.2) = true) (_ : (!(v.2 && (!x6))) = true) => (len_ok e_Entry b)) .nil))) (by kernel_rfl) ?_
              refine Wk_split rfl (fun hb => ?_) (fun hb => ?_)
              · have hF := ite_t hF hb
                refine Wk_seq ?_
                refine WR [] [8] [] [] [] [] [] ⟨[(8, .bool false)], [], [], [], []⟩ .nil (by kernel_rfl) ?_
                have hF := some_elim hF
                exact Wk_ret (hfin _ ⟨[], [], [], [], [], [], by first | (rw [← hF]; kernel_rfl) | kernel_rfl⟩)
              · have hF := ite_f hF hb
                refine Wk_skip ?_
                refine Wk_seq ?_
                obtain ⟨x7, h9, hF⟩ := ob_elim hF
                refine WR [.call (.tup [.sl 2 (x7.1.map e_Entry), .bool x7.2.1, .agg [.int .i64 x7.2.2.Code, .int .i64 x7.2.2.At]])] [9, 10, 11, 14] [11] [] [] [] [] ⟨[(9, .sl 2 (x3.1.map e_Entry)), (10, .bool x7.2.1), (11, .ptr 11 0), (14, .sl 2 (x7.1.map e_Entry))], [(11, [.int .i64 x7.2.2.Code, .int .i64 x7.2.2.At])], [], [], []⟩ (.cons (entry_Put_v1_ok x3.1 at0 term b x7 h9) .nil) (by kernel_rfl) ?_
                refine Wk_seq ?_
                obtain ⟨x8, h10, hF⟩ := ob_elim hF
                obtain ⟨x9, h11, hF⟩ := ob_elim hF
                refine WRL ((((decide (x7.2.2.Code = 0)) && x7.2.1) && x8) && (decide (x9.Code = 0))) (fun v1 : Bool => ⟨[(8, .bool v1)], [], [], [], []⟩) [.callB (.bool x8), .callB (.agg [.int .i64 x9.Code, .int .i64 x9.At])] [8] [] [] [] [] [] (.cons (fun (ga0 : ((decide (x7.2.2.Code = 0)) && x7.2.1) = true) => (R_SameLog_ok x7.1 x3.1 x8 (ite_t h10 ga0))) (.cons (fun (ga0 : (((decide (x7.2.2.Code = 0)) && x7.2.1) && x8) = true) => (entry_Check_ok x3.1 x9 (ite_t h11 ga0))) .nil)) (by kernel_rfl) (fun v1 hv => ?_)
                have hF := lt_elim hF hv
                have hF := some_elim hF
                exact Wk_ret (hfin _ ⟨[], [], [], [], [], [], by first | (rw [← hF]; kernel_rfl) | kernel_rfl⟩)

/- tabularyref.CopyLog -/
noncomputable def R_CopyLog (l : List Entry) : Option (List Entry) :=
  asrt ((l.length : Int) * 24 ≤ 140737488351232) <|
  some l
theorem R_CopyLog_ok (l : List Entry) (r : List Entry) (hF : R_CopyLog l = some r) : Pe Try.prog 21 ⟨[], [], [], [], []⟩ [.sl 2 (l.map e_Entry)] (.row 4 1) ⟨[], [], [(4, ⟨31, 2, 1, 0, 0, true, 0, [], (r.map e_Entry)⟩)], [], []⟩ := by
  refine Pe_of (N := 5) (res := [.tmp 2]) (ts := [22]) Ty.ok Fn.b21 Try.func21 rfl rfl rfl rfl rfl rfl ?_
  intro Q g hfin
  unfold R_CopyLog at hF
  refine Wk_seq ?_
  refine WR [] [0] [] [] [] [] [] ⟨[(0, .sl 2 (l.map e_Entry))], [], [], [], []⟩ .nil (by kernel_rfl) ?_
  refine Wk_seq ?_
  obtain ⟨h0, hF⟩ := asrt_elim hF
  refine WR [.xs (l.map e_Entry)] [2] [] [4] [] [] [] ⟨[(2, .row 4 1)], [], [(4, ⟨31, 2, 1, 0, 0, true, 0, [], (l.map e_Entry)⟩)], [], []⟩ (.cons (app0_ok e_Entry l) (.cons (appl_ok e_Entry h0) .nil)) (by kernel_rfl) ?_
  have hF := some_elim hF
  exact Wk_ret (hfin _ ⟨[4], [], [4], [], [], [], by first | (rw [← hF]; kernel_rfl) | kernel_rfl⟩)

/- tabularyref.CopyLog -/
noncomputable def R_CopyLog_v1 (l : List Entry) : Option (List Entry) :=
  asrt ((l.length : Int) * 24 ≤ 140737488351232) <|
  some l
theorem R_CopyLog_v1_ok (l : List Entry) (r : List Entry) (hF : R_CopyLog_v1 l = some r) : Pe Try.prog 21 S.none [.sl 2 (l.map e_Entry)] (.sl 2 (r.map e_Entry)) S.none := by
  refine Pe_of (N := 5) (res := [.tmp 2]) (ts := [22]) Ty.ok Fn.b21 Try.func21 rfl rfl rfl rfl rfl rfl ?_
  intro Q g hfin
  unfold R_CopyLog_v1 at hF
  refine Wk_seq ?_
  refine WR [] [0] [] [] [] [] [] ⟨[(0, .sl 2 (l.map e_Entry))], [], [], [], []⟩ .nil (by kernel_rfl) ?_
  refine Wk_seq ?_
  obtain ⟨h0, hF⟩ := asrt_elim hF
  refine WR [.xs (l.map e_Entry)] [2] [] [4] [] [] [] ⟨[(2, .row 4 1)], [], [(4, ⟨31, 2, 1, 0, 0, true, 0, [], (l.map e_Entry)⟩)], [], []⟩ (.cons (app0_ok e_Entry l) (.cons (appl_ok e_Entry h0) .nil)) (by kernel_rfl) ?_
  have hF := some_elim hF
  exact Wk_ret (hfin _ ⟨[], [], [], [], [], [], by first | (rw [← hF]; kernel_rfl) | kernel_rfl⟩)

/- entry.IsOlder -/
noncomputable def entry_IsOlder (l : List Entry) (num : Int) (term : Int) : Option Bool :=
  ob (entry_TermAt l (l.length : Int)) fun x =>
  lt ((decide (x < term)) || ((decide (x = term)) && (decide ((l.length : Int) < num)))) fun (v : Bool) =>
  some v
theorem entry_IsOlder_ok (l : List Entry) (num : Int) (term : Int) (r : Bool) (hF : entry_IsOlder l num term = some r) : Pe Try.prog 58 S.none [.sl 2 (l.map e_Entry), .int .i64 num, .int .i64 term] (.bool r) S.none := by
  refine Pe_of (N := 26) (res := [.tmp 6]) (ts := [4]) Ty.ok Fn.b58 Try.func58 rfl rfl rfl rfl rfl rfl ?_
  intro Q g hfin
  unfold entry_IsOlder at hF
  refine Wk_seq ?_
  refine WR [] [0, 1, 2] [] [] [] [] [] ⟨[(0, .sl 2 (l.map e_Entry)), (1, .int .i64 num), (2, .int .i64 term)], [], [], [], []⟩ .nil (by kernel_rfl) ?_
  refine Wk_seq ?_
  obtain ⟨x, h0, hF⟩ := ob_elim hF
  refine WR [.nat (l.length : Int), .callB (.int .i64 x)] [0, 1, 2, 7] [] [] [] [] [] ⟨[(0, .sl 2 (l.map e_Entry)), (1, .int .i64 num), (2, .int .i64 term), (7, .int .i64 x)], [], [], [], []⟩ (.cons (len_ok e_Entry l) (.cons (entry_TermAt_ok l (l.length : Int) x h0) .nil)) (by kernel_rfl) ?_
  refine Wk_seq ?_
  refine WRL ((decide (x < term)) || ((decide (x = term)) && (decide ((l.length : Int) < num)))) (fun v : Bool => ⟨[(6, .bool v)], [], [], [], []⟩) [.nat (l.length : Int)] [6] [] [] [] [] [] (.cons (fun (_ : (decide (x = term)) = true) (_ : (!(decide (x < term))) = true) => (len_ok e_Entry l)) .nil) (by kernel_rfl) (fun v hv => ?_)
  have hF := lt_elim hF hv
  have hF := some_elim hF
  exact Wk_ret (hfin _ ⟨[], [], [], [], [], [], by first | (rw [← hF]; kernel_rfl) | kernel_rfl⟩)

/- entry.Older -/
noncomputable def entry_Older (l : List Entry) (num : Int) (term : Int) : Option (Bool × Fault) :=
  ob (entry_Check l) fun x =>
  ob (
    if (decide (x.Code = 0)) = true then
      lt (entry_ranged num term) fun x1 =>
      some ((⟨0, 0⟩ : Fault), x1)
    else
      some ((⟨0, 0⟩ : Fault), x)) fun (v : Fault × Fault) =>
  ob (if (decide (v.2.Code = 0)) = true then (entry_IsOlder l num term) else some default) fun x2 =>
  some ((decide (v.2.Code = 0)) && x2, v.2)
theorem entry_Older_ok (l : List Entry) (num : Int) (term : Int) (r : Bool × Fault) (hF : entry_Older l num term = some r) : Pe Try.prog 19 S.none [.sl 2 (l.map e_Entry), .int .i64 num, .int .i64 term] (.tup [.bool r.1, .agg [.int .i64 r.2.Code, .int .i64 r.2.At]]) S.none := by
  refine Pe_of (N := 27) (res := [.tmp 6, .cell 7 26]) (ts := [4, 26]) Ty.ok Fn.b19 Try.func19 rfl rfl rfl rfl rfl rfl ?_
  intro Q g hfin
  unfold entry_Older at hF
  refine Wk_seq ?_
  refine WR [] [0, 1, 2, 7] [7] [] [] [] [] ⟨[(0, .sl 2 (l.map e_Entry)), (1, .int .i64 num), (2, .int .i64 term), (7, .ptr 7 0)], [(7, [.int .i64 0, .int .i64 0])], [], [], []⟩ .nil (by kernel_rfl) ?_
  refine Wk_seq ?_
  obtain ⟨x, h0, hF⟩ := ob_elim hF
  refine WR [.callB (.agg [.int .i64 x.Code, .int .i64 x.At])] [0, 1, 2, 7, 8] [7, 8] [] [] [] [] ⟨[(0, .sl 2 (l.map e_Entry)), (1, .int .i64 num), (2, .int .i64 term), (7, .ptr 7 0), (8, .ptr 8 0)], [(7, [.int .i64 0, .int .i64 0]), (8, [.int .i64 x.Code, .int .i64 x.At])], [], [], []⟩ (.cons (entry_Check_ok l x h0) .nil) (by kernel_rfl) ?_
  refine Wk_seq ?_
  refine Wk_seq ?_
  refine WR [] [0, 1, 2, 7, 8, 13] [7, 8] [] [] [] [] ⟨[(0, .sl 2 (l.map e_Entry)), (1, .int .i64 num), (2, .int .i64 term), (7, .ptr 7 0), (8, .ptr 8 0), (13, .bool (decide (x.Code = 0)))], [(7, [.int .i64 0, .int .i64 0]), (8, [.int .i64 x.Code, .int .i64 x.At])], [], [], []⟩ .nil (by kernel_rfl) ?_
  obtain ⟨v, hv, hF⟩ := ob_elim hF
  refine Wk_meet (⟨[(0, .sl 2 (l.map e_Entry)), (1, .int .i64 num), (2, .int .i64 term), (7, .ptr 7 0), (8, .ptr 8 0)], [(7, [.int .i64 v.1.Code, .int .i64 v.1.At]), (8, [.int .i64 v.2.Code, .int .i64 v.2.At])], [], [], []⟩ : S) ?_ ?_
  · have hF := hv
    refine Wk_split rfl (fun hb => ?_) (fun hb => ?_)
    · have hF := ite_t hF hb
      obtain ⟨x1, h1, hF⟩ := lt_split hF
      refine WR [.callB (.agg [.int .i64 x1.Code, .int .i64 x1.At])] [0, 1, 2, 7, 8] [7, 8] [] [] [] [] ⟨[(0, .sl 2 (l.map e_Entry)), (1, .int .i64 num), (2, .int .i64 term), (7, .ptr 7 0), (8, .ptr 8 0)], [(7, [.int .i64 0, .int .i64 0]), (8, [.int .i64 x1.Code, .int .i64 x1.At])], [], [], []⟩ (.cons (entry_ranged_ok num term x1 h1) .nil) (by kernel_rfl) ?_
      exact Wk_met (fs := [0, 1, 2, 7, 8]) (bs := [7, 8]) (rs := []) (ms := []) (aa := []) (nv := []) (by first | (rw [← some_elim hF]; kernel_rfl) | kernel_rfl)
    · have hF := ite_f hF hb
      refine Wk_skip ?_
      exact Wk_met (fs := [0, 1, 2, 7, 8]) (bs := [7, 8]) (rs := []) (ms := []) (aa := []) (nv := []) (by first | (rw [← some_elim hF]; kernel_rfl) | kernel_rfl)
  · refine Wk_seq ?_
    obtain ⟨x2, h2, hF⟩ := ob_elim hF
    refine WD [.callB (.bool x2)] [6, 7] [7] [] [] [] [] ⟨[(6, .bool ((decide (v.2.Code = 0)) && x2)), (7, .ptr 7 0)], [(7, [.int .i64 v.2.Code, .int .i64 v.2.At])], [], [], []⟩ (.cons (fun (ga0 : (decide (v.2.Code = 0)) = true) => (entry_IsOlder_ok l num term x2 (ite_t h2 ga0))) .nil) (by kernel_rfl) ?_
    have hF := some_elim hF
    exact Wk_ret (hfin _ ⟨[], [], [], [], [], [], by first | (rw [← hF]; kernel_rfl) | kernel_rfl⟩)

/- entry.Agree -/
noncomputable def entry_Agree_J1 (v : Fault × Fault × Int) : Option (Int × Fault) :=
  some (v.2.2, v.2.1)
noncomputable def entry_Agree_B1 (a0 : List Entry) (b : List Entry) (v1 : Fault × Fault × Int) : Option ((Fault × Fault × Int) ⊕ (Int × Fault)) :=
  asrt ((decide (0 < v1.2.2)) = true → 0 ≤ w64 (v1.2.2 - 1) ∧ w64 (v1.2.2 - 1) < (a0.length : Int)) <|
  asrt ((decide (0 < v1.2.2)) = true → 0 ≤ w64 (v1.2.2 - 1) ∧ w64 (v1.2.2 - 1) < (b.length : Int)) <|
  if ((decide (0 < v1.2.2)) && (!decide (((lget a0 (w64 (v1.2.2 - 1))).Term) = ((lget b (w64 (v1.2.2 - 1))).Term)))) = true then
    some (Sum.inl (v1.1, v1.2.1, w64 (v1.2.2 - 1)))
  else
    inrO (entry_Agree_J1 (v1.1, v1.2.1, v1.2.2))
noncomputable def entry_Agree_L1 (a0 : List Entry) (b : List Entry) (v0 : Fault × Fault × Int) : Option (Int × Fault) :=
  loopO (fun y => entry_Agree_B1 a0 b y) v0
noncomputable def entry_Agree (a0 : List Entry) (b : List Entry) : Option (Int × Fault) :=
  ob (entry_two a0 b) fun x =>
  if (!decide (x.Code = 0)) = true then
    some (0, x)
  else
    entry_Agree_L1 a0 b ((⟨0, 0⟩ : Fault), x, (min (a0.length : Int) (b.length : Int)))
theorem entry_Agree_ok (a0 : List Entry) (b : List Entry) (r : Int × Fault) (hF : entry_Agree a0 b = some r) : Pe Try.prog 22 S.none [.sl 2 (a0.map e_Entry), .sl 2 (b.map e_Entry)] (.tup [.int .i64 r.1, .agg [.int .i64 r.2.Code, .int .i64 r.2.At]]) S.none := by
  refine Pe_of (N := 41) (res := [.tmp 4, .cell 5 26]) (ts := [3, 26]) Ty.ok Fn.b22 Try.func22 rfl rfl rfl rfl rfl rfl ?_
  intro Q g hfin
  unfold entry_Agree at hF
  refine Wk_seq ?_
  refine WR [] [0, 1, 5] [5] [] [] [] [] ⟨[(0, .sl 2 (a0.map e_Entry)), (1, .sl 2 (b.map e_Entry)), (5, .ptr 5 0)], [(5, [.int .i64 0, .int .i64 0])], [], [], []⟩ .nil (by kernel_rfl) ?_
  refine Wk_seq ?_
  obtain ⟨x, h0, hF⟩ := ob_elim hF
  refine WR [.callB (.agg [.int .i64 x.Code, .int .i64 x.At])] [0, 1, 5, 6] [5, 6] [] [] [] [] ⟨[(0, .sl 2 (a0.map e_Entry)), (1, .sl 2 (b.map e_Entry)), (5, .ptr 5 0), (6, .ptr 6 0)], [(5, [.int .i64 0, .int .i64 0]), (6, [.int .i64 x.Code, .int .i64 x.At])], [], [], []⟩ (.cons (entry_two_ok a0 b x h0) .nil) (by kernel_rfl) ?_
  refine Wk_seq ?_
  refine Wk_seq ?_
  refine WR [] [0, 1, 5, 6, 13] [5, 6] [] [] [] [] ⟨[(0, .sl 2 (a0.map e_Entry)), (1, .sl 2 (b.map e_Entry)), (5, .ptr 5 0), (6, .ptr 6 0), (13, .bool (!decide (x.Code = 0)))], [(5, [.int .i64 0, .int .i64 0]), (6, [.int .i64 x.Code, .int .i64 x.At])], [], [], []⟩ .nil (by kernel_rfl) ?_
  refine Wk_split rfl (fun hb => ?_) (fun hb => ?_)
  · have hF := ite_t hF hb
    refine Wk_seq ?_
    refine WD [] [4, 5] [5] [] [] [] [] ⟨[(4, .int .i64 0), (5, .ptr 5 0)], [(5, [.int .i64 x.Code, .int .i64 x.At])], [], [], []⟩ .nil (by kernel_rfl) ?_
    have hF := some_elim hF
    exact Wk_ret (hfin _ ⟨[], [], [], [], [], [], by first | (rw [← hF]; kernel_rfl) | kernel_rfl⟩)
  · have hF := ite_f hF hb
    refine Wk_skip ?_
    refine Wk_seq ?_
    refine WR [.nat (a0.length : Int), .nat (b.length : Int)] [0, 1, 5, 6, 7] [5, 6] [] [] [] [] ⟨[(0, .sl 2 (a0.map e_Entry)), (1, .sl 2 (b.map e_Entry)), (5, .ptr 5 0), (6, .ptr 6 0), (7, .int .i64 (min (a0.length : Int) (b.length : Int)))], [(5, [.int .i64 0, .int .i64 0]), (6, [.int .i64 x.Code, .int .i64 x.At])], [], [], []⟩ (.cons (len_ok e_Entry a0) (.cons (len_ok e_Entry b) .nil)) (by kernel_rfl) ?_
    refine Wk_seq ?_
    refine Wk_meetP (fun v : Fault × Fault × Int => (⟨[(5, .ptr 5 0), (6, .ptr 6 0), (7, .int .i64 v.2.2)], [(5, [.int .i64 v.1.Code, .int .i64 v.1.At]), (6, [.int .i64 v.2.1.Code, .int .i64 v.2.1.At])], [], [], []⟩ : S)) (fun v => entry_Agree_J1 v = some r) ?_ ?_
    · refine Wk_block ?_
      unfold entry_Agree_L1 at hF
      refine Wk_trim (fs := [0, 1, 5, 6, 7]) (bs := [5, 6]) (rs := []) (ms := []) (aa := []) (nv := []) (t := (fun v1 : Fault × Fault × Int => (⟨[(0, .sl 2 (a0.map e_Entry)), (1, .sl 2 (b.map e_Entry)), (5, .ptr 5 0), (6, .ptr 6 0), (7, .int .i64 v1.2.2)], [(5, [.int .i64 v1.1.Code, .int .i64 v1.1.At]), (6, [.int .i64 v1.2.1.Code, .int .i64 v1.2.1.At])], [], [], []⟩ : S)) ((⟨0, 0⟩ : Fault), x, (min (a0.length : Int) (b.length : Int)))) (by kernel_rfl) ?_
      refine Wk_iter (step := fun y => entry_Agree_B1 a0 b y) (r := r) (fun v1 : Fault × Fault × Int => (⟨[(0, .sl 2 (a0.map e_Entry)), (1, .sl 2 (b.map e_Entry)), (5, .ptr 5 0), (6, .ptr 6 0), (7, .int .i64 v1.2.2)], [(5, [.int .i64 v1.1.Code, .int .i64 v1.1.At]), (6, [.int .i64 v1.2.1.Code, .int .i64 v1.2.1.At])], [], [], []⟩ : S)) ((⟨0, 0⟩ : Fault), x, (min (a0.length : Int) (b.length : Int))) hF ?_
      intro n1 v1 y1 hF ih1 dn1
      have hF : entry_Agree_B1 a0 b v1 = some y1 := hF
      unfold entry_Agree_B1 at hF
      refine Wk_seq ?_
      refine Wk_seq ?_
      obtain ⟨h1, hF⟩ := asrt_elim hF
      obtain ⟨h2, hF⟩ := asrt_elim hF
      refine WD [.av (e_Entry (lget a0 (w64 (v1.2.2 - 1)))), .av (e_Entry (lget b (w64 (v1.2.2 - 1))))] [0, 1, 5, 6, 7, 36] [5, 6] [] [] [] [] ⟨[(0, .sl 2 (a0.map e_Entry)), (1, .sl 2 (b.map e_Entry)), (5, .ptr 5 0), (6, .ptr 6 0), (7, .int .i64 v1.2.2), (36, .bool ((decide (0 < v1.2.2)) && (!decide (((lget a0 (w64 (v1.2.2 - 1))).Term) = ((lget b (w64 (v1.2.2 - 1))).Term)))))], [(5, [.int .i64 v1.1.Code, .int .i64 v1.1.At]), (6, [.int .i64 v1.2.1.Code, .int .i64 v1.2.1.At])], [], [], []⟩ (.cons (fun (ga0 : (decide (0 < v1.2.2)) = true) => (idx_ok e_Entry (h1 ga0))) (.cons (fun (ga0 : (decide (0 < v1.2.2)) = true) => (idx_ok e_Entry (h2 ga0))) .nil)) (by kernel_rfl) ?_
      refine Wk_split rfl (fun hb => ?_) (fun hb => ?_)
      · have hF := ite_t hF hb
        refine Wk_skip ?_
        refine Wk_block ?_
        refine WR [] [0, 1, 5, 6, 7] [5, 6] [] [] [] [] ⟨[(0, .sl 2 (a0.map e_Entry)), (1, .sl 2 (b.map e_Entry)), (5, .ptr 5 0), (6, .ptr 6 0), (7, .int .i64 (w64 (v1.2.2 - 1)))], [(5, [.int .i64 v1.1.Code, .int .i64 v1.1.At]), (6, [.int .i64 v1.2.1.Code, .int .i64 v1.2.1.At])], [], [], []⟩ .nil (by kernel_rfl) ?_
        refine Wk_blk ?_
        refine Wk_trim (fs := [0, 1, 5, 6, 7]) (bs := [5, 6]) (rs := []) (ms := []) (aa := []) (nv := []) ?_ (ih1 _ (some_elim hF).symm)
        kernel_rfl
      · have hF := ite_f hF hb
        refine Wk_exit rfl ?_
        have hF := inrO_done hF dn1
        exact Wk_metP (v1.1, v1.2.1, v1.2.2) [5, 6, 7] [5, 6] [] [] [] [] hF (by kernel_rfl)
    · intro v hF
      have hF : entry_Agree_J1 v = some r := hF
      unfold entry_Agree_J1 at hF
      refine Wk_seq ?_
      refine WD [] [4, 5] [5] [] [] [] [] ⟨[(4, .int .i64 v.2.2), (5, .ptr 5 0)], [(5, [.int .i64 v.2.1.Code, .int .i64 v.2.1.At])], [], [], []⟩ .nil (by kernel_rfl) ?_
      have hF := some_elim hF
      exact Wk_ret (hfin _ ⟨[], [], [], [], [], [], by first | (rw [← hF]; kernel_rfl) | kernel_rfl⟩)

/- tabularyref.F -/
noncomputable def R_F (code : Int) (at0 : Int) : Fault :=
  (⟨code, at0⟩ : Fault)
theorem R_F_ok (code : Int) (at0 : Int) (r : Fault) (hF : R_F code at0 = r) : Pe Try.prog 51 S.none [.int .i64 code, .int .i64 at0] (.agg [.int .i64 r.Code, .int .i64 r.At]) S.none := by
  refine Pe_of (N := 8) (res := [.cell 4 26]) (ts := [26]) Ty.ok Fn.b51 Try.func51 rfl rfl rfl rfl rfl rfl ?_
  intro Q g hfin
  unfold R_F at hF
  refine Wk_seq ?_
  refine WR [] [0, 1, 4] [4] [] [] [] [] ⟨[(0, .int .i64 code), (1, .int .i64 at0), (4, .ptr 4 0)], [(4, [.int .i64 0, .int .i64 0])], [], [], []⟩ .nil (by kernel_rfl) ?_
  refine Wk_seq ?_
  refine WR [] [4] [4] [] [] [] [] ⟨[(4, .ptr 4 0)], [(4, [.int .i64 code, .int .i64 at0])], [], [], []⟩ .nil (by kernel_rfl) ?_
  exact Wk_ret (hfin _ ⟨[], [], [], [], [], [], by first | (rw [← hF]; kernel_rfl) | kernel_rfl⟩)

/- tabularyref.LogFault -/
noncomputable def R_LogFault_J1 (v : Fault) : Option Fault :=
  some (⟨0, 0⟩ : Fault)
noncomputable def R_LogFault_B1 (l : List Entry) (v1 : Fault × Int) : Option ((Fault × Int) ⊕ Fault) :=
  if (decide (v1.2 < (l.length : Int))) = true then
    asrt (0 ≤ v1.2 ∧ v1.2 < (l.length : Int)) <|
    asrt ((!(decide (((lget l v1.2).Term) < 1))) = true → 0 ≤ v1.2 ∧ v1.2 < (l.length : Int)) <|
    if ((decide (((lget l v1.2).Term) < 1)) || (decide (1000000000 < ((lget l v1.2).Term)))) = true then
      lt (R_F 3 v1.2) fun x1 =>
      some (Sum.inr x1)
    else
      asrt ((decide (0 < v1.2)) = true → 0 ≤ v1.2 ∧ v1.2 < (l.length : Int)) <|
      asrt ((decide (0 < v1.2)) = true → 0 ≤ w64 (v1.2 - 1) ∧ w64 (v1.2 - 1) < (l.length : Int)) <|
      if ((decide (0 < v1.2)) && (decide (((lget l v1.2).Term) < ((lget l (w64 (v1.2 - 1))).Term)))) = true then
        lt (R_F 11 v1.2) fun x2 =>
        some (Sum.inr x2)
      else
        asrt (0 ≤ v1.2 ∧ v1.2 < (l.length : Int)) <|
        if (decide (200 < (((lget l v1.2).Text).length : Int))) = true then
          lt (R_F 8 v1.2) fun x3 =>
          some (Sum.inr x3)
        else
          some (Sum.inl (v1.1, w64 (v1.2 + 1)))
  else
    inrO (R_LogFault_J1 v1.1)
noncomputable def R_LogFault_L1 (l : List Entry) (v0 : Fault × Int) : Option Fault :=
  loopO (fun y => R_LogFault_B1 l y) v0
noncomputable def R_LogFault (l : List Entry) : Option Fault :=
  if (decide (100 < (l.length : Int))) = true then
    lt (R_F 2 (-1)) fun x =>
    some x
  else
    R_LogFault_L1 l ((⟨0, 0⟩ : Fault), 0)
theorem R_LogFault_ok (l : List Entry) (r : Fault) (hF : R_LogFault l = some r) : Pe Try.prog 18 S.none [.sl 2 (l.map e_Entry)] (.agg [.int .i64 r.Code, .int .i64 r.At]) S.none := by
  refine Pe_of (N := 58) (res := [.cell 2 26]) (ts := [26]) Ty.ok Fn.b18 Try.func18 rfl rfl rfl rfl rfl rfl ?_
  intro Q g hfin
  unfold R_LogFault at hF
  refine Wk_seq ?_
  refine WR [] [0, 2] [2] [] [] [] [] ⟨[(0, .sl 2 (l.map e_Entry)), (2, .ptr 2 0)], [(2, [.int .i64 0, .int .i64 0])], [], [], []⟩ .nil (by kernel_rfl) ?_
  refine Wk_seq ?_
  refine Wk_seq ?_
  refine WR [.nat (l.length : Int)] [0, 2, 6] [2] [] [] [] [] ⟨[(0, .sl 2 (l.map e_Entry)), (2, .ptr 2 0), (6, .bool (decide (100 < (l.length : Int))))], [(2, [.int .i64 0, .int .i64 0])], [], [], []⟩ (.cons (len_ok e_Entry l) .nil) (by kernel_rfl) ?_
  refine Wk_split rfl (fun hb => ?_) (fun hb => ?_)
  · have hF := ite_t hF hb
    refine Wk_seq ?_
    obtain ⟨x, h0, hF⟩ := lt_split hF
    refine WR [.callB (.agg [.int .i64 x.Code, .int .i64 x.At])] [2] [2] [] [] [] [] ⟨[(2, .ptr 2 0)], [(2, [.int .i64 x.Code, .int .i64 x.At])], [], [], []⟩ (.cons (R_F_ok 2 (-1) x h0) .nil) (by kernel_rfl) ?_
    have hF := some_elim hF
    exact Wk_ret (hfin _ ⟨[], [], [], [], [], [], by first | (rw [← hF]; kernel_rfl) | kernel_rfl⟩)
  · have hF := ite_f hF hb
    refine Wk_skip ?_
    refine Wk_seq ?_
    refine Wk_seq ?_
    refine WR [] [0, 2, 3] [2] [] [] [] [] ⟨[(0, .sl 2 (l.map e_Entry)), (2, .ptr 2 0), (3, .int .i64 0)], [(2, [.int .i64 0, .int .i64 0])], [], [], []⟩ .nil (by kernel_rfl) ?_
    refine Wk_meetP (fun v : Fault => (⟨[(2, .ptr 2 0)], [(2, [.int .i64 v.Code, .int .i64 v.At])], [], [], []⟩ : S)) (fun v => R_LogFault_J1 v = some r) ?_ ?_
    · refine Wk_block ?_
      unfold R_LogFault_L1 at hF
      refine Wk_trim (fs := [0, 2, 3]) (bs := [2]) (rs := []) (ms := []) (aa := []) (nv := []) (t := (fun v1 : Fault × Int => (⟨[(0, .sl 2 (l.map e_Entry)), (2, .ptr 2 0), (3, .int .i64 v1.2)], [(2, [.int .i64 v1.1.Code, .int .i64 v1.1.At])], [], [], []⟩ : S)) ((⟨0, 0⟩ : Fault), 0)) (by kernel_rfl) ?_
      refine Wk_iter (step := fun y => R_LogFault_B1 l y) (r := r) (fun v1 : Fault × Int => (⟨[(0, .sl 2 (l.map e_Entry)), (2, .ptr 2 0), (3, .int .i64 v1.2)], [(2, [.int .i64 v1.1.Code, .int .i64 v1.1.At])], [], [], []⟩ : S)) ((⟨0, 0⟩ : Fault), 0) hF ?_
      intro n1 v1 y1 hF ih1 dn1
      have hF : R_LogFault_B1 l v1 = some y1 := hF
      unfold R_LogFault_B1 at hF
      refine Wk_seq ?_
      refine Wk_seq ?_
      refine WR [.nat (l.length : Int)] [0, 2, 3, 11] [2] [] [] [] [] ⟨[(0, .sl 2 (l.map e_Entry)), (2, .ptr 2 0), (3, .int .i64 v1.2), (11, .bool (decide (v1.2 < (l.length : Int))))], [(2, [.int .i64 v1.1.Code, .int .i64 v1.1.At])], [], [], []⟩ (.cons (len_ok e_Entry l) .nil) (by kernel_rfl) ?_
      refine Wk_split rfl (fun hb => ?_) (fun hb => ?_)
      · have hF := ite_t hF hb
        refine Wk_skip ?_
        refine Wk_seq ?_
        refine Wk_block ?_
        refine Wk_seq ?_
        refine Wk_seq ?_
        obtain ⟨h1, hF⟩ := asrt_elim hF
        obtain ⟨h2, hF⟩ := asrt_elim hF
        refine WR [.av (e_Entry (lget l v1.2)), .av (e_Entry (lget l v1.2))] [0, 2, 3, 27] [2] [] [] [] [] ⟨[(0, .sl 2 (l.map e_Entry)), (2, .ptr 2 0), (3, .int .i64 v1.2), (27, .bool ((decide (((lget l v1.2).Term) < 1)) || (decide (1000000000 < ((lget l v1.2).Term)))))], [(2, [.int .i64 v1.1.Code, .int .i64 v1.1.At])], [], [], []⟩ (.cons (idx_ok e_Entry h1) (.cons (fun (ga0 : (!(decide (((lget l v1.2).Term) < 1))) = true) => (idx_ok e_Entry (h2 ga0))) .nil)) (by kernel_rfl) ?_
        refine Wk_split rfl (fun hb => ?_) (fun hb => ?_)
        · have hF := ite_t hF hb
          refine Wk_seq ?_
          obtain ⟨x1, h3, hF⟩ := lt_split hF
          refine WR [.callB (.agg [.int .i64 x1.Code, .int .i64 x1.At])] [2] [2] [] [] [] [] ⟨[(2, .ptr 2 0)], [(2, [.int .i64 x1.Code, .int .i64 x1.At])], [], [], []⟩ (.cons (R_F_ok 3 v1.2 x1 h3) .nil) (by kernel_rfl) ?_
          have hF := ret_done hF dn1
          have hF := some_elim hF
          exact Wk_ret (hfin _ ⟨[], [], [], [], [], [], by first | (rw [← hF]; kernel_rfl) | kernel_rfl⟩)
        · have hF := ite_f hF hb
          refine Wk_skip ?_
          refine Wk_seq ?_
          refine Wk_seq ?_
          obtain ⟨h4, hF⟩ := asrt_elim hF
          obtain ⟨h5, hF⟩ := asrt_elim hF
          refine WD [.av (e_Entry (lget l v1.2)), .av (e_Entry (lget l (w64 (v1.2 - 1))))] [0, 2, 3, 45] [2] [] [] [] [] ⟨[(0, .sl 2 (l.map e_Entry)), (2, .ptr 2 0), (3, .int .i64 v1.2), (45, .bool ((decide (0 < v1.2)) && (decide (((lget l v1.2).Term) < ((lget l (w64 (v1.2 - 1))).Term)))))], [(2, [.int .i64 v1.1.Code, .int .i64 v1.1.At])], [], [], []⟩ (.cons (fun (ga0 : (decide (0 < v1.2)) = true) => (idx_ok e_Entry (h4 ga0))) (.cons (fun (ga0 : (decide (0 < v1.2)) = true) => (idx_ok e_Entry (h5 ga0))) .nil)) (by kernel_rfl) ?_
          refine Wk_split rfl (fun hb => ?_) (fun hb => ?_)
          · have hF := ite_t hF hb
            refine Wk_seq ?_
            obtain ⟨x2, h6, hF⟩ := lt_split hF
            refine WR [.callB (.agg [.int .i64 x2.Code, .int .i64 x2.At])] [2] [2] [] [] [] [] ⟨[(2, .ptr 2 0)], [(2, [.int .i64 x2.Code, .int .i64 x2.At])], [], [], []⟩ (.cons (R_F_ok 11 v1.2 x2 h6) .nil) (by kernel_rfl) ?_
            have hF := ret_done hF dn1
            have hF := some_elim hF
            exact Wk_ret (hfin _ ⟨[], [], [], [], [], [], by first | (rw [← hF]; kernel_rfl) | kernel_rfl⟩)
          · have hF := ite_f hF hb
            refine Wk_skip ?_
            refine Wk_seq ?_
            obtain ⟨h7, hF⟩ := asrt_elim hF
            refine WR [.av (e_Entry (lget l v1.2))] [0, 2, 3, 54] [2] [] [] [] [] ⟨[(0, .sl 2 (l.map e_Entry)), (2, .ptr 2 0), (3, .int .i64 v1.2), (54, .bool (decide (200 < (((lget l v1.2).Text).length : Int))))], [(2, [.int .i64 v1.1.Code, .int .i64 v1.1.At])], [], [], []⟩ (.cons (idx_ok e_Entry h7) .nil) (by kernel_rfl) ?_
            refine Wk_split rfl (fun hb => ?_) (fun hb => ?_)
            · have hF := ite_t hF hb
              refine Wk_seq ?_
              obtain ⟨x3, h8, hF⟩ := lt_split hF
              refine WR [.callB (.agg [.int .i64 x3.Code, .int .i64 x3.At])] [2] [2] [] [] [] [] ⟨[(2, .ptr 2 0)], [(2, [.int .i64 x3.Code, .int .i64 x3.At])], [], [], []⟩ (.cons (R_F_ok 8 v1.2 x3 h8) .nil) (by kernel_rfl) ?_
              have hF := ret_done hF dn1
              have hF := some_elim hF
              exact Wk_ret (hfin _ ⟨[], [], [], [], [], [], by first | (rw [← hF]; kernel_rfl) | kernel_rfl⟩)
            · have hF := ite_f hF hb
              refine Wk_skip ?_
              refine Wk_blk ?_
              refine WR [] [0, 2, 3] [2] [] [] [] [] ⟨[(0, .sl 2 (l.map e_Entry)), (2, .ptr 2 0), (3, .int .i64 (w64 (v1.2 + 1)))], [(2, [.int .i64 v1.1.Code, .int .i64 v1.1.At])], [], [], []⟩ .nil (by kernel_rfl) ?_
              refine Wk_trim (fs := [0, 2, 3]) (bs := [2]) (rs := []) (ms := []) (aa := []) (nv := []) ?_ (ih1 _ (some_elim hF).symm)
              kernel_rfl
      · have hF := ite_f hF hb
        refine Wk_exit rfl ?_
        have hF := inrO_done hF dn1
        exact Wk_metP v1.1 [2] [2] [] [] [] [] hF (by kernel_rfl)
    · intro v hF
      have hF : R_LogFault_J1 v = some r := hF
      unfold R_LogFault_J1 at hF
      refine Wk_seq ?_
      refine WR [] [2] [2] [] [] [] [] ⟨[(2, .ptr 2 0)], [(2, [.int .i64 0, .int .i64 0])], [], [], []⟩ .nil (by kernel_rfl) ?_
      have hF := some_elim hF
      exact Wk_ret (hfin _ ⟨[], [], [], [], [], [], by first | (rw [← hF]; kernel_rfl) | kernel_rfl⟩)

/- tabularyref.Num -/
noncomputable def R_Num (num : Int) : Bool :=
  (decide (0 ≤ num)) && (decide (num ≤ 1000000000))
theorem R_Num_ok (num : Int) (r : Bool) (hF : R_Num num = r) : Pe Try.prog 59 S.none [.int .i64 num] (.bool r) S.none := by
  refine Pe_of (N := 9) (res := [.tmp 2]) (ts := [4]) Ty.ok Fn.b59 Try.func59 rfl rfl rfl rfl rfl rfl ?_
  intro Q g hfin
  unfold R_Num at hF
  refine Wk_seq ?_
  refine WR [] [0] [] [] [] [] [] ⟨[(0, .int .i64 num)], [], [], [], []⟩ .nil (by kernel_rfl) ?_
  refine Wk_seq ?_
  refine WR [] [2] [] [] [] [] [] ⟨[(2, .bool ((decide (0 ≤ num)) && (decide (num ≤ 1000000000))))], [], [], [], []⟩ .nil (by kernel_rfl) ?_
  exact Wk_ret (hfin _ ⟨[], [], [], [], [], [], by first | (rw [← hF]; kernel_rfl) | kernel_rfl⟩)

/- tabularyref.PlaceFault -/
noncomputable def R_PlaceFault (num : Int) (term : Int) : Fault :=
  lt (R_Num num) fun x =>
  if (!x) = true then
    lt (R_F 3 (-1)) fun x1 =>
    x1
  else
    lt (R_Num term) fun x2 =>
    if (!x2) = true then
      lt (R_F 3 (-2)) fun x3 =>
      x3
    else
      (⟨0, 0⟩ : Fault)
theorem R_PlaceFault_ok (num : Int) (term : Int) (r : Fault) (hF : R_PlaceFault num term = r) : Pe Try.prog 23 S.none [.int .i64 num, .int .i64 term] (.agg [.int .i64 r.Code, .int .i64 r.At]) S.none := by
  refine Pe_of (N := 14) (res := [.cell 4 26]) (ts := [26]) Ty.ok Fn.b23 Try.func23 rfl rfl rfl rfl rfl rfl ?_
  intro Q g hfin
  unfold R_PlaceFault at hF
  refine Wk_seq ?_
  refine WR [] [0, 1, 4] [4] [] [] [] [] ⟨[(0, .int .i64 num), (1, .int .i64 term), (4, .ptr 4 0)], [(4, [.int .i64 0, .int .i64 0])], [], [], []⟩ .nil (by kernel_rfl) ?_
  refine Wk_seq ?_
  refine Wk_seq ?_
  obtain ⟨x, h0, hF⟩ := lt_split hF
  refine WR [.callB (.bool x)] [1, 4, 7] [4] [] [] [] [] ⟨[(1, .int .i64 term), (4, .ptr 4 0), (7, .bool (!x))], [(4, [.int .i64 0, .int .i64 0])], [], [], []⟩ (.cons (R_Num_ok num x h0) .nil) (by kernel_rfl) ?_
  refine Wk_split rfl (fun hb => ?_) (fun hb => ?_)
  · have hF := ite_t hF hb
    refine Wk_seq ?_
    obtain ⟨x1, h1, hF⟩ := lt_split hF
    refine WR [.callB (.agg [.int .i64 x1.Code, .int .i64 x1.At])] [4] [4] [] [] [] [] ⟨[(4, .ptr 4 0)], [(4, [.int .i64 x1.Code, .int .i64 x1.At])], [], [], []⟩ (.cons (R_F_ok 3 (-1) x1 h1) .nil) (by kernel_rfl) ?_
    exact Wk_ret (hfin _ ⟨[], [], [], [], [], [], by first | (rw [← hF]; kernel_rfl) | kernel_rfl⟩)
  · have hF := ite_f hF hb
    refine Wk_skip ?_
    refine Wk_seq ?_
    refine Wk_seq ?_
    obtain ⟨x2, h2, hF⟩ := lt_split hF
    refine WR [.callB (.bool x2)] [4, 11] [4] [] [] [] [] ⟨[(4, .ptr 4 0), (11, .bool (!x2))], [(4, [.int .i64 0, .int .i64 0])], [], [], []⟩ (.cons (R_Num_ok term x2 h2) .nil) (by kernel_rfl) ?_
    refine Wk_split rfl (fun hb => ?_) (fun hb => ?_)
    · have hF := ite_t hF hb
      refine Wk_seq ?_
      obtain ⟨x3, h3, hF⟩ := lt_split hF
      refine WR [.callB (.agg [.int .i64 x3.Code, .int .i64 x3.At])] [4] [4] [] [] [] [] ⟨[(4, .ptr 4 0)], [(4, [.int .i64 x3.Code, .int .i64 x3.At])], [], [], []⟩ (.cons (R_F_ok 3 (-2) x3 h3) .nil) (by kernel_rfl) ?_
      exact Wk_ret (hfin _ ⟨[], [], [], [], [], [], by first | (rw [← hF]; kernel_rfl) | kernel_rfl⟩)
    · have hF := ite_f hF hb
      refine Wk_skip ?_
      refine Wk_seq ?_
      refine WR [] [4] [4] [] [] [] [] ⟨[(4, .ptr 4 0)], [(4, [.int .i64 0, .int .i64 0])], [], [], []⟩ .nil (by kernel_rfl) ?_
      exact Wk_ret (hfin _ ⟨[], [], [], [], [], [], by first | (rw [← hF]; kernel_rfl) | kernel_rfl⟩)

end G
end Go.Proofs.Ytcnngkigpfpalaa
