/- The program's functions as plain functions, and that they are these. Written by a program (dec2.py). -/
import Derived.Test.YtiakadlmebbafaaTys
namespace Go.Proofs.Ytiakadlmebbafaa
open Go Go.Dm
set_option linter.unusedVariables false
set_option linter.unusedSimpArgs false
set_option maxRecDepth 100000
namespace G
/- wire.fault -/
noncomputable def wire_fault (code : Int) (at0 : Int) : Fault :=
  (⟨code, at0⟩ : Fault)
theorem wire_fault_ok (code : Int) (at0 : Int) (r : Fault) (hF : wire_fault code at0 = r) : Pe Try.prog 54 S.none [.int .i64 code, .int .i64 at0] (.agg [.int .i64 r.Code, .int .i64 r.At]) S.none := by
  refine Pe_of (N := 8) (res := [.cell 4 26]) (ts := [26]) Ty.ok Fn.b54 Try.func54 rfl rfl rfl rfl rfl rfl ?_
  intro Q g hfin
  unfold wire_fault at hF
  refine Wk_seq ?_
  refine WR [] [0, 1, 4] [4] [] [] [] [] ⟨[(0, .int .i64 code), (1, .int .i64 at0), (4, .ptr 4 0)], [(4, [.int .i64 0, .int .i64 0])], [], [], []⟩ .nil (by kernel_rfl) ?_
  refine Wk_seq ?_
  refine WR [] [4] [4] [] [] [] [] ⟨[(4, .ptr 4 0)], [(4, [.int .i64 code, .int .i64 at0])], [], [], []⟩ .nil (by kernel_rfl) ?_
  exact Wk_ret (hfin _ ⟨[], [], [], [], [], [], by first | (rw [← hF]; kernel_rfl) | kernel_rfl⟩)

/- wire.AddNum -/
noncomputable def wire_AddNum_v2_J1 (v : List UInt8 × Int) : Option (List UInt8) :=
  asrt (((v.1 ++ ([toU8 v.2] : List UInt8)).length : Int) * 1 ≤ 140737488351232) <|
  some (v.1 ++ ([toU8 v.2] : List UInt8))
noncomputable def wire_AddNum_v2_B1 (v1 : List UInt8 × Int) : Option ((List UInt8 × Int) ⊕ (List UInt8)) :=
  if (decide (127 < v1.2)) = true then
    asrt (((v1.1 ++ ([toU8 (((BitVec.ofInt 8 ((toU8 v1.2).toNat : Int) ||| BitVec.ofInt 8 ((128 : UInt8).toNat : Int)).toNat : Int))] : List UInt8)).length : Int) * 1 ≤ 140737488351232) <|
    lt ((v1.1 ++ ([toU8 (((BitVec.ofInt 8 ((toU8 v1.2).toNat : Int) ||| BitVec.ofInt 8 ((128 : UInt8).toNat : Int)).toNat : Int))] : List UInt8))) fun (v2 : List UInt8) =>
    some (Sum.inl (v2, Int.fdiv v1.2 (2 ^ (min (7 : Int).toNat 64))))
  else
    inrO (wire_AddNum_v2_J1 (v1.1, v1.2))
noncomputable def wire_AddNum_v2_L1 (v0 : List UInt8 × Int) : Option (List UInt8) :=
  loopO (fun y => wire_AddNum_v2_B1 y) v0
noncomputable def wire_AddNum_v2 (num : Int) (row : List UInt8) : Option (List UInt8) :=
  wire_AddNum_v2_L1 (row, num)
theorem wire_AddNum_v2_ok (num : Int) (row : List UInt8) (rk : Nat) (rc : Nat) (rn : Bool) (r : List UInt8) (hF : wire_AddNum_v2 num row = some r) : Pe Try.prog 55 ⟨[], [], [(100000, ⟨5, 1, 0, rk, rc, rn, 0, [], (row.map e_u8)⟩)], [], []⟩ [.row 100000 0, .int .i64 num] (.row 100000 2) ⟨[], [], [(100000, ⟨5, 1, 2, rk, rc, rn, 0, [], (r.map e_u8)⟩)], [], []⟩ := by
  refine Pe_of (N := 20) (res := [.tmp 4]) (ts := [23]) Ty.ok Fn.b55 Try.func55 rfl rfl rfl rfl rfl rfl ?_
  intro Q g hfin
  unfold wire_AddNum_v2 at hF
  refine Wk_seq ?_
  refine WR [] [0, 1] [] [100000] [] [] [] ⟨[(0, .row 100000 0), (1, .int .i64 num)], [], [(100000, ⟨5, 1, 0, rk, rc, rn, 0, [], (row.map e_u8)⟩)], [], []⟩ .nil (by kernel_rfl) ?_
  refine Wk_seq ?_
  refine Wk_meetP (fun v : List UInt8 × Int => (⟨[(0, .row 100000 1), (1, .int .i64 v.2)], [], [(100000, ⟨5, 1, 1, rk, rc, rn, 0, [], (v.1.map e_u8)⟩)], [], []⟩ : S)) (fun v => wire_AddNum_v2_J1 v = some r) ?_ ?_
  · refine Wk_block ?_
    unfold wire_AddNum_v2_L1 at hF
    refine Wk_trim (fs := [0, 1]) (bs := []) (rs := [100000]) (ms := []) (aa := []) (nv := [(100000, ⟨1, true, true, false⟩)]) (t := (fun v1 : List UInt8 × Int => (⟨[(0, .row 100000 1), (1, .int .i64 v1.2)], [], [(100000, ⟨5, 1, 1, rk, rc, rn, 0, [], (v1.1.map e_u8)⟩)], [], []⟩ : S)) (row, num)) (by kernel_rfl) ?_
    refine Wk_iter (step := fun y => wire_AddNum_v2_B1 y) (r := r) (fun v1 : List UInt8 × Int => (⟨[(0, .row 100000 1), (1, .int .i64 v1.2)], [], [(100000, ⟨5, 1, 1, rk, rc, rn, 0, [], (v1.1.map e_u8)⟩)], [], []⟩ : S)) (row, num) hF ?_
    intro n1 v1 y1 hF ih1 dn1
    have hF : wire_AddNum_v2_B1 v1 = some y1 := hF
    unfold wire_AddNum_v2_B1 at hF
    refine Wk_seq ?_
    refine Wk_seq ?_
    refine WR [] [0, 1, 6] [] [100000] [] [] [] ⟨[(0, .row 100000 1), (1, .int .i64 v1.2), (6, .bool (decide (127 < v1.2)))], [], [(100000, ⟨5, 1, 1, rk, rc, rn, 0, [], (v1.1.map e_u8)⟩)], [], []⟩ .nil (by kernel_rfl) ?_
    refine Wk_split rfl (fun hb => ?_) (fun hb => ?_)
    · have hF := ite_t hF hb
      refine Wk_skip ?_
      refine Wk_seq ?_
      refine Wk_block ?_
      obtain ⟨h1, hF⟩ := asrt_elim hF
      refine WRL ((v1.1 ++ ([toU8 (((BitVec.ofInt 8 ((toU8 v1.2).toNat : Int) ||| BitVec.ofInt 8 ((128 : UInt8).toNat : Int)).toNat : Int))] : List UInt8))) (fun v2 : List UInt8 => ⟨[(0, .row 100000 2), (1, .int .i64 v1.2)], [], [(100000, ⟨5, 1, 2, rk, rc, rn, 0, [], (v2.map e_u8)⟩)], [], []⟩) [.sealed, .xs ((v1.1 ++ ([toU8 (((BitVec.ofInt 8 ((toU8 v1.2).toNat : Int) ||| BitVec.ofInt 8 ((128 : UInt8).toNat : Int)).toNat : Int))] : List UInt8)).map e_u8)] [0, 1] [] [100000] [] [] [] (.cons (app_ok e_u8 v1.1 ([toU8 (((BitVec.ofInt 8 ((toU8 v1.2).toNat : Int) ||| BitVec.ofInt 8 ((128 : UInt8).toNat : Int)).toNat : Int))] : List UInt8)) (.cons (appl_ok e_u8 h1) .nil)) (by kernel_rfl) (fun v2 hv => ?_)
      have hF := lt_elim hF hv
      refine Wk_blk ?_
      refine WR [] [0, 1] [] [100000] [] [] [] ⟨[(0, .row 100000 2), (1, .int .i64 (Int.fdiv v1.2 (2 ^ (min (7 : Int).toNat 64))))], [], [(100000, ⟨5, 1, 2, rk, rc, rn, 0, [], (v2.map e_u8)⟩)], [], []⟩ (.cons (by decide : (0 : Int) ≤ 7) .nil) (by kernel_rfl) ?_
      refine Wk_trim (fs := [0, 1]) (bs := []) (rs := [100000]) (ms := []) (aa := []) (nv := [(100000, ⟨1, true, true, false⟩)]) ?_ (ih1 _ (some_elim hF).symm)
      kernel_rfl
    · have hF := ite_f hF hb
      refine Wk_exit rfl ?_
      have hF := inrO_done hF dn1
      exact Wk_metP (v1.1, v1.2) [0, 1] [] [100000] [] [] [] hF (by kernel_rfl)
  · intro v hF
    have hF : wire_AddNum_v2_J1 v = some r := hF
    unfold wire_AddNum_v2_J1 at hF
    refine Wk_seq ?_
    obtain ⟨h0, hF⟩ := asrt_elim hF
    refine WR [.sealed, .xs ((v.1 ++ ([toU8 v.2] : List UInt8)).map e_u8)] [4] [] [100000] [] [] [] ⟨[(4, .row 100000 2)], [], [(100000, ⟨5, 1, 2, rk, rc, rn, 0, [], ((v.1 ++ ([toU8 v.2] : List UInt8)).map e_u8)⟩)], [], []⟩ (.cons (app_ok e_u8 v.1 ([toU8 v.2] : List UInt8)) (.cons (appl_ok e_u8 h0) .nil)) (by kernel_rfl) ?_
    have hF := some_elim hF
    exact Wk_ret (hfin _ ⟨[100000], [], [100000], [], [], [], by first | (rw [← hF]; kernel_rfl) | kernel_rfl⟩)

/- wire.Nums -/
noncomputable def wire_Nums_v1_J1 (v : Fault × List UInt8) : Option (List UInt8 × Fault) :=
  some (v.2, (⟨0, 0⟩ : Fault))
noncomputable def wire_Nums_v1_B1 (l : List Int) (v1 : Fault × List UInt8 × Int) : Option ((Fault × List UInt8 × Int) ⊕ (List UInt8 × Fault)) :=
  if (decide (v1.2.2 < (l.length : Int))) = true then
    asrt (0 ≤ v1.2.2 ∧ v1.2.2 < (l.length : Int)) <|
    if ((decide ((lget l v1.2.2) < 0)) || (decide (1000000000 < (lget l v1.2.2)))) = true then
      lt (wire_fault 3 v1.2.2) fun x1 =>
      some (Sum.inr (([] : List UInt8), x1))
    else
      ob (wire_AddNum_v2 (lget l v1.2.2) v1.2.1) fun x2 =>
      some (Sum.inl (v1.1, x2, w64 (v1.2.2 + 1)))
  else
    inrO (wire_Nums_v1_J1 (v1.1, v1.2.1))
noncomputable def wire_Nums_v1_L1 (l : List Int) (v0 : Fault × List UInt8 × Int) : Option (List UInt8 × Fault) :=
  loopO (fun y => wire_Nums_v1_B1 l y) v0
noncomputable def wire_Nums_v1 (l : List Int) : Option (List UInt8 × Fault) :=
  if (decide (1000 < (l.length : Int))) = true then
    lt (wire_fault 2 0) fun x =>
    some (([] : List UInt8), x)
  else
    wire_Nums_v1_L1 l ((⟨0, 0⟩ : Fault), ([] : List UInt8), 0)
theorem wire_Nums_v1_ok (l : List Int) (r : List UInt8 × Fault) (hF : wire_Nums_v1 l = some r) : Pe Try.prog 12 S.none [.sl 1 (l.map e_i64)] (.tup [.sl 1 (r.1.map e_u8), .agg [.int .i64 r.2.Code, .int .i64 r.2.At]]) S.none := by
  refine Pe_of (N := 32) (res := [.tmp 2, .cell 3 26]) (ts := [23, 26]) Ty.ok Fn.b12 Try.func12 rfl rfl rfl rfl rfl rfl ?_
  intro Q g hfin
  unfold wire_Nums_v1 at hF
  refine Wk_seq ?_
  refine WR [] [0, 3] [3] [] [] [] [] ⟨[(0, .sl 1 (l.map e_i64)), (3, .ptr 3 0)], [(3, [.int .i64 0, .int .i64 0])], [], [], []⟩ .nil (by kernel_rfl) ?_
  refine Wk_seq ?_
  refine Wk_seq ?_
  refine WR [.nat (l.length : Int)] [0, 3, 9] [3] [] [] [] [] ⟨[(0, .sl 1 (l.map e_i64)), (3, .ptr 3 0), (9, .bool (decide (1000 < (l.length : Int))))], [(3, [.int .i64 0, .int .i64 0])], [], [], []⟩ (.cons (len_ok e_i64 l) .nil) (by kernel_rfl) ?_
  refine Wk_split rfl (fun hb => ?_) (fun hb => ?_)
  · have hF := ite_t hF hb
    refine Wk_seq ?_
    obtain ⟨x, h0, hF⟩ := lt_split hF
    refine WR [.callB (.agg [.int .i64 x.Code, .int .i64 x.At])] [2, 3] [3] [] [] [] [] ⟨[(2, .nils), (3, .ptr 3 0)], [(3, [.int .i64 x.Code, .int .i64 x.At])], [], [], []⟩ (.cons (wire_fault_ok 2 0 x h0) .nil) (by kernel_rfl) ?_
    have hF := some_elim hF
    exact Wk_ret (hfin _ ⟨[], [], [], [], [], [], by first | (rw [← hF]; kernel_rfl) | kernel_rfl⟩)
  · have hF := ite_f hF hb
    refine Wk_skip ?_
    refine Wk_seq ?_
    refine WR [] [0, 3, 4] [3] [] [] [] [] ⟨[(0, .sl 1 (l.map e_i64)), (3, .ptr 3 0), (4, .nils)], [(3, [.int .i64 0, .int .i64 0])], [], [], []⟩ .nil (by kernel_rfl) ?_
    refine Wk_seq ?_
    refine Wk_seq ?_
    refine WR [.nat (l.length : Int)] [3, 4, 11, 12, 13] [3] [] [] [] [] ⟨[(3, .ptr 3 0), (4, .nils), (11, .sl 1 (l.map e_i64)), (12, .int .i64 (l.length : Int)), (13, .int .i64 0)], [(3, [.int .i64 0, .int .i64 0])], [], [], []⟩ (.cons (len_ok e_i64 l) .nil) (by kernel_rfl) ?_
    refine Wk_meetP (fun v : Fault × List UInt8 => (⟨[(3, .ptr 3 0), (4, .row 28 0)], [(3, [.int .i64 v.1.Code, .int .i64 v.1.At])], [(28, ⟨5, 1, 0, 0, 0, true, 0, [], (v.2.map e_u8)⟩)], [], []⟩ : S)) (fun v => wire_Nums_v1_J1 v = some r) ?_ ?_
    · refine Wk_block ?_
      unfold wire_Nums_v1_L1 at hF
      refine Wk_nilrow 4 60000 5 1 rfl rfl rfl ?_
      refine Wk_trim (fs := [3, 4, 11, 12, 13]) (bs := [3]) (rs := [60000]) (ms := []) (aa := []) (nv := []) rfl ?_
      refine Wk_ren' ⟨[], [(60000, 28)], [], []⟩ rfl ?_
      refine Wk_trim (fs := [3, 4, 11, 12, 13]) (bs := [3]) (rs := [28]) (ms := []) (aa := []) (nv := []) (t := (fun v1 : Fault × List UInt8 × Int => (⟨[(3, .ptr 3 0), (4, .row 28 0), (11, .sl 1 (l.map e_i64)), (12, .int .i64 (l.length : Int)), (13, .int .i64 v1.2.2)], [(3, [.int .i64 v1.1.Code, .int .i64 v1.1.At])], [(28, ⟨5, 1, 0, 0, 0, true, 0, [], (v1.2.1.map e_u8)⟩)], [], []⟩ : S)) ((⟨0, 0⟩ : Fault), ([] : List UInt8), 0)) (by kernel_rfl) ?_
      refine Wk_iter (step := fun y => wire_Nums_v1_B1 l y) (r := r) (fun v1 : Fault × List UInt8 × Int => (⟨[(3, .ptr 3 0), (4, .row 28 0), (11, .sl 1 (l.map e_i64)), (12, .int .i64 (l.length : Int)), (13, .int .i64 v1.2.2)], [(3, [.int .i64 v1.1.Code, .int .i64 v1.1.At])], [(28, ⟨5, 1, 0, 0, 0, true, 0, [], (v1.2.1.map e_u8)⟩)], [], []⟩ : S)) ((⟨0, 0⟩ : Fault), ([] : List UInt8), 0) hF ?_
      intro n1 v1 y1 hF ih1 dn1
      have hF : wire_Nums_v1_B1 l v1 = some y1 := hF
      unfold wire_Nums_v1_B1 at hF
      refine Wk_seq ?_
      refine WR [] [3, 4, 11, 12, 13, 14] [3] [28] [] [] [] ⟨[(3, .ptr 3 0), (4, .row 28 0), (11, .sl 1 (l.map e_i64)), (12, .int .i64 (l.length : Int)), (13, .int .i64 v1.2.2), (14, .bool (decide (v1.2.2 < (l.length : Int))))], [(3, [.int .i64 v1.1.Code, .int .i64 v1.1.At])], [(28, ⟨5, 1, 0, 0, 0, true, 0, [], (v1.2.1.map e_u8)⟩)], [], []⟩ .nil (by kernel_rfl) ?_
      refine Wk_seq ?_
      refine Wk_split rfl (fun hb => ?_) (fun hb => ?_)
      · have hF := ite_t hF hb
        refine Wk_skip ?_
        refine Wk_seq ?_
        refine Wk_block ?_
        refine Wk_seq ?_
        obtain ⟨h1, hF⟩ := asrt_elim hF
        refine WR [.av (e_i64 (lget l v1.2.2))] [3, 4, 5, 6, 11, 12, 13] [3] [28] [] [] [] ⟨[(3, .ptr 3 0), (4, .row 28 0), (5, .int .i64 v1.2.2), (6, .int .i64 (lget l v1.2.2)), (11, .sl 1 (l.map e_i64)), (12, .int .i64 (l.length : Int)), (13, .int .i64 v1.2.2)], [(3, [.int .i64 v1.1.Code, .int .i64 v1.1.At])], [(28, ⟨5, 1, 0, 0, 0, true, 0, [], (v1.2.1.map e_u8)⟩)], [], []⟩ (.cons (idx_ok e_i64 h1) .nil) (by kernel_rfl) ?_
        refine Wk_seq ?_
        refine Wk_seq ?_
        refine WR [] [3, 4, 5, 6, 11, 12, 13, 23] [3] [28] [] [] [] ⟨[(3, .ptr 3 0), (4, .row 28 0), (5, .int .i64 v1.2.2), (6, .int .i64 (lget l v1.2.2)), (11, .sl 1 (l.map e_i64)), (12, .int .i64 (l.length : Int)), (13, .int .i64 v1.2.2), (23, .bool ((decide ((lget l v1.2.2) < 0)) || (decide (1000000000 < (lget l v1.2.2)))))], [(3, [.int .i64 v1.1.Code, .int .i64 v1.1.At])], [(28, ⟨5, 1, 0, 0, 0, true, 0, [], (v1.2.1.map e_u8)⟩)], [], []⟩ .nil (by kernel_rfl) ?_
        refine Wk_split rfl (fun hb => ?_) (fun hb => ?_)
        · have hF := ite_t hF hb
          refine Wk_seq ?_
          obtain ⟨x1, h2, hF⟩ := lt_split hF
          refine WR [.callB (.agg [.int .i64 x1.Code, .int .i64 x1.At])] [2, 3] [3] [] [] [] [] ⟨[(2, .nils), (3, .ptr 3 0)], [(3, [.int .i64 x1.Code, .int .i64 x1.At])], [], [], []⟩ (.cons (wire_fault_ok 3 v1.2.2 x1 h2) .nil) (by kernel_rfl) ?_
          have hF := ret_done hF dn1
          have hF := some_elim hF
          exact Wk_ret (hfin _ ⟨[], [], [], [], [], [], by first | (rw [← hF]; kernel_rfl) | kernel_rfl⟩)
        · have hF := ite_f hF hb
          refine Wk_skip ?_
          obtain ⟨x2, h3, hF⟩ := ob_elim hF
          refine WR [.callE [] [28] [] [] (.row 28 2) ⟨[], [], [(28, ⟨5, 1, 2, 0, 0, true, 0, [], (x2.map e_u8)⟩)], [], []⟩] [3, 4, 11, 12, 13] [3] [28] [] [] [] ⟨[(3, .ptr 3 0), (4, .row 28 2), (11, .sl 1 (l.map e_i64)), (12, .int .i64 (l.length : Int)), (13, .int .i64 v1.2.2)], [(3, [.int .i64 v1.1.Code, .int .i64 v1.1.At])], [(28, ⟨5, 1, 2, 0, 0, true, 0, [], (x2.map e_u8)⟩)], [], []⟩ (.cons (Pe.ren (wire_AddNum_v2_ok (lget l v1.2.2) v1.2.1 0 0 true x2 h3) ⟨[], [(100000, 28)], [], []⟩) .nil) (by kernel_rfl) ?_
          refine Wk_blk ?_
          refine WR [] [3, 4, 11, 12, 13] [3] [28] [] [] [] ⟨[(3, .ptr 3 0), (4, .row 28 2), (11, .sl 1 (l.map e_i64)), (12, .int .i64 (l.length : Int)), (13, .int .i64 (w64 (v1.2.2 + 1)))], [(3, [.int .i64 v1.1.Code, .int .i64 v1.1.At])], [(28, ⟨5, 1, 2, 0, 0, true, 0, [], (x2.map e_u8)⟩)], [], []⟩ .nil (by kernel_rfl) ?_
          refine Wk_trim (fs := [3, 4, 11, 12, 13]) (bs := [3]) (rs := [28]) (ms := []) (aa := []) (nv := [(28, ⟨0, true, true, false⟩)]) ?_ (ih1 _ (some_elim hF).symm)
          kernel_rfl
      · have hF := ite_f hF hb
        refine Wk_exit rfl ?_
        have hF := inrO_done hF dn1
        exact Wk_metP (v1.1, v1.2.1) [3, 4] [3] [28] [] [] [] hF (by kernel_rfl)
    · intro v hF
      have hF : wire_Nums_v1_J1 v = some r := hF
      unfold wire_Nums_v1_J1 at hF
      refine Wk_seq ?_
      refine WR [] [2, 3] [3] [28] [] [] [] ⟨[(2, .row 28 0), (3, .ptr 3 0)], [(3, [.int .i64 0, .int .i64 0])], [(28, ⟨5, 1, 0, 0, 0, true, 0, [], (v.2.map e_u8)⟩)], [], []⟩ .nil (by kernel_rfl) ?_
      have hF := some_elim hF
      exact Wk_ret (hfin _ ⟨[], [], [], [], [], [], by first | (rw [← hF]; kernel_rfl) | kernel_rfl⟩)

/- tabularyref.Same -/
noncomputable def R_Same (a0 : List UInt8) (b : List UInt8) : Bool :=
  decide (a0 = b)
theorem R_Same_ok (a0 : List UInt8) (b : List UInt8) (r : Bool) (hF : R_Same a0 b = r) : Pe Try.prog 26 S.none [.sl 1 (a0.map e_u8), .sl 1 (b.map e_u8)] (.bool r) S.none := by
  refine Pe_of (N := 10) (res := [.tmp 4]) (ts := [4]) Ty.ok Fn.b26 Try.func26 rfl rfl rfl rfl rfl rfl ?_
  intro Q g hfin
  unfold R_Same at hF
  refine Wk_seq ?_
  refine WR [] [0, 1] [] [] [] [] [] ⟨[(0, .sl 1 (a0.map e_u8)), (1, .sl 1 (b.map e_u8))], [], [], [], []⟩ .nil (by kernel_rfl) ?_
  refine Wk_seq ?_
  refine WR [.str a0, .str b] [4] [] [] [] [] [] ⟨[(4, .bool (decide (a0 = b)))], [], [], [], []⟩ (.cons (u8s_ok a0) (.cons (u8s_ok b) .nil)) (by kernel_rfl) ?_
  exact Wk_ret (hfin _ ⟨[], [], [], [], [], [], by first | (rw [← hF]; kernel_rfl) | kernel_rfl⟩)

/- tabularylaw.wireBegun -/
noncomputable def law_wireBegun  : Option Bool :=
  ob (wire_Nums_v1 ([5, 300] : List Int)) fun x =>
  lt (R_Same x.1 ([(5 : UInt8), (172 : UInt8), (2 : UInt8)] : List UInt8)) fun x1 =>
  some ((decide (x.2.Code = 0)) && x1)
theorem law_wireBegun_ok  (r : Bool) (hF : law_wireBegun  = some r) : Pe Try.prog 11 S.none [] (.bool r) S.none := by
  refine Pe_of (N := 16) (res := [.tmp 0]) (ts := [4]) Ty.ok Fn.b11 Try.func11 rfl rfl rfl rfl rfl rfl ?_
  intro Q g hfin
  unfold law_wireBegun at hF
  refine Wk_seq ?_
  refine WR [] [] [] [] [] [] [] ⟨[], [], [], [], []⟩ .nil (by kernel_rfl) ?_
  refine Wk_seq ?_
  obtain ⟨x, h0, hF⟩ := ob_elim hF
  refine WR [.sealed, .call (.tup [.sl 1 (x.1.map e_u8), .agg [.int .i64 x.2.Code, .int .i64 x.2.At]])] [1, 2] [2] [] [] [] [] ⟨[(1, .sl 1 (x.1.map e_u8)), (2, .ptr 2 0)], [(2, [.int .i64 x.2.Code, .int .i64 x.2.At])], [], [], []⟩ (.cons (wire_Nums_v1_ok ([5, 300] : List Int) x h0) .nil) (by kernel_rfl) ?_
  refine Wk_seq ?_
  obtain ⟨x1, h1, hF⟩ := lt_split hF
  refine WR [.sealed, .callB (.bool x1)] [0] [] [] [] [] [] ⟨[(0, .bool ((decide (x.2.Code = 0)) && x1))], [], [], [], []⟩ (.cons (fun (ga0 : (decide (x.2.Code = 0)) = true) => (R_Same_ok x.1 ([(5 : UInt8), (172 : UInt8), (2 : UInt8)] : List UInt8) x1 h1)) .nil) (by kernel_rfl) ?_
  have hF := some_elim hF
  exact Wk_ret (hfin _ ⟨[], [], [], [], [], [], by first | (rw [← hF]; kernel_rfl) | kernel_rfl⟩)

/- tabularylaw.own -/
noncomputable def law_own_v1 (l : List Int) : Option (List Int) :=
  asrt ((l.length : Int) * 8 ≤ 140737488351232) <|
  some l
theorem law_own_v1_ok (l : List Int) (r : List Int) (hF : law_own_v1 l = some r) : Pe Try.prog 13 S.none [.sl 1 (l.map e_i64)] (.sl 1 (r.map e_i64)) S.none := by
  refine Pe_of (N := 5) (res := [.tmp 2]) (ts := [22]) Ty.ok Fn.b13 Try.func13 rfl rfl rfl rfl rfl rfl ?_
  intro Q g hfin
  unfold law_own_v1 at hF
  refine Wk_seq ?_
  refine WR [] [0] [] [] [] [] [] ⟨[(0, .sl 1 (l.map e_i64))], [], [], [], []⟩ .nil (by kernel_rfl) ?_
  refine Wk_seq ?_
  obtain ⟨h0, hF⟩ := asrt_elim hF
  refine WR [.xs (l.map e_i64)] [2] [] [4] [] [] [] ⟨[(2, .row 4 1)], [], [(4, ⟨3, 1, 1, 0, 0, true, 0, [], (l.map e_i64)⟩)], [], []⟩ (.cons (app0_ok e_i64 l) (.cons (appl_ok e_i64 h0) .nil)) (by kernel_rfl) ?_
  have hF := some_elim hF
  exact Wk_ret (hfin _ ⟨[], [], [], [], [], [], by first | (rw [← hF]; kernel_rfl) | kernel_rfl⟩)

/- tabularylaw.ownBytes -/
noncomputable def law_ownBytes (b : List UInt8) : Option (List UInt8) :=
  asrt ((b.length : Int) * 1 ≤ 140737488351232) <|
  some b
theorem law_ownBytes_ok (b : List UInt8) (r : List UInt8) (hF : law_ownBytes b = some r) : Pe Try.prog 15 ⟨[], [], [], [], []⟩ [.sl 1 (b.map e_u8)] (.row 4 1) ⟨[], [], [(4, ⟨5, 1, 1, 0, 0, true, 0, [], (r.map e_u8)⟩)], [], []⟩ := by
  refine Pe_of (N := 5) (res := [.tmp 2]) (ts := [23]) Ty.ok Fn.b15 Try.func15 rfl rfl rfl rfl rfl rfl ?_
  intro Q g hfin
  unfold law_ownBytes at hF
  refine Wk_seq ?_
  refine WR [] [0] [] [] [] [] [] ⟨[(0, .sl 1 (b.map e_u8))], [], [], [], []⟩ .nil (by kernel_rfl) ?_
  refine Wk_seq ?_
  obtain ⟨h0, hF⟩ := asrt_elim hF
  refine WR [.xs (b.map e_u8)] [2] [] [4] [] [] [] ⟨[(2, .row 4 1)], [], [(4, ⟨5, 1, 1, 0, 0, true, 0, [], (b.map e_u8)⟩)], [], []⟩ (.cons (app0_ok e_u8 b) (.cons (appl_ok e_u8 h0) .nil)) (by kernel_rfl) ?_
  have hF := some_elim hF
  exact Wk_ret (hfin _ ⟨[4], [], [4], [], [], [], by first | (rw [← hF]; kernel_rfl) | kernel_rfl⟩)

/- tabularylaw.ownBytes -/
noncomputable def law_ownBytes_v1 (b : List UInt8) : Option (List UInt8) :=
  asrt ((b.length : Int) * 1 ≤ 140737488351232) <|
  some b
theorem law_ownBytes_v1_ok (b : List UInt8) (r : List UInt8) (hF : law_ownBytes_v1 b = some r) : Pe Try.prog 15 S.none [.sl 1 (b.map e_u8)] (.sl 1 (r.map e_u8)) S.none := by
  refine Pe_of (N := 5) (res := [.tmp 2]) (ts := [23]) Ty.ok Fn.b15 Try.func15 rfl rfl rfl rfl rfl rfl ?_
  intro Q g hfin
  unfold law_ownBytes_v1 at hF
  refine Wk_seq ?_
  refine WR [] [0] [] [] [] [] [] ⟨[(0, .sl 1 (b.map e_u8))], [], [], [], []⟩ .nil (by kernel_rfl) ?_
  refine Wk_seq ?_
  obtain ⟨h0, hF⟩ := asrt_elim hF
  refine WR [.xs (b.map e_u8)] [2] [] [4] [] [] [] ⟨[(2, .row 4 1)], [], [(4, ⟨5, 1, 1, 0, 0, true, 0, [], (b.map e_u8)⟩)], [], []⟩ (.cons (app0_ok e_u8 b) (.cons (appl_ok e_u8 h0) .nil)) (by kernel_rfl) ?_
  have hF := some_elim hF
  exact Wk_ret (hfin _ ⟨[], [], [], [], [], [], by first | (rw [← hF]; kernel_rfl) | kernel_rfl⟩)

/- wire.Read -/
noncomputable def wire_Read (b : List UInt8) : Reader :=
  (⟨b, false⟩ : Reader)
theorem wire_Read_ok (b : List UInt8) (r : Reader) (hF : wire_Read b = r) : Pe Try.prog 56 ⟨[], [], [], [], []⟩ [.sl 1 (b.map e_u8)] (.ptr 5 0) ⟨[], [(5, [.sl 1 (r.b.map e_u8), .bool r.bad])], [], [], []⟩ := by
  refine Pe_of (N := 6) (res := [.tmp 2]) (ts := [83]) Ty.ok Fn.b56 Try.func56 rfl rfl rfl rfl rfl rfl ?_
  intro Q g hfin
  unfold wire_Read at hF
  refine Wk_seq ?_
  refine WR [] [0] [] [] [] [] [] ⟨[(0, .sl 1 (b.map e_u8))], [], [], [], []⟩ .nil (by kernel_rfl) ?_
  refine Wk_seq ?_
  refine WR [] [2] [5] [] [] [] [] ⟨[(2, .ptr 5 0)], [(5, [.sl 1 (b.map e_u8), .bool false])], [], [], []⟩ .nil (by kernel_rfl) ?_
  exact Wk_ret (hfin _ ⟨[], [5], [], [], [], [], by first | (rw [← hF]; kernel_rfl) | kernel_rfl⟩)

/- (*wire.Reader).More -/
noncomputable def wire_Reader_More (box : Reader) : Bool :=
  decide (0 < (box.b.length : Int))
theorem wire_Reader_More_ok (box : Reader) (r : Bool) (hF : wire_Reader_More box = r) : Pe Try.prog 57 ⟨[], [(100000, [.sl 1 (box.b.map e_u8), .bool box.bad])], [], [], []⟩ [.ptr 100000 0] (.bool r) ⟨[], [(100000, [.sl 1 (box.b.map e_u8), .bool box.bad])], [], [], []⟩ := by
  refine Pe_of (N := 9) (res := [.tmp 2]) (ts := [4]) Ty.ok Fn.b57 Try.func57 rfl rfl rfl rfl rfl rfl ?_
  intro Q g hfin
  unfold wire_Reader_More at hF
  refine Wk_seq ?_
  refine WR [] [0] [100000] [] [] [] [] ⟨[(0, .ptr 100000 0)], [(100000, [.sl 1 (box.b.map e_u8), .bool box.bad])], [], [], []⟩ .nil (by kernel_rfl) ?_
  refine Wk_seq ?_
  refine WR [.nat (box.b.length : Int)] [2] [100000] [] [] [] [] ⟨[(2, .bool (decide (0 < (box.b.length : Int))))], [(100000, [.sl 1 (box.b.map e_u8), .bool box.bad])], [], [], []⟩ (.cons (len_ok e_u8 box.b) .nil) (by kernel_rfl) ?_
  exact Wk_ret (hfin _ ⟨[], [100000], [], [], [], [], by first | (rw [← hF]; kernel_rfl) | kernel_rfl⟩)

/- (*wire.Reader).Num -/
noncomputable def wire_Reader_Num_J1 (v : Reader) : Option (Int × Reader) :=
  some (0, (⟨([] : List UInt8), true⟩ : Reader))
noncomputable def wire_Reader_Num_B1 (v1 : Reader × Int × List UInt8 × Int × Int) : Option ((Reader × Int × List UInt8 × Int × Int) ⊕ (Int × Reader)) :=
  if (decide (v1.2.2.2.2 < v1.2.2.2.1)) = true then
    asrt (0 ≤ v1.2.2.2.2 ∧ v1.2.2.2.2 < (v1.2.2.1.length : Int)) <|
    asrt (0 ≤ (w64 (7 * v1.2.2.2.2))) <|
    lt (bitsOp .or .i64 v1.2.1 (w64 ((w64 ((toU8 (((BitVec.ofInt 8 ((lget v1.2.2.1 v1.2.2.2.2).toNat : Int) &&& BitVec.ofInt 8 ((127 : UInt8).toNat : Int)).toNat : Int))).toNat : Int)) * 2 ^ (min (w64 (7 * v1.2.2.2.2)).toNat 64)))) fun (v2 : Int) =>
    if ((decide (4 < v1.2.2.2.2)) || (decide (1000000000 < v2))) = true then
      inrO (wire_Reader_Num_J1 v1.1)
    else
      if (decide (((lget v1.2.2.1 v1.2.2.2.2).toNat : Int) < ((128 : UInt8).toNat : Int))) = true then
        if ((decide (0 < v1.2.2.2.2)) && (decide (((lget v1.2.2.1 v1.2.2.2.2).toNat : Int) = ((0 : UInt8).toNat : Int)))) = true then
          inrO (wire_Reader_Num_J1 v1.1)
        else
          asrt (0 ≤ w64 (v1.2.2.2.2 + 1) ∧ w64 (v1.2.2.2.2 + 1) ≤ (v1.1.b.length : Int)) <|
          some (Sum.inr (v2, (⟨(ldrop v1.1.b (w64 (v1.2.2.2.2 + 1))), v1.1.bad⟩ : Reader)))
      else
        some (Sum.inl (v1.1, v2, v1.2.2.1, v1.2.2.2.1, w64 (v1.2.2.2.2 + 1)))
  else
    inrO (wire_Reader_Num_J1 v1.1)
noncomputable def wire_Reader_Num_L1 (v0 : Reader × Int × List UInt8 × Int × Int) : Option (Int × Reader) :=
  loopO (fun y => wire_Reader_Num_B1 y) v0
noncomputable def wire_Reader_Num (box : Reader) : Option (Int × Reader) :=
  wire_Reader_Num_L1 (box, 0, box.b, (box.b.length : Int), 0)
theorem wire_Reader_Num_ok (box : Reader) (r : Int × Reader) (hF : wire_Reader_Num box = some r) : Pe Try.prog 58 ⟨[], [(100000, [.sl 1 (box.b.map e_u8), .bool box.bad])], [], [], []⟩ [.ptr 100000 0] (.int .i64 r.1) ⟨[], [(100000, [.sl 1 (r.2.b.map e_u8), .bool r.2.bad])], [], [], []⟩ := by
  refine Pe_of (N := 56) (res := [.tmp 2]) (ts := [3]) Ty.ok Fn.b58 Try.func58 rfl rfl rfl rfl rfl rfl ?_
  intro Q g hfin
  unfold wire_Reader_Num at hF
  refine Wk_seq ?_
  refine WR [] [0] [100000] [] [] [] [] ⟨[(0, .ptr 100000 0)], [(100000, [.sl 1 (box.b.map e_u8), .bool box.bad])], [], [], []⟩ .nil (by kernel_rfl) ?_
  refine Wk_seq ?_
  refine WR [] [0, 3] [100000] [] [] [] [] ⟨[(0, .ptr 100000 0), (3, .int .i64 0)], [(100000, [.sl 1 (box.b.map e_u8), .bool box.bad])], [], [], []⟩ .nil (by kernel_rfl) ?_
  refine Wk_seq ?_
  refine Wk_seq ?_
  refine WR [.nat (box.b.length : Int)] [0, 3, 9, 10, 11] [100000] [] [] [] [] ⟨[(0, .ptr 100000 0), (3, .int .i64 0), (9, .sl 1 (box.b.map e_u8)), (10, .int .i64 (box.b.length : Int)), (11, .int .i64 0)], [(100000, [.sl 1 (box.b.map e_u8), .bool box.bad])], [], [], []⟩ (.cons (len_ok e_u8 box.b) .nil) (by kernel_rfl) ?_
  refine Wk_meetP (fun v : Reader => (⟨[(0, .ptr 100000 0)], [(100000, [.sl 1 (v.b.map e_u8), .bool v.bad])], [], [], []⟩ : S)) (fun v => wire_Reader_Num_J1 v = some r) ?_ ?_
  · refine Wk_block ?_
    unfold wire_Reader_Num_L1 at hF
    refine Wk_trim (fs := [0, 3, 9, 10, 11]) (bs := [100000]) (rs := []) (ms := []) (aa := []) (nv := []) (t := (fun v1 : Reader × Int × List UInt8 × Int × Int => (⟨[(0, .ptr 100000 0), (3, .int .i64 v1.2.1), (9, .sl 1 (v1.2.2.1.map e_u8)), (10, .int .i64 v1.2.2.2.1), (11, .int .i64 v1.2.2.2.2)], [(100000, [.sl 1 (v1.1.b.map e_u8), .bool v1.1.bad])], [], [], []⟩ : S)) (box, 0, box.b, (box.b.length : Int), 0)) (by kernel_rfl) ?_
    refine Wk_iter (step := fun y => wire_Reader_Num_B1 y) (r := r) (fun v1 : Reader × Int × List UInt8 × Int × Int => (⟨[(0, .ptr 100000 0), (3, .int .i64 v1.2.1), (9, .sl 1 (v1.2.2.1.map e_u8)), (10, .int .i64 v1.2.2.2.1), (11, .int .i64 v1.2.2.2.2)], [(100000, [.sl 1 (v1.1.b.map e_u8), .bool v1.1.bad])], [], [], []⟩ : S)) (box, 0, box.b, (box.b.length : Int), 0) hF ?_
    intro n1 v1 y1 hF ih1 dn1
    have hF : wire_Reader_Num_B1 v1 = some y1 := hF
    unfold wire_Reader_Num_B1 at hF
    refine Wk_seq ?_
    refine WR [] [0, 3, 9, 10, 11, 12] [100000] [] [] [] [] ⟨[(0, .ptr 100000 0), (3, .int .i64 v1.2.1), (9, .sl 1 (v1.2.2.1.map e_u8)), (10, .int .i64 v1.2.2.2.1), (11, .int .i64 v1.2.2.2.2), (12, .bool (decide (v1.2.2.2.2 < v1.2.2.2.1)))], [(100000, [.sl 1 (v1.1.b.map e_u8), .bool v1.1.bad])], [], [], []⟩ .nil (by kernel_rfl) ?_
    refine Wk_seq ?_
    refine Wk_split rfl (fun hb => ?_) (fun hb => ?_)
    · have hF := ite_t hF hb
      refine Wk_skip ?_
      refine Wk_seq ?_
      refine Wk_block ?_
      refine Wk_seq ?_
      obtain ⟨h0, hF⟩ := asrt_elim hF
      refine WR [.av (e_u8 (lget v1.2.2.1 v1.2.2.2.2))] [0, 3, 4, 5, 9, 10, 11] [100000] [] [] [] [] ⟨[(0, .ptr 100000 0), (3, .int .i64 v1.2.1), (4, .int .i64 v1.2.2.2.2), (5, .int .u8 (((lget v1.2.2.1 v1.2.2.2.2)).toNat : Int)), (9, .sl 1 (v1.2.2.1.map e_u8)), (10, .int .i64 v1.2.2.2.1), (11, .int .i64 v1.2.2.2.2)], [(100000, [.sl 1 (v1.1.b.map e_u8), .bool v1.1.bad])], [], [], []⟩ (.cons (idx_ok e_u8 h0) .nil) (by kernel_rfl) ?_
      refine Wk_seq ?_
      refine Wk_seq ?_
      obtain ⟨h1, hF⟩ := asrt_elim hF
      refine WRL (bitsOp .or .i64 v1.2.1 (w64 ((w64 ((toU8 (((BitVec.ofInt 8 ((lget v1.2.2.1 v1.2.2.2.2).toNat : Int) &&& BitVec.ofInt 8 ((127 : UInt8).toNat : Int)).toNat : Int))).toNat : Int)) * 2 ^ (min (w64 (7 * v1.2.2.2.2)).toNat 64)))) (fun v2 : Int => ⟨[(0, .ptr 100000 0), (3, .int .i64 v2), (4, .int .i64 v1.2.2.2.2), (5, .int .u8 (((lget v1.2.2.1 v1.2.2.2.2)).toNat : Int)), (9, .sl 1 (v1.2.2.1.map e_u8)), (10, .int .i64 v1.2.2.2.1), (11, .int .i64 v1.2.2.2.2)], [(100000, [.sl 1 (v1.1.b.map e_u8), .bool v1.1.bad])], [], [], []⟩) [] [0, 3, 4, 5, 9, 10, 11] [100000] [] [] [] [] (.cons h1 .nil) (by kernel_rfl) (fun v2 hv => ?_)
      have hF := lt_elim hF hv
      refine Wk_seq ?_
      refine WR [] [0, 3, 4, 5, 9, 10, 11, 29] [100000] [] [] [] [] ⟨[(0, .ptr 100000 0), (3, .int .i64 v2), (4, .int .i64 v1.2.2.2.2), (5, .int .u8 (((lget v1.2.2.1 v1.2.2.2.2)).toNat : Int)), (9, .sl 1 (v1.2.2.1.map e_u8)), (10, .int .i64 v1.2.2.2.1), (11, .int .i64 v1.2.2.2.2), (29, .bool ((decide (4 < v1.2.2.2.2)) || (decide (1000000000 < v2))))], [(100000, [.sl 1 (v1.1.b.map e_u8), .bool v1.1.bad])], [], [], []⟩ .nil (by kernel_rfl) ?_
      refine Wk_split rfl (fun hb => ?_) (fun hb => ?_)
      · have hF := ite_t hF hb
        refine Wk_exit rfl ?_
        have hF := inrO_done hF dn1
        exact Wk_metP v1.1 [0] [100000] [] [] [] [] hF (by kernel_rfl)
      · have hF := ite_f hF hb
        refine Wk_skip ?_
        refine Wk_seq ?_
        refine WR [] [0, 3, 4, 5, 9, 10, 11, 31] [100000] [] [] [] [] ⟨[(0, .ptr 100000 0), (3, .int .i64 v2), (4, .int .i64 v1.2.2.2.2), (5, .int .u8 (((lget v1.2.2.1 v1.2.2.2.2)).toNat : Int)), (9, .sl 1 (v1.2.2.1.map e_u8)), (10, .int .i64 v1.2.2.2.1), (11, .int .i64 v1.2.2.2.2), (31, .bool (decide (((lget v1.2.2.1 v1.2.2.2.2).toNat : Int) < ((128 : UInt8).toNat : Int))))], [(100000, [.sl 1 (v1.1.b.map e_u8), .bool v1.1.bad])], [], [], []⟩ .nil (by kernel_rfl) ?_
        refine Wk_split rfl (fun hb => ?_) (fun hb => ?_)
        · have hF := ite_t hF hb
          refine Wk_seq ?_
          refine Wk_seq ?_
          refine WR [] [0, 3, 4, 37] [100000] [] [] [] [] ⟨[(0, .ptr 100000 0), (3, .int .i64 v2), (4, .int .i64 v1.2.2.2.2), (37, .bool ((decide (0 < v1.2.2.2.2)) && (decide (((lget v1.2.2.1 v1.2.2.2.2).toNat : Int) = ((0 : UInt8).toNat : Int)))))], [(100000, [.sl 1 (v1.1.b.map e_u8), .bool v1.1.bad])], [], [], []⟩ .nil (by kernel_rfl) ?_
          refine Wk_split rfl (fun hb => ?_) (fun hb => ?_)
          · have hF := ite_t hF hb
            refine Wk_exit rfl ?_
            have hF := inrO_done hF dn1
            exact Wk_metP v1.1 [0] [100000] [] [] [] [] hF (by kernel_rfl)
          · have hF := ite_f hF hb
            refine Wk_skip ?_
            refine Wk_seq ?_
            obtain ⟨h2, hF⟩ := asrt_elim hF
            refine WR [.xs ((ldrop v1.1.b (w64 (v1.2.2.2.2 + 1))).map e_u8)] [3] [100000] [] [] [] [] ⟨[(3, .int .i64 v2)], [(100000, [.sl 1 ((ldrop v1.1.b (w64 (v1.2.2.2.2 + 1))).map e_u8), .bool v1.1.bad])], [], [], []⟩ (.cons (sl10_ok e_u8 h2) .nil) (by kernel_rfl) ?_
            refine Wk_seq ?_
            refine WR [] [2] [100000] [] [] [] [] ⟨[(2, .int .i64 v2)], [(100000, [.sl 1 ((ldrop v1.1.b (w64 (v1.2.2.2.2 + 1))).map e_u8), .bool v1.1.bad])], [], [], []⟩ .nil (by kernel_rfl) ?_
            have hF := ret_done hF dn1
            have hF := some_elim hF
            exact Wk_ret (hfin _ ⟨[], [100000], [], [], [], [], by first | (rw [← hF]; kernel_rfl) | kernel_rfl⟩)
        · have hF := ite_f hF hb
          refine Wk_skip ?_
          refine Wk_blk ?_
          refine WR [] [0, 3, 9, 10, 11] [100000] [] [] [] [] ⟨[(0, .ptr 100000 0), (3, .int .i64 v2), (9, .sl 1 (v1.2.2.1.map e_u8)), (10, .int .i64 v1.2.2.2.1), (11, .int .i64 (w64 (v1.2.2.2.2 + 1)))], [(100000, [.sl 1 (v1.1.b.map e_u8), .bool v1.1.bad])], [], [], []⟩ .nil (by kernel_rfl) ?_
          refine Wk_trim (fs := [0, 3, 9, 10, 11]) (bs := [100000]) (rs := []) (ms := []) (aa := []) (nv := []) ?_ (ih1 _ (some_elim hF).symm)
          kernel_rfl
    · have hF := ite_f hF hb
      refine Wk_exit rfl ?_
      have hF := inrO_done hF dn1
      exact Wk_metP v1.1 [0] [100000] [] [] [] [] hF (by kernel_rfl)
  · intro v hF
    have hF : wire_Reader_Num_J1 v = some r := hF
    unfold wire_Reader_Num_J1 at hF
    refine Wk_seq ?_
    refine WR [] [] [100000] [] [] [] [] ⟨[], [(100000, [.nils, .bool true])], [], [], []⟩ .nil (by kernel_rfl) ?_
    refine Wk_seq ?_
    refine WR [] [2] [100000] [] [] [] [] ⟨[(2, .int .i64 0)], [(100000, [.nils, .bool true])], [], [], []⟩ .nil (by kernel_rfl) ?_
    have hF := some_elim hF
    refine Wk_coeB 100000 [.sl 1 (([] : List UInt8).map e_u8), .bool true] rfl (.cons (CoeS.nils 1) (.cons (CoeS.refl _) .nil)) ?_
    exact Wk_ret (hfin _ ⟨[], [100000], [], [], [], [], by first | (rw [← hF]; kernel_rfl) | kernel_rfl⟩)

/- wire.ReadNums -/
noncomputable def wire_ReadNums_v1_J1 (v : Fault × List Int) : Option (List Int × Fault) :=
  if (decide (1000 < (v.2.length : Int))) = true then
    lt (wire_fault 2 0) fun x2 =>
    some (([] : List Int), x2)
  else
    some (v.2, (⟨0, 0⟩ : Fault))
noncomputable def wire_ReadNums_v1_B1 (v1 : Fault × List Int × Reader) : Option ((Fault × List Int × Reader) ⊕ (List Int × Fault)) :=
  lt (wire_Reader_More v1.2.2) fun x3 =>
  if x3 = true then
    ob (wire_Reader_Num v1.2.2) fun x4 =>
    if x4.2.bad = true then
      lt (wire_fault 5 (v1.2.1.length : Int)) fun x5 =>
      some (Sum.inr (([] : List Int), x5))
    else
      asrt (((v1.2.1 ++ ([x4.1] : List Int)).length : Int) * 8 ≤ 140737488351232) <|
      some (Sum.inl (v1.1, (v1.2.1 ++ ([x4.1] : List Int)), x4.2))
  else
    inrO (wire_ReadNums_v1_J1 (v1.1, v1.2.1))
noncomputable def wire_ReadNums_v1_L1 (v0 : Fault × List Int × Reader) : Option (List Int × Fault) :=
  loopO (fun y => wire_ReadNums_v1_B1 y) v0
noncomputable def wire_ReadNums_v1 (b : List UInt8) : Option (List Int × Fault) :=
  if (decide (60000 < (b.length : Int))) = true then
    lt (wire_fault 8 0) fun x =>
    some (([] : List Int), x)
  else
    lt (wire_Read b) fun x1 =>
    wire_ReadNums_v1_L1 ((⟨0, 0⟩ : Fault), ([] : List Int), x1)
theorem wire_ReadNums_v1_ok (b : List UInt8) (r : List Int × Fault) (hF : wire_ReadNums_v1 b = some r) : Pe Try.prog 14 S.none [.sl 1 (b.map e_u8)] (.tup [.sl 1 (r.1.map e_i64), .agg [.int .i64 r.2.Code, .int .i64 r.2.At]]) S.none := by
  refine Pe_of (N := 34) (res := [.tmp 2, .cell 3 26]) (ts := [22, 26]) Ty.ok Fn.b14 Try.func14 rfl rfl rfl rfl rfl rfl ?_
  intro Q g hfin
  unfold wire_ReadNums_v1 at hF
  refine Wk_seq ?_
  refine WR [] [0, 3] [3] [] [] [] [] ⟨[(0, .sl 1 (b.map e_u8)), (3, .ptr 3 0)], [(3, [.int .i64 0, .int .i64 0])], [], [], []⟩ .nil (by kernel_rfl) ?_
  refine Wk_seq ?_
  refine Wk_seq ?_
  refine WR [.nat (b.length : Int)] [0, 3, 9] [3] [] [] [] [] ⟨[(0, .sl 1 (b.map e_u8)), (3, .ptr 3 0), (9, .bool (decide (60000 < (b.length : Int))))], [(3, [.int .i64 0, .int .i64 0])], [], [], []⟩ (.cons (len_ok e_u8 b) .nil) (by kernel_rfl) ?_
  refine Wk_split rfl (fun hb => ?_) (fun hb => ?_)
  · have hF := ite_t hF hb
    refine Wk_seq ?_
    obtain ⟨x, h0, hF⟩ := lt_split hF
    refine WR [.callB (.agg [.int .i64 x.Code, .int .i64 x.At])] [2, 3] [3] [] [] [] [] ⟨[(2, .nils), (3, .ptr 3 0)], [(3, [.int .i64 x.Code, .int .i64 x.At])], [], [], []⟩ (.cons (wire_fault_ok 8 0 x h0) .nil) (by kernel_rfl) ?_
    have hF := some_elim hF
    exact Wk_ret (hfin _ ⟨[], [], [], [], [], [], by first | (rw [← hF]; kernel_rfl) | kernel_rfl⟩)
  · have hF := ite_f hF hb
    refine Wk_skip ?_
    refine Wk_seq ?_
    refine WR [] [0, 3, 4] [3] [] [] [] [] ⟨[(0, .sl 1 (b.map e_u8)), (3, .ptr 3 0), (4, .nils)], [(3, [.int .i64 0, .int .i64 0])], [], [], []⟩ .nil (by kernel_rfl) ?_
    refine Wk_seq ?_
    refine Wk_seq ?_
    obtain ⟨x1, h1, hF⟩ := lt_split hF
    refine WR [.callE [] [] [] [] (.ptr 12 0) ⟨[], [(12, [.sl 1 (x1.b.map e_u8), .bool x1.bad])], [], [], []⟩] [3, 4, 5] [3, 12] [] [] [] [] ⟨[(3, .ptr 3 0), (4, .nils), (5, .ptr 12 0)], [(3, [.int .i64 0, .int .i64 0]), (12, [.sl 1 (x1.b.map e_u8), .bool x1.bad])], [], [], []⟩ (.cons (Pe.ren (wire_Read_ok b x1 h1) ⟨[(5, 12)], [], [], []⟩) .nil) (by kernel_rfl) ?_
    refine Wk_meetP (fun v : Fault × List Int => (⟨[(3, .ptr 3 0), (4, .row 27 0)], [(3, [.int .i64 v.1.Code, .int .i64 v.1.At])], [(27, ⟨3, 1, 0, 0, 0, true, 0, [], (v.2.map e_i64)⟩)], [], []⟩ : S)) (fun v => wire_ReadNums_v1_J1 v = some r) ?_ ?_
    · refine Wk_block ?_
      unfold wire_ReadNums_v1_L1 at hF
      refine Wk_nilrow 4 60000 3 1 rfl rfl rfl ?_
      refine Wk_trim (fs := [3, 4, 5]) (bs := [3, 12]) (rs := [60000]) (ms := []) (aa := []) (nv := []) rfl ?_
      refine Wk_ren' ⟨[], [(60000, 27)], [], []⟩ rfl ?_
      refine Wk_trim (fs := [3, 4, 5]) (bs := [3, 12]) (rs := [27]) (ms := []) (aa := []) (nv := []) (t := (fun v1 : Fault × List Int × Reader => (⟨[(3, .ptr 3 0), (4, .row 27 0), (5, .ptr 12 0)], [(3, [.int .i64 v1.1.Code, .int .i64 v1.1.At]), (12, [.sl 1 (v1.2.2.b.map e_u8), .bool v1.2.2.bad])], [(27, ⟨3, 1, 0, 0, 0, true, 0, [], (v1.2.1.map e_i64)⟩)], [], []⟩ : S)) ((⟨0, 0⟩ : Fault), ([] : List Int), x1)) (by kernel_rfl) ?_
      refine Wk_iter (step := fun y => wire_ReadNums_v1_B1 y) (r := r) (fun v1 : Fault × List Int × Reader => (⟨[(3, .ptr 3 0), (4, .row 27 0), (5, .ptr 12 0)], [(3, [.int .i64 v1.1.Code, .int .i64 v1.1.At]), (12, [.sl 1 (v1.2.2.b.map e_u8), .bool v1.2.2.bad])], [(27, ⟨3, 1, 0, 0, 0, true, 0, [], (v1.2.1.map e_i64)⟩)], [], []⟩ : S)) ((⟨0, 0⟩ : Fault), ([] : List Int), x1) hF ?_
      intro n1 v1 y1 hF ih1 dn1
      have hF : wire_ReadNums_v1_B1 v1 = some y1 := hF
      unfold wire_ReadNums_v1_B1 at hF
      refine Wk_seq ?_
      refine Wk_seq ?_
      obtain ⟨x3, h3, hF⟩ := lt_split hF
      refine WR [.callR [12] [] [] [] (.bool x3)] [3, 4, 5, 14] [3, 12] [27] [] [] [] ⟨[(3, .ptr 3 0), (4, .row 27 0), (5, .ptr 12 0), (14, .bool x3)], [(3, [.int .i64 v1.1.Code, .int .i64 v1.1.At]), (12, [.sl 1 (v1.2.2.b.map e_u8), .bool v1.2.2.bad])], [(27, ⟨3, 1, 0, 0, 0, true, 0, [], (v1.2.1.map e_i64)⟩)], [], []⟩ (.cons (Pe.ren (wire_Reader_More_ok v1.2.2 x3 h3) ⟨[(100000, 12)], [], [], []⟩) .nil) (by kernel_rfl) ?_
      refine Wk_split rfl (fun hb => ?_) (fun hb => ?_)
      · have hF := ite_t hF hb
        refine Wk_skip ?_
        refine Wk_block ?_
        refine Wk_seq ?_
        obtain ⟨x4, h4, hF⟩ := ob_elim hF
        refine WR [.callE [12] [] [] [] (.int .i64 x4.1) ⟨[], [(12, [.sl 1 (x4.2.b.map e_u8), .bool x4.2.bad])], [], [], []⟩] [3, 4, 5, 6] [3, 12] [27] [] [] [] ⟨[(3, .ptr 3 0), (4, .row 27 0), (5, .ptr 12 0), (6, .int .i64 x4.1)], [(3, [.int .i64 v1.1.Code, .int .i64 v1.1.At]), (12, [.sl 1 (x4.2.b.map e_u8), .bool x4.2.bad])], [(27, ⟨3, 1, 0, 0, 0, true, 0, [], (v1.2.1.map e_i64)⟩)], [], []⟩ (.cons (Pe.ren (wire_Reader_Num_ok v1.2.2 x4 h4) ⟨[(100000, 12)], [], [], []⟩) .nil) (by kernel_rfl) ?_
        refine Wk_seq ?_
        refine Wk_seq ?_
        refine WR [] [3, 4, 5, 6, 20] [3, 12] [27] [] [] [] ⟨[(3, .ptr 3 0), (4, .row 27 0), (5, .ptr 12 0), (6, .int .i64 x4.1), (20, .bool x4.2.bad)], [(3, [.int .i64 v1.1.Code, .int .i64 v1.1.At]), (12, [.sl 1 (x4.2.b.map e_u8), .bool x4.2.bad])], [(27, ⟨3, 1, 0, 0, 0, true, 0, [], (v1.2.1.map e_i64)⟩)], [], []⟩ .nil (by kernel_rfl) ?_
        refine Wk_split rfl (fun hb => ?_) (fun hb => ?_)
        · have hF := ite_t hF hb
          refine Wk_seq ?_
          obtain ⟨x5, h5, hF⟩ := lt_split hF
          refine WR [.nat (v1.2.1.length : Int), .callB (.agg [.int .i64 x5.Code, .int .i64 x5.At])] [2, 3] [3] [] [] [] [] ⟨[(2, .nils), (3, .ptr 3 0)], [(3, [.int .i64 x5.Code, .int .i64 x5.At])], [], [], []⟩ (.cons (len_ok e_i64 v1.2.1) (.cons (wire_fault_ok 5 (v1.2.1.length : Int) x5 h5) .nil)) (by kernel_rfl) ?_
          have hF := ret_done hF dn1
          have hF := some_elim hF
          exact Wk_ret (hfin _ ⟨[], [], [], [], [], [], by first | (rw [← hF]; kernel_rfl) | kernel_rfl⟩)
        · have hF := ite_f hF hb
          refine Wk_skip ?_
          obtain ⟨h6, hF⟩ := asrt_elim hF
          refine WR [.sealed, .xs ((v1.2.1 ++ ([x4.1] : List Int)).map e_i64)] [3, 4, 5] [3, 12] [27] [] [] [] ⟨[(3, .ptr 3 0), (4, .row 27 1), (5, .ptr 12 0)], [(3, [.int .i64 v1.1.Code, .int .i64 v1.1.At]), (12, [.sl 1 (x4.2.b.map e_u8), .bool x4.2.bad])], [(27, ⟨3, 1, 1, 0, 0, true, 0, [], ((v1.2.1 ++ ([x4.1] : List Int)).map e_i64)⟩)], [], []⟩ (.cons (app_ok e_i64 v1.2.1 ([x4.1] : List Int)) (.cons (appl_ok e_i64 h6) .nil)) (by kernel_rfl) ?_
          refine Wk_blk ?_
          refine Wk_trim (fs := [3, 4, 5]) (bs := [3, 12]) (rs := [27]) (ms := []) (aa := []) (nv := [(27, ⟨0, true, true, false⟩)]) ?_ (ih1 _ (some_elim hF).symm)
          kernel_rfl
      · have hF := ite_f hF hb
        refine Wk_exit rfl ?_
        have hF := inrO_done hF dn1
        exact Wk_metP (v1.1, v1.2.1) [3, 4] [3] [27] [] [] [] hF (by kernel_rfl)
    · intro v hF
      have hF : wire_ReadNums_v1_J1 v = some r := hF
      unfold wire_ReadNums_v1_J1 at hF
      refine Wk_seq ?_
      refine Wk_seq ?_
      refine WR [.nat (v.2.length : Int)] [3, 4, 30] [3] [27] [] [] [] ⟨[(3, .ptr 3 0), (4, .row 27 0), (30, .bool (decide (1000 < (v.2.length : Int))))], [(3, [.int .i64 v.1.Code, .int .i64 v.1.At])], [(27, ⟨3, 1, 0, 0, 0, true, 0, [], (v.2.map e_i64)⟩)], [], []⟩ (.cons (len_ok e_i64 v.2) .nil) (by kernel_rfl) ?_
      refine Wk_split rfl (fun hb => ?_) (fun hb => ?_)
      · have hF := ite_t hF hb
        refine Wk_seq ?_
        obtain ⟨x2, h2, hF⟩ := lt_split hF
        refine WR [.callB (.agg [.int .i64 x2.Code, .int .i64 x2.At])] [2, 3] [3] [] [] [] [] ⟨[(2, .nils), (3, .ptr 3 0)], [(3, [.int .i64 x2.Code, .int .i64 x2.At])], [], [], []⟩ (.cons (wire_fault_ok 2 0 x2 h2) .nil) (by kernel_rfl) ?_
        have hF := some_elim hF
        exact Wk_ret (hfin _ ⟨[], [], [], [], [], [], by first | (rw [← hF]; kernel_rfl) | kernel_rfl⟩)
      · have hF := ite_f hF hb
        refine Wk_skip ?_
        refine Wk_seq ?_
        refine WR [] [2, 3] [3] [27] [] [] [] ⟨[(2, .row 27 0), (3, .ptr 3 0)], [(3, [.int .i64 0, .int .i64 0])], [(27, ⟨3, 1, 0, 0, 0, true, 0, [], (v.2.map e_i64)⟩)], [], []⟩ .nil (by kernel_rfl) ?_
        have hF := some_elim hF
        exact Wk_ret (hfin _ ⟨[], [], [], [], [], [], by first | (rw [← hF]; kernel_rfl) | kernel_rfl⟩)

/- tabularyref.F -/
noncomputable def R_F (code : Int) (at0 : Int) : Fault :=
  (⟨code, at0⟩ : Fault)
theorem R_F_ok (code : Int) (at0 : Int) (r : Fault) (hF : R_F code at0 = r) : Pe Try.prog 16 S.none [.int .i64 code, .int .i64 at0] (.agg [.int .i64 r.Code, .int .i64 r.At]) S.none := by
  refine Pe_of (N := 8) (res := [.cell 4 26]) (ts := [26]) Ty.ok Fn.b16 Try.func16 rfl rfl rfl rfl rfl rfl ?_
  intro Q g hfin
  unfold R_F at hF
  refine Wk_seq ?_
  refine WR [] [0, 1, 4] [4] [] [] [] [] ⟨[(0, .int .i64 code), (1, .int .i64 at0), (4, .ptr 4 0)], [(4, [.int .i64 0, .int .i64 0])], [], [], []⟩ .nil (by kernel_rfl) ?_
  refine Wk_seq ?_
  refine WR [] [4] [4] [] [] [] [] ⟨[(4, .ptr 4 0)], [(4, [.int .i64 code, .int .i64 at0])], [], [], []⟩ .nil (by kernel_rfl) ?_
  exact Wk_ret (hfin _ ⟨[], [], [], [], [], [], by first | (rw [← hF]; kernel_rfl) | kernel_rfl⟩)

/- tabularyref.Number -/
noncomputable def R_Number_S (rec : Int → Option (List UInt8)) (num : Int) : Option (List UInt8) :=
  if (decide (num < 128)) = true then
    some ([toU8 num] : List UInt8)
  else
    ob (rec (w64 (Int.tdiv num 128))) fun x =>
    asrt (((([toU8 (w64 ((Int.tmod num 128) + 128))] : List UInt8) ++ x).length : Int) * 1 ≤ 140737488351232) <|
    some (([toU8 (w64 ((Int.tmod num 128) + 128))] : List UInt8) ++ x)
noncomputable def R_Number (num : Int) : Option (List UInt8) := recO (fun rec (x : Int) => R_Number_S rec x) num
theorem R_Number_ok (num : Int) (r : List UInt8) (hF : R_Number num = some r) : Pe Try.prog 19 ⟨[], [], [], [], []⟩ [.int .i64 num] (.row 7 0) ⟨[], [], [(7, ⟨5, 1, 0, 0, 0, true, 0, [], (r.map e_u8)⟩)], [], []⟩ := by
  have key : ∀ (k : Nat) (x : Int) (r : List UInt8), fuelO (fun rec (x : Int) => R_Number_S rec x) k x = some r → Pe Try.prog 19 ⟨[], [], [], [], []⟩ [.int .i64 x] (.row 7 0) ⟨[], [], [(7, ⟨5, 1, 0, 0, 0, true, 0, [], (r.map e_u8)⟩)], [], []⟩ := by
    intro k
    induction k with
    | zero => intro x r hF; cases hF
    | succ k ih =>
      intro x r hF
      have hF : R_Number_S (fuelO (fun rec (x : Int) => R_Number_S rec x) k) x = some r := hF
      generalize fuelO (fun rec (x : Int) => R_Number_S rec x) k = rec at ih hF
      revert hF
      generalize x = num
      intro hF
      refine Pe_of (N := 17) (res := [.tmp 2]) (ts := [23]) Ty.ok Fn.b19 Try.func19 rfl rfl rfl rfl rfl rfl ?_
      intro Q g hfin
      unfold R_Number_S at hF
      refine Wk_seq ?_
      refine WR [] [0] [] [] [] [] [] ⟨[(0, .int .i64 num)], [], [], [], []⟩ .nil (by kernel_rfl) ?_
      refine Wk_seq ?_
      refine Wk_seq ?_
      refine WR [] [0, 4] [] [] [] [] [] ⟨[(0, .int .i64 num), (4, .bool (decide (num < 128)))], [], [], [], []⟩ .nil (by kernel_rfl) ?_
      refine Wk_split rfl (fun hb => ?_) (fun hb => ?_)
      · have hF := ite_t hF hb
        refine Wk_seq ?_
        refine WR [] [2] [] [7] [] [] [] ⟨[(2, .row 7 0)], [], [(7, ⟨5, 1, 0, 0, 0, true, 0, [], (([toU8 num] : List UInt8).map e_u8)⟩)], [], []⟩ .nil (by kernel_rfl) ?_
        have hF := some_elim hF
        exact Wk_ret (hfin _ ⟨[7], [], [7], [], [], [], by first | (rw [← hF]; kernel_rfl) | kernel_rfl⟩)
      · have hF := ite_f hF hb
        refine Wk_skip ?_
        refine Wk_seq ?_
        obtain ⟨x, h0, hF⟩ := ob_elim hF
        obtain ⟨h1, hF⟩ := asrt_elim hF
        refine WR [.callE [] [] [] [] (.row 15 0) ⟨[], [], [(15, ⟨5, 1, 0, 0, 0, true, 0, [], (x.map e_u8)⟩)], [], []⟩, .xs ((([toU8 (w64 ((Int.tmod num 128) + 128))] : List UInt8) ++ x).map e_u8)] [2] [] [12] [] [] [] ⟨[(2, .row 12 1)], [], [(12, ⟨5, 1, 1, 0, 0, true, 0, [], ((([toU8 (w64 ((Int.tmod num 128) + 128))] : List UInt8) ++ x).map e_u8)⟩)], [], []⟩ (.cons (by decide : (128 : Int) ≠ 0) (.cons (by decide : (128 : Int) ≠ 0) (.cons (Pe.ren (ih (w64 (Int.tdiv num 128)) x h0) ⟨[], [(7, 15)], [], []⟩) (.cons (app_ok e_u8 ([toU8 (w64 ((Int.tmod num 128) + 128))] : List UInt8) x) (.cons (appl_ok e_u8 h1) .nil))))) (by kernel_rfl) ?_
        have hF := some_elim hF
        refine Wk_ren' ⟨[], [(12, 7)], [], []⟩ rfl ?_
        exact Wk_ret (hfin _ ⟨[7], [], [7], [], [], [(7, ⟨0, true, true, false⟩)], by first | (rw [← hF]; kernel_rfl) | kernel_rfl⟩)
  obtain ⟨k, hF⟩ := recO_elim hF
  exact key k _ r hF

/- tabularyref.Number -/
noncomputable def R_Number_v1 (num : Int) : Option (List UInt8) :=
  if (decide (num < 128)) = true then
    some ([toU8 num] : List UInt8)
  else
    ob (R_Number (w64 (Int.tdiv num 128))) fun x =>
    asrt (((([toU8 (w64 ((Int.tmod num 128) + 128))] : List UInt8) ++ x).length : Int) * 1 ≤ 140737488351232) <|
    some (([toU8 (w64 ((Int.tmod num 128) + 128))] : List UInt8) ++ x)
theorem R_Number_v1_ok (num : Int) (r : List UInt8) (hF : R_Number_v1 num = some r) : Pe Try.prog 19 S.none [.int .i64 num] (.sl 1 (r.map e_u8)) S.none := by
  refine Pe_of (N := 17) (res := [.tmp 2]) (ts := [23]) Ty.ok Fn.b19 Try.func19 rfl rfl rfl rfl rfl rfl ?_
  intro Q g hfin
  unfold R_Number_v1 at hF
  refine Wk_seq ?_
  refine WR [] [0] [] [] [] [] [] ⟨[(0, .int .i64 num)], [], [], [], []⟩ .nil (by kernel_rfl) ?_
  refine Wk_seq ?_
  refine Wk_seq ?_
  refine WR [] [0, 4] [] [] [] [] [] ⟨[(0, .int .i64 num), (4, .bool (decide (num < 128)))], [], [], [], []⟩ .nil (by kernel_rfl) ?_
  refine Wk_split rfl (fun hb => ?_) (fun hb => ?_)
  · have hF := ite_t hF hb
    refine Wk_seq ?_
    refine WR [] [2] [] [7] [] [] [] ⟨[(2, .row 7 0)], [], [(7, ⟨5, 1, 0, 0, 0, true, 0, [], (([toU8 num] : List UInt8).map e_u8)⟩)], [], []⟩ .nil (by kernel_rfl) ?_
    have hF := some_elim hF
    exact Wk_ret (hfin _ ⟨[], [], [], [], [], [], by first | (rw [← hF]; kernel_rfl) | kernel_rfl⟩)
  · have hF := ite_f hF hb
    refine Wk_skip ?_
    refine Wk_seq ?_
    obtain ⟨x, h0, hF⟩ := ob_elim hF
    obtain ⟨h1, hF⟩ := asrt_elim hF
    refine WR [.callE [] [] [] [] (.row 15 0) ⟨[], [], [(15, ⟨5, 1, 0, 0, 0, true, 0, [], (x.map e_u8)⟩)], [], []⟩, .xs ((([toU8 (w64 ((Int.tmod num 128) + 128))] : List UInt8) ++ x).map e_u8)] [2] [] [12] [] [] [] ⟨[(2, .row 12 1)], [], [(12, ⟨5, 1, 1, 0, 0, true, 0, [], ((([toU8 (w64 ((Int.tmod num 128) + 128))] : List UInt8) ++ x).map e_u8)⟩)], [], []⟩ (.cons (by decide : (128 : Int) ≠ 0) (.cons (by decide : (128 : Int) ≠ 0) (.cons (Pe.ren (R_Number_ok (w64 (Int.tdiv num 128)) x h0) ⟨[], [(7, 15)], [], []⟩) (.cons (app_ok e_u8 ([toU8 (w64 ((Int.tmod num 128) + 128))] : List UInt8) x) (.cons (appl_ok e_u8 h1) .nil))))) (by kernel_rfl) ?_
    have hF := some_elim hF
    exact Wk_ret (hfin _ ⟨[], [], [], [], [], [], by first | (rw [← hF]; kernel_rfl) | kernel_rfl⟩)

/- tabularylaw.WireNums$1 -/
noncomputable def law_WireNums_1_v1_J1 (v : List UInt8) : Option (List UInt8) :=
  some v
noncomputable def law_WireNums_1_v1_B1 (box : List Int) (v1 : List UInt8 × Int) : Option ((List UInt8 × Int) ⊕ (List UInt8)) :=
  if (decide (v1.2 < (box.length : Int))) = true then
    asrt (0 ≤ v1.2 ∧ v1.2 < (box.length : Int)) <|
    ob (R_Number_v1 (lget box v1.2)) fun x =>
    asrt (((v1.1 ++ x).length : Int) * 1 ≤ 140737488351232) <|
    some (Sum.inl ((v1.1 ++ x), w64 (v1.2 + 1)))
  else
    inrO (law_WireNums_1_v1_J1 v1.1)
noncomputable def law_WireNums_1_v1_L1 (box : List Int) (v0 : List UInt8 × Int) : Option (List UInt8) :=
  loopO (fun y => law_WireNums_1_v1_B1 box y) v0
noncomputable def law_WireNums_1_v1 (box : List Int) : Option (List UInt8) :=
  law_WireNums_1_v1_L1 box (([] : List UInt8), 0)
theorem law_WireNums_1_v1_ok (box : List Int) (r : List UInt8) (hF : law_WireNums_1_v1 box = some r) : Pe Try.prog 18 ⟨[], [(100000, [.sl 1 (box.map e_i64)])], [], [], []⟩ [.ptr 100000 0] (.sl 1 (r.map e_u8)) ⟨[], [(100000, [.sl 1 (box.map e_i64)])], [], [], []⟩ := by
  refine Pe_of (N := 18) (res := [.tmp 1]) (ts := [23]) Ty.ok Fn.b18 Try.func18 rfl rfl rfl rfl rfl rfl ?_
  intro Q g hfin
  unfold law_WireNums_1_v1 at hF
  refine Wk_seq ?_
  refine WR [] [0] [100000] [] [] [] [] ⟨[(0, .ptr 100000 0)], [(100000, [.sl 1 (box.map e_i64)])], [], [], []⟩ .nil (by kernel_rfl) ?_
  refine Wk_seq ?_
  refine WR [] [0, 2] [100000] [] [] [] [] ⟨[(0, .ptr 100000 0), (2, .nils)], [(100000, [.sl 1 (box.map e_i64)])], [], [], []⟩ .nil (by kernel_rfl) ?_
  refine Wk_seq ?_
  refine Wk_seq ?_
  refine WR [] [0, 2, 3] [100000] [] [] [] [] ⟨[(0, .ptr 100000 0), (2, .nils), (3, .int .i64 0)], [(100000, [.sl 1 (box.map e_i64)])], [], [], []⟩ .nil (by kernel_rfl) ?_
  refine Wk_meetP (fun v : List UInt8 => (⟨[(2, .row 16 0)], [(100000, [.sl 1 (box.map e_i64)])], [(16, ⟨5, 1, 0, 0, 0, true, 0, [], (v.map e_u8)⟩)], [], []⟩ : S)) (fun v => law_WireNums_1_v1_J1 v = some r) ?_ ?_
  · refine Wk_block ?_
    unfold law_WireNums_1_v1_L1 at hF
    refine Wk_nilrow 2 60000 5 1 rfl rfl rfl ?_
    refine Wk_trim (fs := [0, 2, 3]) (bs := [100000]) (rs := [60000]) (ms := []) (aa := []) (nv := []) rfl ?_
    refine Wk_ren' ⟨[], [(60000, 16)], [], []⟩ rfl ?_
    refine Wk_trim (fs := [0, 2, 3]) (bs := [100000]) (rs := [16]) (ms := []) (aa := []) (nv := []) (t := (fun v1 : List UInt8 × Int => (⟨[(0, .ptr 100000 0), (2, .row 16 0), (3, .int .i64 v1.2)], [(100000, [.sl 1 (box.map e_i64)])], [(16, ⟨5, 1, 0, 0, 0, true, 0, [], (v1.1.map e_u8)⟩)], [], []⟩ : S)) (([] : List UInt8), 0)) (by kernel_rfl) ?_
    refine Wk_iter (step := fun y => law_WireNums_1_v1_B1 box y) (r := r) (fun v1 : List UInt8 × Int => (⟨[(0, .ptr 100000 0), (2, .row 16 0), (3, .int .i64 v1.2)], [(100000, [.sl 1 (box.map e_i64)])], [(16, ⟨5, 1, 0, 0, 0, true, 0, [], (v1.1.map e_u8)⟩)], [], []⟩ : S)) (([] : List UInt8), 0) hF ?_
    intro n1 v1 y1 hF ih1 dn1
    have hF : law_WireNums_1_v1_B1 box v1 = some y1 := hF
    unfold law_WireNums_1_v1_B1 at hF
    refine Wk_seq ?_
    refine Wk_seq ?_
    refine WR [.nat (box.length : Int)] [0, 2, 3, 7] [100000] [16] [] [] [] ⟨[(0, .ptr 100000 0), (2, .row 16 0), (3, .int .i64 v1.2), (7, .bool (decide (v1.2 < (box.length : Int))))], [(100000, [.sl 1 (box.map e_i64)])], [(16, ⟨5, 1, 0, 0, 0, true, 0, [], (v1.1.map e_u8)⟩)], [], []⟩ (.cons (len_ok e_i64 box) .nil) (by kernel_rfl) ?_
    refine Wk_split rfl (fun hb => ?_) (fun hb => ?_)
    · have hF := ite_t hF hb
      refine Wk_skip ?_
      refine Wk_seq ?_
      refine Wk_block ?_
      obtain ⟨h0, hF⟩ := asrt_elim hF
      obtain ⟨x, h1, hF⟩ := ob_elim hF
      obtain ⟨h2, hF⟩ := asrt_elim hF
      refine WR [.av (e_i64 (lget box v1.2)), .call (.sl 1 (x.map e_u8)), .xs ((v1.1 ++ x).map e_u8)] [0, 2, 3] [100000] [16] [] [] [] ⟨[(0, .ptr 100000 0), (2, .row 16 1), (3, .int .i64 v1.2)], [(100000, [.sl 1 (box.map e_i64)])], [(16, ⟨5, 1, 1, 0, 0, true, 0, [], ((v1.1 ++ x).map e_u8)⟩)], [], []⟩ (.cons (idx_ok e_i64 h0) (.cons (R_Number_v1_ok (lget box v1.2) x h1) (.cons (app_ok e_u8 v1.1 x) (.cons (appl_ok e_u8 h2) .nil)))) (by kernel_rfl) ?_
      refine Wk_blk ?_
      refine WR [] [0, 2, 3] [100000] [16] [] [] [] ⟨[(0, .ptr 100000 0), (2, .row 16 1), (3, .int .i64 (w64 (v1.2 + 1)))], [(100000, [.sl 1 (box.map e_i64)])], [(16, ⟨5, 1, 1, 0, 0, true, 0, [], ((v1.1 ++ x).map e_u8)⟩)], [], []⟩ .nil (by kernel_rfl) ?_
      refine Wk_trim (fs := [0, 2, 3]) (bs := [100000]) (rs := [16]) (ms := []) (aa := []) (nv := [(16, ⟨0, true, true, false⟩)]) ?_ (ih1 _ (some_elim hF).symm)
      kernel_rfl
    · have hF := ite_f hF hb
      refine Wk_exit rfl ?_
      have hF := inrO_done hF dn1
      exact Wk_metP v1.1 [2] [100000] [16] [] [] [] hF (by kernel_rfl)
  · intro v hF
    have hF : law_WireNums_1_v1_J1 v = some r := hF
    unfold law_WireNums_1_v1_J1 at hF
    refine Wk_seq ?_
    refine WR [] [1] [100000] [16] [] [] [] ⟨[(1, .row 16 0)], [(100000, [.sl 1 (box.map e_i64)])], [(16, ⟨5, 1, 0, 0, 0, true, 0, [], (v.map e_u8)⟩)], [], []⟩ .nil (by kernel_rfl) ?_
    have hF := some_elim hF
    exact Wk_ret (hfin _ ⟨[], [100000], [], [], [], [], by first | (rw [← hF]; kernel_rfl) | kernel_rfl⟩)

/- tabularylaw.bytesAs -/
noncomputable def law_bytesAs (b : List UInt8) (f : Fault) (w0 : Fault) (box : List Int) : Option Bool :=
  if (!(decide (f.Code = w0.Code) && (decide (f.At = w0.At) && true))) = true then
    some false
  else
    if (!decide (w0.Code = 0)) = true then
      some (decide ((b.length : Int) = 0))
    else
      ob (law_WireNums_1_v1 box) fun x =>
      lt (R_Same b x) fun x1 =>
      some x1
theorem law_bytesAs_ok (b : List UInt8) (f : Fault) (w0 : Fault) (box : List Int) (r : Bool) (hF : law_bytesAs b f w0 box = some r) : Pe Try.prog 17 ⟨[], [(100000, [.sl 1 (box.map e_i64)])], [], [], []⟩ [.sl 1 (b.map e_u8), .agg [.int .i64 f.Code, .int .i64 f.At], .agg [.int .i64 w0.Code, .int .i64 w0.At], .fn 18 [.ptr 100000 0]] (.bool r) ⟨[], [(100000, [.sl 1 (box.map e_i64)])], [], [], []⟩ := by
  refine Pe_of (N := 22) (res := [.tmp 8]) (ts := [4]) Ty.ok Fn.b17 Try.func17 rfl rfl rfl rfl rfl rfl ?_
  intro Q g hfin
  unfold law_bytesAs at hF
  refine Wk_seq ?_
  refine WR [] [0, 3, 5, 6] [5, 6, 100000] [] [] [] [] ⟨[(0, .sl 1 (b.map e_u8)), (3, .fn 18 [.ptr 100000 0]), (5, .ptr 5 0), (6, .ptr 6 0)], [(5, [.int .i64 f.Code, .int .i64 f.At]), (6, [.int .i64 w0.Code, .int .i64 w0.At]), (100000, [.sl 1 (box.map e_i64)])], [], [], []⟩ .nil (by kernel_rfl) ?_
  refine Wk_seq ?_
  refine Wk_seq ?_
  refine WR [] [0, 3, 6, 11] [6, 100000] [] [] [] [] ⟨[(0, .sl 1 (b.map e_u8)), (3, .fn 18 [.ptr 100000 0]), (6, .ptr 6 0), (11, .bool (!(decide (f.Code = w0.Code) && (decide (f.At = w0.At) && true))))], [(6, [.int .i64 w0.Code, .int .i64 w0.At]), (100000, [.sl 1 (box.map e_i64)])], [], [], []⟩ .nil (by kernel_rfl) ?_
  refine Wk_split rfl (fun hb => ?_) (fun hb => ?_)
  · have hF := ite_t hF hb
    refine Wk_seq ?_
    refine WR [] [8] [100000] [] [] [] [] ⟨[(8, .bool false)], [(100000, [.sl 1 (box.map e_i64)])], [], [], []⟩ .nil (by kernel_rfl) ?_
    have hF := some_elim hF
    exact Wk_ret (hfin _ ⟨[], [100000], [], [], [], [], by first | (rw [← hF]; kernel_rfl) | kernel_rfl⟩)
  · have hF := ite_f hF hb
    refine Wk_skip ?_
    refine Wk_seq ?_
    refine Wk_seq ?_
    refine WR [] [0, 3, 14] [100000] [] [] [] [] ⟨[(0, .sl 1 (b.map e_u8)), (3, .fn 18 [.ptr 100000 0]), (14, .bool (!decide (w0.Code = 0)))], [(100000, [.sl 1 (box.map e_i64)])], [], [], []⟩ .nil (by kernel_rfl) ?_
    refine Wk_split rfl (fun hb => ?_) (fun hb => ?_)
    · have hF := ite_t hF hb
      refine Wk_seq ?_
      refine WR [.nat (b.length : Int)] [8] [100000] [] [] [] [] ⟨[(8, .bool (decide ((b.length : Int) = 0)))], [(100000, [.sl 1 (box.map e_i64)])], [], [], []⟩ (.cons (len_ok e_u8 b) .nil) (by kernel_rfl) ?_
      have hF := some_elim hF
      exact Wk_ret (hfin _ ⟨[], [100000], [], [], [], [], by first | (rw [← hF]; kernel_rfl) | kernel_rfl⟩)
    · have hF := ite_f hF hb
      refine Wk_skip ?_
      refine Wk_seq ?_
      obtain ⟨x, h0, hF⟩ := ob_elim hF
      obtain ⟨x1, h1, hF⟩ := lt_split hF
      refine WR [.callR [100000] [] [] [] (.sl 1 (x.map e_u8)), .callB (.bool x1)] [8] [100000] [] [] [] [] ⟨[(8, .bool x1)], [(100000, [.sl 1 (box.map e_i64)])], [], [], []⟩ (.cons (Pe.ren (law_WireNums_1_v1_ok box x h0) ⟨[], [], [], []⟩) (.cons (R_Same_ok b x x1 h1) .nil)) (by kernel_rfl) ?_
      have hF := some_elim hF
      exact Wk_ret (hfin _ ⟨[], [100000], [], [], [], [], by first | (rw [← hF]; kernel_rfl) | kernel_rfl⟩)

/- tabularyref.NumberAt -/
noncomputable def R_NumberAt_J1 (v : Unit) : Option (Int × Int) :=
  some (0, 0)
noncomputable def R_NumberAt_J2 (b : List UInt8) (v1 : Int) (v2 : Int) : Option (Int ⊕ (Int × Int)) :=
  ob (if (decide (v2 ≤ 1000000000)) = true then (R_Number_v1 v2) else some default) fun x =>
  asrt ((decide (v2 ≤ 1000000000)) = true → 0 ≤ v1 ∧ v1 ≤ (b.length : Int)) <|
  lt (R_Same x (ltake b v1)) fun x1 =>
  if ((decide (v2 ≤ 1000000000)) && x1) = true then
    some (Sum.inr (v2, v1))
  else
    some (Sum.inl (w64 (v1 + 1)))
noncomputable def R_NumberAt_B2 (b : List UInt8) (v1 : Int) (v3 : Int × Int) : Option ((Int × Int) ⊕ (Int ⊕ (Int × Int))) :=
  if (decide (0 ≤ v3.2)) = true then
    asrt (0 ≤ v3.2 ∧ v3.2 < (b.length : Int)) <|
    lt (w64 ((w64 (v3.1 * 128)) + (Int.tmod (w64 ((lget b v3.2).toNat : Int)) 128))) fun (v4 : Int) =>
    some (Sum.inl (v4, w64 (v3.2 - 1)))
  else
    inrO (R_NumberAt_J2 b v1 v3.1)
noncomputable def R_NumberAt_L2 (b : List UInt8) (v1 : Int) (v0 : Int × Int) : Option (Int ⊕ (Int × Int)) :=
  loopO (fun y => R_NumberAt_B2 b v1 y) v0
noncomputable def R_NumberAt_B1 (b : List UInt8) (v1 : Int) : Option (Int ⊕ (Int × Int)) :=
  if ((decide (v1 ≤ 5)) && (decide (v1 ≤ (b.length : Int)))) = true then
    R_NumberAt_L2 b v1 (0, w64 (v1 - 1))
  else
    inrO (R_NumberAt_J1 ())
noncomputable def R_NumberAt_L1 (b : List UInt8) (v0 : Int) : Option (Int × Int) :=
  loopO (fun y => R_NumberAt_B1 b y) v0
noncomputable def R_NumberAt (b : List UInt8) : Option (Int × Int) :=
  R_NumberAt_L1 b 1
theorem R_NumberAt_ok (b : List UInt8) (r : Int × Int) (hF : R_NumberAt b = some r) : Pe Try.prog 59 S.none [.sl 1 (b.map e_u8)] (.tup [.int .i64 r.1, .int .i64 r.2]) S.none := by
  refine Pe_of (N := 44) (res := [.tmp 2, .tmp 3]) (ts := [3, 3]) Ty.ok Fn.b59 Try.func59 rfl rfl rfl rfl rfl rfl ?_
  intro Q g hfin
  unfold R_NumberAt at hF
  refine Wk_seq ?_
  refine WR [] [0] [] [] [] [] [] ⟨[(0, .sl 1 (b.map e_u8))], [], [], [], []⟩ .nil (by kernel_rfl) ?_
  refine Wk_seq ?_
  refine Wk_seq ?_
  refine WR [] [0, 4] [] [] [] [] [] ⟨[(0, .sl 1 (b.map e_u8)), (4, .int .i64 1)], [], [], [], []⟩ .nil (by kernel_rfl) ?_
  refine Wk_meetP (fun v : Unit => (⟨[], [], [], [], []⟩ : S)) (fun v => R_NumberAt_J1 v = some r) ?_ ?_
  · refine Wk_block ?_
    unfold R_NumberAt_L1 at hF
    refine Wk_trim (fs := [0, 4]) (bs := []) (rs := []) (ms := []) (aa := []) (nv := []) (t := (fun v1 : Int => (⟨[(0, .sl 1 (b.map e_u8)), (4, .int .i64 v1)], [], [], [], []⟩ : S)) 1) (by kernel_rfl) ?_
    refine Wk_iter (step := fun y => R_NumberAt_B1 b y) (r := r) (fun v1 : Int => (⟨[(0, .sl 1 (b.map e_u8)), (4, .int .i64 v1)], [], [], [], []⟩ : S)) 1 hF ?_
    intro n1 v1 y1 hF ih1 dn1
    have hF : R_NumberAt_B1 b v1 = some y1 := hF
    unfold R_NumberAt_B1 at hF
    refine Wk_seq ?_
    refine Wk_seq ?_
    refine WR [.nat (b.length : Int)] [0, 4, 14] [] [] [] [] [] ⟨[(0, .sl 1 (b.map e_u8)), (4, .int .i64 v1), (14, .bool ((decide (v1 ≤ 5)) && (decide (v1 ≤ (b.length : Int)))))], [], [], [], []⟩ (.cons (fun (_ : (decide (v1 ≤ 5)) = true) => (len_ok e_u8 b)) .nil) (by kernel_rfl) ?_
    refine Wk_split rfl (fun hb => ?_) (fun hb => ?_)
    · have hF := ite_t hF hb
      refine Wk_skip ?_
      refine Wk_seq ?_
      refine Wk_block ?_
      refine Wk_seq ?_
      refine WR [] [0, 4, 5] [] [] [] [] [] ⟨[(0, .sl 1 (b.map e_u8)), (4, .int .i64 v1), (5, .int .i64 0)], [], [], [], []⟩ .nil (by kernel_rfl) ?_
      refine Wk_seq ?_
      refine Wk_seq ?_
      refine WR [] [0, 4, 5, 6] [] [] [] [] [] ⟨[(0, .sl 1 (b.map e_u8)), (4, .int .i64 v1), (5, .int .i64 0), (6, .int .i64 (w64 (v1 - 1)))], [], [], [], []⟩ .nil (by kernel_rfl) ?_
      refine Wk_meetP (fun v2 : Int => (⟨[(0, .sl 1 (b.map e_u8)), (4, .int .i64 v1), (5, .int .i64 v2)], [], [], [], []⟩ : S)) (fun v2 => R_NumberAt_J2 b v1 v2 = some y1) ?_ ?_
      · refine Wk_block ?_
        unfold R_NumberAt_L2 at hF
        refine Wk_trim (fs := [0, 4, 5, 6]) (bs := []) (rs := []) (ms := []) (aa := []) (nv := []) (t := (fun v3 : Int × Int => (⟨[(0, .sl 1 (b.map e_u8)), (4, .int .i64 v1), (5, .int .i64 v3.1), (6, .int .i64 v3.2)], [], [], [], []⟩ : S)) (0, w64 (v1 - 1))) (by kernel_rfl) ?_
        refine Wk_iter (step := fun y => R_NumberAt_B2 b v1 y) (r := y1) (fun v3 : Int × Int => (⟨[(0, .sl 1 (b.map e_u8)), (4, .int .i64 v1), (5, .int .i64 v3.1), (6, .int .i64 v3.2)], [], [], [], []⟩ : S)) (0, w64 (v1 - 1)) hF ?_
        intro n2 v3 y2 hF ih2 dn2
        have hF : R_NumberAt_B2 b v1 v3 = some y2 := hF
        unfold R_NumberAt_B2 at hF
        refine Wk_seq ?_
        refine Wk_seq ?_
        refine WR [] [0, 4, 5, 6, 20] [] [] [] [] [] ⟨[(0, .sl 1 (b.map e_u8)), (4, .int .i64 v1), (5, .int .i64 v3.1), (6, .int .i64 v3.2), (20, .bool (decide (0 ≤ v3.2)))], [], [], [], []⟩ .nil (by kernel_rfl) ?_
        refine Wk_split rfl (fun hb => ?_) (fun hb => ?_)
        · have hF := ite_t hF hb
          refine Wk_skip ?_
          refine Wk_seq ?_
          refine Wk_block ?_
          obtain ⟨h3, hF⟩ := asrt_elim hF
          refine WRL (w64 ((w64 (v3.1 * 128)) + (Int.tmod (w64 ((lget b v3.2).toNat : Int)) 128))) (fun v4 : Int => ⟨[(0, .sl 1 (b.map e_u8)), (4, .int .i64 v1), (5, .int .i64 v4), (6, .int .i64 v3.2)], [], [], [], []⟩) [.av (e_u8 (lget b v3.2))] [0, 4, 5, 6] [] [] [] [] [] (.cons (idx_ok e_u8 h3) (.cons (by decide : (128 : Int) ≠ 0) .nil)) (by kernel_rfl) (fun v4 hv => ?_)
          have hF := lt_elim hF hv
          refine Wk_blk ?_
          refine WR [] [0, 4, 5, 6] [] [] [] [] [] ⟨[(0, .sl 1 (b.map e_u8)), (4, .int .i64 v1), (5, .int .i64 v4), (6, .int .i64 (w64 (v3.2 - 1)))], [], [], [], []⟩ .nil (by kernel_rfl) ?_
          refine Wk_trim (fs := [0, 4, 5, 6]) (bs := []) (rs := []) (ms := []) (aa := []) (nv := []) ?_ (ih2 _ (some_elim hF).symm)
          kernel_rfl
        · have hF := ite_f hF hb
          refine Wk_exit rfl ?_
          have hF := inrO_done hF dn2
          exact Wk_metP v3.1 [0, 4, 5] [] [] [] [] [] hF (by kernel_rfl)
      · intro v2 hF
        have hF : R_NumberAt_J2 b v1 v2 = some y1 := hF
        unfold R_NumberAt_J2 at hF
        refine Wk_seq ?_
        obtain ⟨x, h0, hF⟩ := ob_elim hF
        obtain ⟨h1, hF⟩ := asrt_elim hF
        obtain ⟨x1, h2, hF⟩ := lt_split hF
        refine WD [.call (.sl 1 (x.map e_u8)), .xs ((ltake b v1).map e_u8), .callB (.bool x1)] [0, 4, 5, 41] [] [] [] [] [] ⟨[(0, .sl 1 (b.map e_u8)), (4, .int .i64 v1), (5, .int .i64 v2), (41, .bool ((decide (v2 ≤ 1000000000)) && x1))], [], [], [], []⟩ (.cons (fun (ga0 : (decide (v2 ≤ 1000000000)) = true) => (R_Number_v1_ok v2 x (ite_t h0 ga0))) (.cons (fun (ga0 : (decide (v2 ≤ 1000000000)) = true) => (sl01_ok e_u8 (h1 ga0))) (.cons (fun (ga0 : (decide (v2 ≤ 1000000000)) = true) => (R_Same_ok x (ltake b v1) x1 h2)) .nil))) (by kernel_rfl) ?_
        refine Wk_split rfl (fun hb => ?_) (fun hb => ?_)
        · have hF := ite_t hF hb
          refine Wk_seq ?_
          refine WR [] [2, 3] [] [] [] [] [] ⟨[(2, .int .i64 v2), (3, .int .i64 v1)], [], [], [], []⟩ .nil (by kernel_rfl) ?_
          have hF := ret_done hF dn1
          have hF := some_elim hF
          exact Wk_ret (hfin _ ⟨[], [], [], [], [], [], by first | (rw [← hF]; kernel_rfl) | kernel_rfl⟩)
        · have hF := ite_f hF hb
          refine Wk_skip ?_
          refine Wk_blk ?_
          refine WR [] [0, 4] [] [] [] [] [] ⟨[(0, .sl 1 (b.map e_u8)), (4, .int .i64 (w64 (v1 + 1)))], [], [], [], []⟩ .nil (by kernel_rfl) ?_
          refine Wk_trim (fs := [0, 4]) (bs := []) (rs := []) (ms := []) (aa := []) (nv := []) ?_ (ih1 _ (some_elim hF).symm)
          kernel_rfl
    · have hF := ite_f hF hb
      refine Wk_exit rfl ?_
      have hF := inrO_done hF dn1
      exact Wk_metP () [] [] [] [] [] [] hF (by kernel_rfl)
  · intro v hF
    have hF : R_NumberAt_J1 v = some r := hF
    unfold R_NumberAt_J1 at hF
    refine Wk_seq ?_
    refine WR [] [2, 3] [] [] [] [] [] ⟨[(2, .int .i64 0), (3, .int .i64 0)], [], [], [], []⟩ .nil (by kernel_rfl) ?_
    have hF := some_elim hF
    exact Wk_ret (hfin _ ⟨[], [], [], [], [], [], by first | (rw [← hF]; kernel_rfl) | kernel_rfl⟩)

/- tabularyref.ReadNumbers -/
noncomputable def R_ReadNumbers_v1_J1 (v : List Int) : Option (List Int × Int) :=
  some (v, (-1))
noncomputable def R_ReadNumbers_v1_B1 (v1 : List UInt8 × List Int) : Option ((List UInt8 × List Int) ⊕ (List Int × Int)) :=
  if (decide (0 < (v1.1.length : Int))) = true then
    ob (R_NumberAt v1.1) fun x =>
    if (decide (x.2 = 0)) = true then
      some (Sum.inr (([] : List Int), (v1.2.length : Int)))
    else
      asrt (((v1.2 ++ ([x.1] : List Int)).length : Int) * 8 ≤ 140737488351232) <|
      asrt (0 ≤ x.2 ∧ x.2 ≤ (v1.1.length : Int)) <|
      some (Sum.inl ((ldrop v1.1 x.2), (v1.2 ++ ([x.1] : List Int))))
  else
    inrO (R_ReadNumbers_v1_J1 v1.2)
noncomputable def R_ReadNumbers_v1_L1 (v0 : List UInt8 × List Int) : Option (List Int × Int) :=
  loopO (fun y => R_ReadNumbers_v1_B1 y) v0
noncomputable def R_ReadNumbers_v1 (b : List UInt8) : Option (List Int × Int) :=
  R_ReadNumbers_v1_L1 (b, ([] : List Int))
theorem R_ReadNumbers_v1_ok (b : List UInt8) (r : List Int × Int) (hF : R_ReadNumbers_v1 b = some r) : Pe Try.prog 20 S.none [.sl 1 (b.map e_u8)] (.tup [.sl 1 (r.1.map e_i64), .int .i64 r.2]) S.none := by
  refine Pe_of (N := 27) (res := [.tmp 2, .tmp 3]) (ts := [22, 3]) Ty.ok Fn.b20 Try.func20 rfl rfl rfl rfl rfl rfl ?_
  intro Q g hfin
  unfold R_ReadNumbers_v1 at hF
  refine Wk_seq ?_
  refine WR [] [0] [] [] [] [] [] ⟨[(0, .sl 1 (b.map e_u8))], [], [], [], []⟩ .nil (by kernel_rfl) ?_
  refine Wk_seq ?_
  refine WR [] [0, 4] [] [] [] [] [] ⟨[(0, .sl 1 (b.map e_u8)), (4, .nils)], [], [], [], []⟩ .nil (by kernel_rfl) ?_
  refine Wk_seq ?_
  refine Wk_meetP (fun v : List Int => (⟨[(4, .row 22 0)], [], [(22, ⟨3, 1, 0, 0, 0, true, 0, [], (v.map e_i64)⟩)], [], []⟩ : S)) (fun v => R_ReadNumbers_v1_J1 v = some r) ?_ ?_
  · refine Wk_block ?_
    unfold R_ReadNumbers_v1_L1 at hF
    refine Wk_nilrow 4 60000 3 1 rfl rfl rfl ?_
    refine Wk_trim (fs := [0, 4]) (bs := []) (rs := [60000]) (ms := []) (aa := []) (nv := []) rfl ?_
    refine Wk_ren' ⟨[], [(60000, 22)], [], []⟩ rfl ?_
    refine Wk_trim (fs := [0, 4]) (bs := []) (rs := [22]) (ms := []) (aa := []) (nv := []) (t := (fun v1 : List UInt8 × List Int => (⟨[(0, .sl 1 (v1.1.map e_u8)), (4, .row 22 0)], [], [(22, ⟨3, 1, 0, 0, 0, true, 0, [], (v1.2.map e_i64)⟩)], [], []⟩ : S)) (b, ([] : List Int))) (by kernel_rfl) ?_
    refine Wk_iter (step := fun y => R_ReadNumbers_v1_B1 y) (r := r) (fun v1 : List UInt8 × List Int => (⟨[(0, .sl 1 (v1.1.map e_u8)), (4, .row 22 0)], [], [(22, ⟨3, 1, 0, 0, 0, true, 0, [], (v1.2.map e_i64)⟩)], [], []⟩ : S)) (b, ([] : List Int)) hF ?_
    intro n1 v1 y1 hF ih1 dn1
    have hF : R_ReadNumbers_v1_B1 v1 = some y1 := hF
    unfold R_ReadNumbers_v1_B1 at hF
    refine Wk_seq ?_
    refine Wk_seq ?_
    refine WR [.nat (v1.1.length : Int)] [0, 4, 9] [] [22] [] [] [] ⟨[(0, .sl 1 (v1.1.map e_u8)), (4, .row 22 0), (9, .bool (decide (0 < (v1.1.length : Int))))], [], [(22, ⟨3, 1, 0, 0, 0, true, 0, [], (v1.2.map e_i64)⟩)], [], []⟩ (.cons (len_ok e_u8 v1.1) .nil) (by kernel_rfl) ?_
    refine Wk_split rfl (fun hb => ?_) (fun hb => ?_)
    · have hF := ite_t hF hb
      refine Wk_skip ?_
      refine Wk_block ?_
      refine Wk_seq ?_
      obtain ⟨x, h0, hF⟩ := ob_elim hF
      refine WR [.callB (.tup [.int .i64 x.1, .int .i64 x.2])] [0, 4, 5, 6] [] [22] [] [] [] ⟨[(0, .sl 1 (v1.1.map e_u8)), (4, .row 22 0), (5, .int .i64 x.1), (6, .int .i64 x.2)], [], [(22, ⟨3, 1, 0, 0, 0, true, 0, [], (v1.2.map e_i64)⟩)], [], []⟩ (.cons (R_NumberAt_ok v1.1 x h0) .nil) (by kernel_rfl) ?_
      refine Wk_seq ?_
      refine Wk_seq ?_
      refine WR [] [0, 4, 5, 6, 16] [] [22] [] [] [] ⟨[(0, .sl 1 (v1.1.map e_u8)), (4, .row 22 0), (5, .int .i64 x.1), (6, .int .i64 x.2), (16, .bool (decide (x.2 = 0)))], [], [(22, ⟨3, 1, 0, 0, 0, true, 0, [], (v1.2.map e_i64)⟩)], [], []⟩ .nil (by kernel_rfl) ?_
      refine Wk_split rfl (fun hb => ?_) (fun hb => ?_)
      · have hF := ite_t hF hb
        refine Wk_seq ?_
        refine WR [.nat (v1.2.length : Int)] [2, 3] [] [] [] [] [] ⟨[(2, .nils), (3, .int .i64 (v1.2.length : Int))], [], [], [], []⟩ (.cons (len_ok e_i64 v1.2) .nil) (by kernel_rfl) ?_
        have hF := ret_done hF dn1
        have hF := some_elim hF
        exact Wk_ret (hfin _ ⟨[], [], [], [], [], [], by first | (rw [← hF]; kernel_rfl) | kernel_rfl⟩)
      · have hF := ite_f hF hb
        refine Wk_skip ?_
        refine Wk_seq ?_
        obtain ⟨h1, hF⟩ := asrt_elim hF
        refine WR [.sealed, .xs ((v1.2 ++ ([x.1] : List Int)).map e_i64)] [0, 4, 6] [] [22] [] [] [] ⟨[(0, .sl 1 (v1.1.map e_u8)), (4, .row 22 1), (6, .int .i64 x.2)], [], [(22, ⟨3, 1, 1, 0, 0, true, 0, [], ((v1.2 ++ ([x.1] : List Int)).map e_i64)⟩)], [], []⟩ (.cons (app_ok e_i64 v1.2 ([x.1] : List Int)) (.cons (appl_ok e_i64 h1) .nil)) (by kernel_rfl) ?_
        obtain ⟨h2, hF⟩ := asrt_elim hF
        refine WR [.xs ((ldrop v1.1 x.2).map e_u8)] [0, 4] [] [22] [] [] [] ⟨[(0, .sl 1 ((ldrop v1.1 x.2).map e_u8)), (4, .row 22 1)], [], [(22, ⟨3, 1, 1, 0, 0, true, 0, [], ((v1.2 ++ ([x.1] : List Int)).map e_i64)⟩)], [], []⟩ (.cons (sl10_ok e_u8 h2) .nil) (by kernel_rfl) ?_
        refine Wk_blk ?_
        refine Wk_trim (fs := [0, 4]) (bs := []) (rs := [22]) (ms := []) (aa := []) (nv := [(22, ⟨0, true, true, false⟩)]) ?_ (ih1 _ (some_elim hF).symm)
        kernel_rfl
    · have hF := ite_f hF hb
      refine Wk_exit rfl ?_
      have hF := inrO_done hF dn1
      exact Wk_metP v1.2 [4] [] [22] [] [] [] hF (by kernel_rfl)
  · intro v hF
    have hF : R_ReadNumbers_v1_J1 v = some r := hF
    unfold R_ReadNumbers_v1_J1 at hF
    refine Wk_seq ?_
    refine WR [] [2, 3] [] [22] [] [] [] ⟨[(2, .row 22 0), (3, .int .i64 (-1))], [], [(22, ⟨3, 1, 0, 0, 0, true, 0, [], (v.map e_i64)⟩)], [], []⟩ .nil (by kernel_rfl) ?_
    have hF := some_elim hF
    exact Wk_ret (hfin _ ⟨[], [], [], [], [], [], by first | (rw [← hF]; kernel_rfl) | kernel_rfl⟩)

/- tabularyref.Ints -/
noncomputable def R_Ints_J1 (v : Unit) : Option Bool :=
  some true
noncomputable def R_Ints_B1 (a0 : List Int) (b : List Int) (v1 : Int) : Option (Int ⊕ Bool) :=
  if (decide (v1 < (a0.length : Int))) = true then
    asrt (0 ≤ v1 ∧ v1 < (a0.length : Int)) <|
    asrt (0 ≤ v1 ∧ v1 < (b.length : Int)) <|
    if (!decide ((lget a0 v1) = (lget b v1))) = true then
      some (Sum.inr false)
    else
      some (Sum.inl (w64 (v1 + 1)))
  else
    inrO (R_Ints_J1 ())
noncomputable def R_Ints_L1 (a0 : List Int) (b : List Int) (v0 : Int) : Option Bool :=
  loopO (fun y => R_Ints_B1 a0 b y) v0
noncomputable def R_Ints (a0 : List Int) (b : List Int) : Option Bool :=
  if (!decide ((a0.length : Int) = (b.length : Int))) = true then
    some false
  else
    R_Ints_L1 a0 b 0
theorem R_Ints_ok (a0 : List Int) (b : List Int) (r : Bool) (hF : R_Ints a0 b = some r) : Pe Try.prog 21 S.none [.sl 1 (a0.map e_i64), .sl 1 (b.map e_i64)] (.bool r) S.none := by
  refine Pe_of (N := 26) (res := [.tmp 4]) (ts := [4]) Ty.ok Fn.b21 Try.func21 rfl rfl rfl rfl rfl rfl ?_
  intro Q g hfin
  unfold R_Ints at hF
  refine Wk_seq ?_
  refine WR [] [0, 1] [] [] [] [] [] ⟨[(0, .sl 1 (a0.map e_i64)), (1, .sl 1 (b.map e_i64))], [], [], [], []⟩ .nil (by kernel_rfl) ?_
  refine Wk_seq ?_
  refine Wk_seq ?_
  refine WR [.nat (a0.length : Int), .nat (b.length : Int)] [0, 1, 10] [] [] [] [] [] ⟨[(0, .sl 1 (a0.map e_i64)), (1, .sl 1 (b.map e_i64)), (10, .bool (!decide ((a0.length : Int) = (b.length : Int))))], [], [], [], []⟩ (.cons (len_ok e_i64 a0) (.cons (len_ok e_i64 b) .nil)) (by kernel_rfl) ?_
  refine Wk_split rfl (fun hb => ?_) (fun hb => ?_)
  · have hF := ite_t hF hb
    refine Wk_seq ?_
    refine WR [] [4] [] [] [] [] [] ⟨[(4, .bool false)], [], [], [], []⟩ .nil (by kernel_rfl) ?_
    have hF := some_elim hF
    exact Wk_ret (hfin _ ⟨[], [], [], [], [], [], by first | (rw [← hF]; kernel_rfl) | kernel_rfl⟩)
  · have hF := ite_f hF hb
    refine Wk_skip ?_
    refine Wk_seq ?_
    refine Wk_seq ?_
    refine WR [] [0, 1, 5] [] [] [] [] [] ⟨[(0, .sl 1 (a0.map e_i64)), (1, .sl 1 (b.map e_i64)), (5, .int .i64 0)], [], [], [], []⟩ .nil (by kernel_rfl) ?_
    refine Wk_meetP (fun v : Unit => (⟨[], [], [], [], []⟩ : S)) (fun v => R_Ints_J1 v = some r) ?_ ?_
    · refine Wk_block ?_
      unfold R_Ints_L1 at hF
      refine Wk_trim (fs := [0, 1, 5]) (bs := []) (rs := []) (ms := []) (aa := []) (nv := []) (t := (fun v1 : Int => (⟨[(0, .sl 1 (a0.map e_i64)), (1, .sl 1 (b.map e_i64)), (5, .int .i64 v1)], [], [], [], []⟩ : S)) 0) (by kernel_rfl) ?_
      refine Wk_iter (step := fun y => R_Ints_B1 a0 b y) (r := r) (fun v1 : Int => (⟨[(0, .sl 1 (a0.map e_i64)), (1, .sl 1 (b.map e_i64)), (5, .int .i64 v1)], [], [], [], []⟩ : S)) 0 hF ?_
      intro n1 v1 y1 hF ih1 dn1
      have hF : R_Ints_B1 a0 b v1 = some y1 := hF
      unfold R_Ints_B1 at hF
      refine Wk_seq ?_
      refine Wk_seq ?_
      refine WR [.nat (a0.length : Int)] [0, 1, 5, 14] [] [] [] [] [] ⟨[(0, .sl 1 (a0.map e_i64)), (1, .sl 1 (b.map e_i64)), (5, .int .i64 v1), (14, .bool (decide (v1 < (a0.length : Int))))], [], [], [], []⟩ (.cons (len_ok e_i64 a0) .nil) (by kernel_rfl) ?_
      refine Wk_split rfl (fun hb => ?_) (fun hb => ?_)
      · have hF := ite_t hF hb
        refine Wk_skip ?_
        refine Wk_seq ?_
        refine Wk_block ?_
        refine Wk_seq ?_
        obtain ⟨h0, hF⟩ := asrt_elim hF
        obtain ⟨h1, hF⟩ := asrt_elim hF
        refine WD [.av (e_i64 (lget a0 v1)), .av (e_i64 (lget b v1))] [0, 1, 5, 25] [] [] [] [] [] ⟨[(0, .sl 1 (a0.map e_i64)), (1, .sl 1 (b.map e_i64)), (5, .int .i64 v1), (25, .bool (!decide ((lget a0 v1) = (lget b v1))))], [], [], [], []⟩ (.cons (idx_ok e_i64 h0) (.cons (idx_ok e_i64 h1) .nil)) (by kernel_rfl) ?_
        refine Wk_split rfl (fun hb => ?_) (fun hb => ?_)
        · have hF := ite_t hF hb
          refine Wk_seq ?_
          refine WR [] [4] [] [] [] [] [] ⟨[(4, .bool false)], [], [], [], []⟩ .nil (by kernel_rfl) ?_
          have hF := ret_done hF dn1
          have hF := some_elim hF
          exact Wk_ret (hfin _ ⟨[], [], [], [], [], [], by first | (rw [← hF]; kernel_rfl) | kernel_rfl⟩)
        · have hF := ite_f hF hb
          refine Wk_skip ?_
          refine Wk_blk ?_
          refine WR [] [0, 1, 5] [] [] [] [] [] ⟨[(0, .sl 1 (a0.map e_i64)), (1, .sl 1 (b.map e_i64)), (5, .int .i64 (w64 (v1 + 1)))], [], [], [], []⟩ .nil (by kernel_rfl) ?_
          refine Wk_trim (fs := [0, 1, 5]) (bs := []) (rs := []) (ms := []) (aa := []) (nv := []) ?_ (ih1 _ (some_elim hF).symm)
          kernel_rfl
      · have hF := ite_f hF hb
        refine Wk_exit rfl ?_
        have hF := inrO_done hF dn1
        exact Wk_metP () [] [] [] [] [] [] hF (by kernel_rfl)
    · intro v hF
      have hF : R_Ints_J1 v = some r := hF
      unfold R_Ints_J1 at hF
      refine Wk_seq ?_
      refine WR [] [4] [] [] [] [] [] ⟨[(4, .bool true)], [], [], [], []⟩ .nil (by kernel_rfl) ?_
      have hF := some_elim hF
      exact Wk_ret (hfin _ ⟨[], [], [], [], [], [], by first | (rw [← hF]; kernel_rfl) | kernel_rfl⟩)

/- tabularylaw.WireNums -/
noncomputable def law_WireNums_J1 (l : List Int) (b : List UInt8) (x2 : List UInt8 × Fault) (x4 : List Int × Fault) (v1 : Fault × Fault × Fault) : Option Bool :=
  ob (law_bytesAs x2.1 v1.1 v1.2.2 l) fun x6 =>
  if (!x6) = true then
    some false
  else
    if (decide (60000 < (b.length : Int))) = true then
      lt (R_F 8 0) fun x7 =>
      lt ((decide (v1.2.1.Code = x7.Code) && (decide (v1.2.1.At = x7.At) && true)) && (decide ((x4.1.length : Int) = 0))) fun (v2 : Bool) =>
      some v2
    else
      ob (R_ReadNumbers_v1 b) fun x8 =>
      if (decide (0 ≤ x8.2)) = true then
        lt (R_F 5 x8.2) fun x9 =>
        lt ((decide (v1.2.1.Code = x9.Code) && (decide (v1.2.1.At = x9.At) && true)) && (decide ((x4.1.length : Int) = 0))) fun (v3 : Bool) =>
        some v3
      else
        if (decide (1000 < (x8.1.length : Int))) = true then
          lt (R_F 2 0) fun x10 =>
          lt ((decide (v1.2.1.Code = x10.Code) && (decide (v1.2.1.At = x10.At) && true)) && (decide ((x4.1.length : Int) = 0))) fun (v4 : Bool) =>
          some v4
        else
          ob (if (decide (v1.2.1.Code = 0)) = true then (R_Ints x4.1 x8.1) else some default) fun x11 =>
          some ((decide (v1.2.1.Code = 0)) && x11)
noncomputable def law_WireNums_B1 (l : List Int) (b : List UInt8) (x2 : List UInt8 × Fault) (x4 : List Int × Fault) (v5 : Fault × Fault × Fault × Int) : Option ((Fault × Fault × Fault × Int) ⊕ Bool) :=
  if ((decide (v5.2.2.2 < (l.length : Int))) && (decide (v5.2.2.1.Code = 0))) = true then
    asrt (0 ≤ v5.2.2.2 ∧ v5.2.2.2 < (l.length : Int)) <|
    asrt ((!(decide ((lget l v5.2.2.2) < 0))) = true → 0 ≤ v5.2.2.2 ∧ v5.2.2.2 < (l.length : Int)) <|
    ob (
      if ((decide ((lget l v5.2.2.2) < 0)) || (decide (1000000000 < (lget l v5.2.2.2)))) = true then
        lt (R_F 3 v5.2.2.2) fun x12 =>
        some (v5.1, v5.2.1, x12)
      else
        some (v5.1, v5.2.1, v5.2.2.1)) fun (v6 : Fault × Fault × Fault) =>
    some (Sum.inl (v6.1, v6.2.1, v6.2.2, w64 (v5.2.2.2 + 1)))
  else
    inrO (law_WireNums_J1 l b x2 x4 (v5.1, v5.2.1, v5.2.2.1))
noncomputable def law_WireNums_L1 (l : List Int) (b : List UInt8) (x2 : List UInt8 × Fault) (x4 : List Int × Fault) (v0 : Fault × Fault × Fault × Int) : Option Bool :=
  loopO (fun y => law_WireNums_B1 l b x2 x4 y) v0
noncomputable def law_WireNums (l : List Int) (b : List UInt8) : Option Bool :=
  ob (law_wireBegun) fun x =>
  if (!x) = true then
    some false
  else
    if ((decide (3000 < (l.length : Int))) || (decide (100000 < (b.length : Int)))) = true then
      some true
    else
      ob (law_own_v1 l) fun x1 =>
      ob (wire_Nums_v1 x1) fun x2 =>
      ob (law_ownBytes_v1 b) fun x3 =>
      ob (wire_ReadNums_v1 x3) fun x4 =>
      ob (
        if (decide (1000 < (l.length : Int))) = true then
          lt (R_F 2 0) fun x5 =>
          some (x2.2, x4.2, x5)
        else
          some (x2.2, x4.2, (⟨0, 0⟩ : Fault))) fun (v : Fault × Fault × Fault) =>
      law_WireNums_L1 l b x2 x4 (v.1, v.2.1, v.2.2, 0)
theorem law_WireNums_ok (l : List Int) (b : List UInt8) (r : Bool) (hF : law_WireNums l b = some r) : Pe Try.prog 3 S.none [.sl 1 (l.map e_i64), .sl 1 (b.map e_u8)] (.bool r) S.none := by
  refine Pe_of (N := 117) (res := [.tmp 4]) (ts := [4]) Ty.ok Fn.b3 Try.func3 rfl rfl rfl rfl rfl rfl ?_
  intro Q g hfin
  unfold law_WireNums at hF
  refine Wk_seq ?_
  refine WR [] [1, 2] [2] [] [] [] [] ⟨[(1, .sl 1 (b.map e_u8)), (2, .ptr 2 0)], [(2, [.sl 1 (l.map e_i64)])], [], [], []⟩ .nil (by kernel_rfl) ?_
  refine Wk_seq ?_
  refine Wk_seq ?_
  obtain ⟨x, h0, hF⟩ := ob_elim hF
  refine WR [.callB (.bool x)] [1, 2, 14] [2] [] [] [] [] ⟨[(1, .sl 1 (b.map e_u8)), (2, .ptr 2 0), (14, .bool (!x))], [(2, [.sl 1 (l.map e_i64)])], [], [], []⟩ (.cons (law_wireBegun_ok  x h0) .nil) (by kernel_rfl) ?_
  refine Wk_split rfl (fun hb => ?_) (fun hb => ?_)
  · have hF := ite_t hF hb
    refine Wk_seq ?_
    refine WR [] [4] [] [] [] [] [] ⟨[(4, .bool false)], [], [], [], []⟩ .nil (by kernel_rfl) ?_
    have hF := some_elim hF
    exact Wk_ret (hfin _ ⟨[], [], [], [], [], [], by first | (rw [← hF]; kernel_rfl) | kernel_rfl⟩)
  · have hF := ite_f hF hb
    refine Wk_skip ?_
    refine Wk_seq ?_
    refine Wk_seq ?_
    refine WR [.nat (l.length : Int), .nat (b.length : Int)] [1, 2, 22] [2] [] [] [] [] ⟨[(1, .sl 1 (b.map e_u8)), (2, .ptr 2 0), (22, .bool ((decide (3000 < (l.length : Int))) || (decide (100000 < (b.length : Int)))))], [(2, [.sl 1 (l.map e_i64)])], [], [], []⟩ (.cons (len_ok e_i64 l) (.cons (fun (_ : (!(decide (3000 < (l.length : Int)))) = true) => (len_ok e_u8 b)) .nil)) (by kernel_rfl) ?_
    refine Wk_split rfl (fun hb => ?_) (fun hb => ?_)
    · have hF := ite_t hF hb
      refine Wk_seq ?_
      refine WR [] [4] [] [] [] [] [] ⟨[(4, .bool true)], [], [], [], []⟩ .nil (by kernel_rfl) ?_
      have hF := some_elim hF
      exact Wk_ret (hfin _ ⟨[], [], [], [], [], [], by first | (rw [← hF]; kernel_rfl) | kernel_rfl⟩)
    · have hF := ite_f hF hb
      refine Wk_skip ?_
      refine Wk_seq ?_
      obtain ⟨x1, h1, hF⟩ := ob_elim hF
      obtain ⟨x2, h2, hF⟩ := ob_elim hF
      refine WR [.call (.sl 1 (x1.map e_i64)), .call (.tup [.sl 1 (x2.1.map e_u8), .agg [.int .i64 x2.2.Code, .int .i64 x2.2.At]])] [1, 2, 5, 6] [2, 6] [] [] [] [] ⟨[(1, .sl 1 (b.map e_u8)), (2, .ptr 2 0), (5, .sl 1 (x2.1.map e_u8)), (6, .ptr 6 0)], [(2, [.sl 1 (l.map e_i64)]), (6, [.int .i64 x2.2.Code, .int .i64 x2.2.At])], [], [], []⟩ (.cons (law_own_v1_ok l x1 h1) (.cons (wire_Nums_v1_ok x1 x2 h2) .nil)) (by kernel_rfl) ?_
      refine Wk_seq ?_
      obtain ⟨x3, h3, hF⟩ := ob_elim hF
      obtain ⟨x4, h4, hF⟩ := ob_elim hF
      refine WR [.call (.sl 1 (x3.map e_u8)), .call (.tup [.sl 1 (x4.1.map e_i64), .agg [.int .i64 x4.2.Code, .int .i64 x4.2.At]])] [1, 2, 5, 6, 7, 8] [2, 6, 8] [] [] [] [] ⟨[(1, .sl 1 (b.map e_u8)), (2, .ptr 2 0), (5, .sl 1 (x2.1.map e_u8)), (6, .ptr 6 0), (7, .sl 1 (x4.1.map e_i64)), (8, .ptr 8 0)], [(2, [.sl 1 (l.map e_i64)]), (6, [.int .i64 x2.2.Code, .int .i64 x2.2.At]), (8, [.int .i64 x4.2.Code, .int .i64 x4.2.At])], [], [], []⟩ (.cons (law_ownBytes_v1_ok b x3 h3) (.cons (wire_ReadNums_v1_ok x3 x4 h4) .nil)) (by kernel_rfl) ?_
      refine Wk_seq ?_
      refine WR [] [1, 2, 5, 6, 7, 8, 9] [2, 6, 8, 9] [] [] [] [] ⟨[(1, .sl 1 (b.map e_u8)), (2, .ptr 2 0), (5, .sl 1 (x2.1.map e_u8)), (6, .ptr 6 0), (7, .sl 1 (x4.1.map e_i64)), (8, .ptr 8 0), (9, .ptr 9 0)], [(2, [.sl 1 (l.map e_i64)]), (6, [.int .i64 x2.2.Code, .int .i64 x2.2.At]), (8, [.int .i64 x4.2.Code, .int .i64 x4.2.At]), (9, [.int .i64 0, .int .i64 0])], [], [], []⟩ .nil (by kernel_rfl) ?_
      refine Wk_seq ?_
      refine Wk_seq ?_
      refine WR [.nat (l.length : Int)] [1, 2, 5, 6, 7, 8, 9, 38] [2, 6, 8, 9] [] [] [] [] ⟨[(1, .sl 1 (b.map e_u8)), (2, .ptr 2 0), (5, .sl 1 (x2.1.map e_u8)), (6, .ptr 6 0), (7, .sl 1 (x4.1.map e_i64)), (8, .ptr 8 0), (9, .ptr 9 0), (38, .bool (decide (1000 < (l.length : Int))))], [(2, [.sl 1 (l.map e_i64)]), (6, [.int .i64 x2.2.Code, .int .i64 x2.2.At]), (8, [.int .i64 x4.2.Code, .int .i64 x4.2.At]), (9, [.int .i64 0, .int .i64 0])], [], [], []⟩ (.cons (len_ok e_i64 l) .nil) (by kernel_rfl) ?_
      obtain ⟨v, hv, hF⟩ := ob_elim hF
      refine Wk_meet (⟨[(1, .sl 1 (b.map e_u8)), (2, .ptr 2 0), (5, .sl 1 (x2.1.map e_u8)), (6, .ptr 6 0), (7, .sl 1 (x4.1.map e_i64)), (8, .ptr 8 0), (9, .ptr 9 0)], [(2, [.sl 1 (l.map e_i64)]), (6, [.int .i64 v.1.Code, .int .i64 v.1.At]), (8, [.int .i64 v.2.1.Code, .int .i64 v.2.1.At]), (9, [.int .i64 v.2.2.Code, .int .i64 v.2.2.At])], [], [], []⟩ : S) ?_ ?_
      · have hF := hv
        refine Wk_split rfl (fun hb => ?_) (fun hb => ?_)
        · have hF := ite_t hF hb
          obtain ⟨x5, h5, hF⟩ := lt_split hF
          refine WR [.callB (.agg [.int .i64 x5.Code, .int .i64 x5.At])] [1, 2, 5, 6, 7, 8, 9] [2, 6, 8, 9] [] [] [] [] ⟨[(1, .sl 1 (b.map e_u8)), (2, .ptr 2 0), (5, .sl 1 (x2.1.map e_u8)), (6, .ptr 6 0), (7, .sl 1 (x4.1.map e_i64)), (8, .ptr 8 0), (9, .ptr 9 0)], [(2, [.sl 1 (l.map e_i64)]), (6, [.int .i64 x2.2.Code, .int .i64 x2.2.At]), (8, [.int .i64 x4.2.Code, .int .i64 x4.2.At]), (9, [.int .i64 x5.Code, .int .i64 x5.At])], [], [], []⟩ (.cons (R_F_ok 2 0 x5 h5) .nil) (by kernel_rfl) ?_
          exact Wk_met (fs := [1, 2, 5, 6, 7, 8, 9]) (bs := [2, 6, 8, 9]) (rs := []) (ms := []) (aa := []) (nv := []) (by first | (rw [← some_elim hF]; kernel_rfl) | kernel_rfl)
        · have hF := ite_f hF hb
          refine Wk_skip ?_
          exact Wk_met (fs := [1, 2, 5, 6, 7, 8, 9]) (bs := [2, 6, 8, 9]) (rs := []) (ms := []) (aa := []) (nv := []) (by first | (rw [← some_elim hF]; kernel_rfl) | kernel_rfl)
      · refine Wk_seq ?_
        refine Wk_seq ?_
        refine WR [] [1, 2, 5, 6, 7, 8, 9, 10] [2, 6, 8, 9] [] [] [] [] ⟨[(1, .sl 1 (b.map e_u8)), (2, .ptr 2 0), (5, .sl 1 (x2.1.map e_u8)), (6, .ptr 6 0), (7, .sl 1 (x4.1.map e_i64)), (8, .ptr 8 0), (9, .ptr 9 0), (10, .int .i64 0)], [(2, [.sl 1 (l.map e_i64)]), (6, [.int .i64 v.1.Code, .int .i64 v.1.At]), (8, [.int .i64 v.2.1.Code, .int .i64 v.2.1.At]), (9, [.int .i64 v.2.2.Code, .int .i64 v.2.2.At])], [], [], []⟩ .nil (by kernel_rfl) ?_
        refine Wk_meetP (fun v1 : Fault × Fault × Fault => (⟨[(1, .sl 1 (b.map e_u8)), (2, .ptr 2 0), (5, .sl 1 (x2.1.map e_u8)), (6, .ptr 6 0), (7, .sl 1 (x4.1.map e_i64)), (8, .ptr 8 0), (9, .ptr 9 0)], [(2, [.sl 1 (l.map e_i64)]), (6, [.int .i64 v1.1.Code, .int .i64 v1.1.At]), (8, [.int .i64 v1.2.1.Code, .int .i64 v1.2.1.At]), (9, [.int .i64 v1.2.2.Code, .int .i64 v1.2.2.At])], [], [], []⟩ : S)) (fun v1 => law_WireNums_J1 l b x2 x4 v1 = some r) ?_ ?_
        · refine Wk_block ?_
          unfold law_WireNums_L1 at hF
          refine Wk_trim (fs := [1, 2, 5, 6, 7, 8, 9, 10]) (bs := [2, 6, 8, 9]) (rs := []) (ms := []) (aa := []) (nv := []) (t := (fun v5 : Fault × Fault × Fault × Int => (⟨[(1, .sl 1 (b.map e_u8)), (2, .ptr 2 0), (5, .sl 1 (x2.1.map e_u8)), (6, .ptr 6 0), (7, .sl 1 (x4.1.map e_i64)), (8, .ptr 8 0), (9, .ptr 9 0), (10, .int .i64 v5.2.2.2)], [(2, [.sl 1 (l.map e_i64)]), (6, [.int .i64 v5.1.Code, .int .i64 v5.1.At]), (8, [.int .i64 v5.2.1.Code, .int .i64 v5.2.1.At]), (9, [.int .i64 v5.2.2.1.Code, .int .i64 v5.2.2.1.At])], [], [], []⟩ : S)) (v.1, v.2.1, v.2.2, 0)) (by kernel_rfl) ?_
          refine Wk_iter (step := fun y => law_WireNums_B1 l b x2 x4 y) (r := r) (fun v5 : Fault × Fault × Fault × Int => (⟨[(1, .sl 1 (b.map e_u8)), (2, .ptr 2 0), (5, .sl 1 (x2.1.map e_u8)), (6, .ptr 6 0), (7, .sl 1 (x4.1.map e_i64)), (8, .ptr 8 0), (9, .ptr 9 0), (10, .int .i64 v5.2.2.2)], [(2, [.sl 1 (l.map e_i64)]), (6, [.int .i64 v5.1.Code, .int .i64 v5.1.At]), (8, [.int .i64 v5.2.1.Code, .int .i64 v5.2.1.At]), (9, [.int .i64 v5.2.2.1.Code, .int .i64 v5.2.2.1.At])], [], [], []⟩ : S)) (v.1, v.2.1, v.2.2, 0) hF ?_
          intro n1 v5 y1 hF ih1 dn1
          have hF : law_WireNums_B1 l b x2 x4 v5 = some y1 := hF
          unfold law_WireNums_B1 at hF
          refine Wk_seq ?_
          refine Wk_seq ?_
          refine WR [.nat (l.length : Int)] [1, 2, 5, 6, 7, 8, 9, 10, 48] [2, 6, 8, 9] [] [] [] [] ⟨[(1, .sl 1 (b.map e_u8)), (2, .ptr 2 0), (5, .sl 1 (x2.1.map e_u8)), (6, .ptr 6 0), (7, .sl 1 (x4.1.map e_i64)), (8, .ptr 8 0), (9, .ptr 9 0), (10, .int .i64 v5.2.2.2), (48, .bool ((decide (v5.2.2.2 < (l.length : Int))) && (decide (v5.2.2.1.Code = 0))))], [(2, [.sl 1 (l.map e_i64)]), (6, [.int .i64 v5.1.Code, .int .i64 v5.1.At]), (8, [.int .i64 v5.2.1.Code, .int .i64 v5.2.1.At]), (9, [.int .i64 v5.2.2.1.Code, .int .i64 v5.2.2.1.At])], [], [], []⟩ (.cons (len_ok e_i64 l) .nil) (by kernel_rfl) ?_
          refine Wk_split rfl (fun hb => ?_) (fun hb => ?_)
          · have hF := ite_t hF hb
            refine Wk_skip ?_
            refine Wk_seq ?_
            refine Wk_block ?_
            refine Wk_seq ?_
            obtain ⟨h12, hF⟩ := asrt_elim hF
            obtain ⟨h13, hF⟩ := asrt_elim hF
            refine WR [.av (e_i64 (lget l v5.2.2.2)), .av (e_i64 (lget l v5.2.2.2))] [1, 2, 5, 6, 7, 8, 9, 10, 62] [2, 6, 8, 9] [] [] [] [] ⟨[(1, .sl 1 (b.map e_u8)), (2, .ptr 2 0), (5, .sl 1 (x2.1.map e_u8)), (6, .ptr 6 0), (7, .sl 1 (x4.1.map e_i64)), (8, .ptr 8 0), (9, .ptr 9 0), (10, .int .i64 v5.2.2.2), (62, .bool ((decide ((lget l v5.2.2.2) < 0)) || (decide (1000000000 < (lget l v5.2.2.2)))))], [(2, [.sl 1 (l.map e_i64)]), (6, [.int .i64 v5.1.Code, .int .i64 v5.1.At]), (8, [.int .i64 v5.2.1.Code, .int .i64 v5.2.1.At]), (9, [.int .i64 v5.2.2.1.Code, .int .i64 v5.2.2.1.At])], [], [], []⟩ (.cons (idx_ok e_i64 h12) (.cons (fun (ga0 : (!(decide ((lget l v5.2.2.2) < 0))) = true) => (idx_ok e_i64 (h13 ga0))) .nil)) (by kernel_rfl) ?_
            obtain ⟨v6, hv, hF⟩ := ob_elim hF
            refine Wk_meet (⟨[(1, .sl 1 (b.map e_u8)), (2, .ptr 2 0), (5, .sl 1 (x2.1.map e_u8)), (6, .ptr 6 0), (7, .sl 1 (x4.1.map e_i64)), (8, .ptr 8 0), (9, .ptr 9 0), (10, .int .i64 v5.2.2.2)], [(2, [.sl 1 (l.map e_i64)]), (6, [.int .i64 v6.1.Code, .int .i64 v6.1.At]), (8, [.int .i64 v6.2.1.Code, .int .i64 v6.2.1.At]), (9, [.int .i64 v6.2.2.Code, .int .i64 v6.2.2.At])], [], [], []⟩ : S) ?_ ?_
            · have hF := hv
              refine Wk_split rfl (fun hb => ?_) (fun hb => ?_)
              · have hF := ite_t hF hb
                obtain ⟨x12, h14, hF⟩ := lt_split hF
                refine WR [.callB (.agg [.int .i64 x12.Code, .int .i64 x12.At])] [1, 2, 5, 6, 7, 8, 9, 10] [2, 6, 8, 9] [] [] [] [] ⟨[(1, .sl 1 (b.map e_u8)), (2, .ptr 2 0), (5, .sl 1 (x2.1.map e_u8)), (6, .ptr 6 0), (7, .sl 1 (x4.1.map e_i64)), (8, .ptr 8 0), (9, .ptr 9 0), (10, .int .i64 v5.2.2.2)], [(2, [.sl 1 (l.map e_i64)]), (6, [.int .i64 v5.1.Code, .int .i64 v5.1.At]), (8, [.int .i64 v5.2.1.Code, .int .i64 v5.2.1.At]), (9, [.int .i64 x12.Code, .int .i64 x12.At])], [], [], []⟩ (.cons (R_F_ok 3 v5.2.2.2 x12 h14) .nil) (by kernel_rfl) ?_
                exact Wk_met (fs := [1, 2, 5, 6, 7, 8, 9, 10]) (bs := [2, 6, 8, 9]) (rs := []) (ms := []) (aa := []) (nv := []) (by first | (rw [← some_elim hF]; kernel_rfl) | kernel_rfl)
              · have hF := ite_f hF hb
                refine Wk_skip ?_
                exact Wk_met (fs := [1, 2, 5, 6, 7, 8, 9, 10]) (bs := [2, 6, 8, 9]) (rs := []) (ms := []) (aa := []) (nv := []) (by first | (rw [← some_elim hF]; kernel_rfl) | kernel_rfl)
            · refine Wk_blk ?_
              refine WR [] [1, 2, 5, 6, 7, 8, 9, 10] [2, 6, 8, 9] [] [] [] [] ⟨[(1, .sl 1 (b.map e_u8)), (2, .ptr 2 0), (5, .sl 1 (x2.1.map e_u8)), (6, .ptr 6 0), (7, .sl 1 (x4.1.map e_i64)), (8, .ptr 8 0), (9, .ptr 9 0), (10, .int .i64 (w64 (v5.2.2.2 + 1)))], [(2, [.sl 1 (l.map e_i64)]), (6, [.int .i64 v6.1.Code, .int .i64 v6.1.At]), (8, [.int .i64 v6.2.1.Code, .int .i64 v6.2.1.At]), (9, [.int .i64 v6.2.2.Code, .int .i64 v6.2.2.At])], [], [], []⟩ .nil (by kernel_rfl) ?_
              refine Wk_trim (fs := [1, 2, 5, 6, 7, 8, 9, 10]) (bs := [2, 6, 8, 9]) (rs := []) (ms := []) (aa := []) (nv := []) ?_ (ih1 _ (some_elim hF).symm)
              kernel_rfl
          · have hF := ite_f hF hb
            refine Wk_exit rfl ?_
            have hF := inrO_done hF dn1
            exact Wk_metP (v5.1, v5.2.1, v5.2.2.1) [1, 2, 5, 6, 7, 8, 9] [2, 6, 8, 9] [] [] [] [] hF (by kernel_rfl)
        · intro v1 hF
          have hF : law_WireNums_J1 l b x2 x4 v1 = some r := hF
          unfold law_WireNums_J1 at hF
          refine Wk_seq ?_
          refine Wk_seq ?_
          obtain ⟨x6, h6, hF⟩ := ob_elim hF
          refine WR [.callR [2] [] [] [] (.bool x6)] [1, 7, 8, 70] [8] [] [] [] [] ⟨[(1, .sl 1 (b.map e_u8)), (7, .sl 1 (x4.1.map e_i64)), (8, .ptr 8 0), (70, .bool (!x6))], [(8, [.int .i64 v1.2.1.Code, .int .i64 v1.2.1.At])], [], [], []⟩ (.cons (Pe.ren (law_bytesAs_ok x2.1 v1.1 v1.2.2 l x6 h6) ⟨[(100000, 2)], [], [], []⟩) .nil) (by kernel_rfl) ?_
          refine Wk_split rfl (fun hb => ?_) (fun hb => ?_)
          · have hF := ite_t hF hb
            refine Wk_seq ?_
            refine WR [] [4] [] [] [] [] [] ⟨[(4, .bool false)], [], [], [], []⟩ .nil (by kernel_rfl) ?_
            have hF := some_elim hF
            exact Wk_ret (hfin _ ⟨[], [], [], [], [], [], by first | (rw [← hF]; kernel_rfl) | kernel_rfl⟩)
          · have hF := ite_f hF hb
            refine Wk_skip ?_
            refine Wk_seq ?_
            refine Wk_seq ?_
            refine WR [.nat (b.length : Int)] [1, 7, 8, 73] [8] [] [] [] [] ⟨[(1, .sl 1 (b.map e_u8)), (7, .sl 1 (x4.1.map e_i64)), (8, .ptr 8 0), (73, .bool (decide (60000 < (b.length : Int))))], [(8, [.int .i64 v1.2.1.Code, .int .i64 v1.2.1.At])], [], [], []⟩ (.cons (len_ok e_u8 b) .nil) (by kernel_rfl) ?_
            refine Wk_split rfl (fun hb => ?_) (fun hb => ?_)
            · have hF := ite_t hF hb
              refine Wk_seq ?_
              obtain ⟨x7, h7, hF⟩ := lt_split hF
              refine WDL ((decide (v1.2.1.Code = x7.Code) && (decide (v1.2.1.At = x7.At) && true)) && (decide ((x4.1.length : Int) = 0))) (fun v2 : Bool => ⟨[(4, .bool v2)], [], [], [], []⟩) [.callB (.agg [.int .i64 x7.Code, .int .i64 x7.At]), .nat (x4.1.length : Int)] [4] [] [] [] [] [] (.cons (R_F_ok 8 0 x7 h7) (.cons (fun (_ : (decide (v1.2.1.Code = x7.Code) && (decide (v1.2.1.At = x7.At) && true)) = true) => (len_ok e_i64 x4.1)) .nil)) (by kernel_rfl) (fun v2 hv => ?_)
              have hF := lt_elim hF hv
              have hF := some_elim hF
              exact Wk_ret (hfin _ ⟨[], [], [], [], [], [], by first | (rw [← hF]; kernel_rfl) | kernel_rfl⟩)
            · have hF := ite_f hF hb
              refine Wk_skip ?_
              refine Wk_seq ?_
              obtain ⟨x8, h8, hF⟩ := ob_elim hF
              refine WR [.call (.tup [.sl 1 (x8.1.map e_i64), .int .i64 x8.2])] [7, 8, 11, 12] [8] [] [] [] [] ⟨[(7, .sl 1 (x4.1.map e_i64)), (8, .ptr 8 0), (11, .sl 1 (x8.1.map e_i64)), (12, .int .i64 x8.2)], [(8, [.int .i64 v1.2.1.Code, .int .i64 v1.2.1.At])], [], [], []⟩ (.cons (R_ReadNumbers_v1_ok b x8 h8) .nil) (by kernel_rfl) ?_
              refine Wk_seq ?_
              refine Wk_seq ?_
              refine WR [] [7, 8, 11, 12, 88] [8] [] [] [] [] ⟨[(7, .sl 1 (x4.1.map e_i64)), (8, .ptr 8 0), (11, .sl 1 (x8.1.map e_i64)), (12, .int .i64 x8.2), (88, .bool (decide (0 ≤ x8.2)))], [(8, [.int .i64 v1.2.1.Code, .int .i64 v1.2.1.At])], [], [], []⟩ .nil (by kernel_rfl) ?_
              refine Wk_split rfl (fun hb => ?_) (fun hb => ?_)
              · have hF := ite_t hF hb
                refine Wk_seq ?_
                obtain ⟨x9, h9, hF⟩ := lt_split hF
                refine WDL ((decide (v1.2.1.Code = x9.Code) && (decide (v1.2.1.At = x9.At) && true)) && (decide ((x4.1.length : Int) = 0))) (fun v3 : Bool => ⟨[(4, .bool v3)], [], [], [], []⟩) [.callB (.agg [.int .i64 x9.Code, .int .i64 x9.At]), .nat (x4.1.length : Int)] [4] [] [] [] [] [] (.cons (R_F_ok 5 x8.2 x9 h9) (.cons (fun (_ : (decide (v1.2.1.Code = x9.Code) && (decide (v1.2.1.At = x9.At) && true)) = true) => (len_ok e_i64 x4.1)) .nil)) (by kernel_rfl) (fun v3 hv => ?_)
                have hF := lt_elim hF hv
                have hF := some_elim hF
                exact Wk_ret (hfin _ ⟨[], [], [], [], [], [], by first | (rw [← hF]; kernel_rfl) | kernel_rfl⟩)
              · have hF := ite_f hF hb
                refine Wk_skip ?_
                refine Wk_seq ?_
                refine Wk_seq ?_
                refine WR [.nat (x8.1.length : Int)] [7, 8, 11, 100] [8] [] [] [] [] ⟨[(7, .sl 1 (x4.1.map e_i64)), (8, .ptr 8 0), (11, .sl 1 (x8.1.map e_i64)), (100, .bool (decide (1000 < (x8.1.length : Int))))], [(8, [.int .i64 v1.2.1.Code, .int .i64 v1.2.1.At])], [], [], []⟩ (.cons (len_ok e_i64 x8.1) .nil) (by kernel_rfl) ?_
                refine Wk_split rfl (fun hb => ?_) (fun hb => ?_)
                · have hF := ite_t hF hb
                  refine Wk_seq ?_
                  obtain ⟨x10, h10, hF⟩ := lt_split hF
                  refine WDL ((decide (v1.2.1.Code = x10.Code) && (decide (v1.2.1.At = x10.At) && true)) && (decide ((x4.1.length : Int) = 0))) (fun v4 : Bool => ⟨[(4, .bool v4)], [], [], [], []⟩) [.callB (.agg [.int .i64 x10.Code, .int .i64 x10.At]), .nat (x4.1.length : Int)] [4] [] [] [] [] [] (.cons (R_F_ok 2 0 x10 h10) (.cons (fun (_ : (decide (v1.2.1.Code = x10.Code) && (decide (v1.2.1.At = x10.At) && true)) = true) => (len_ok e_i64 x4.1)) .nil)) (by kernel_rfl) (fun v4 hv => ?_)
                  have hF := lt_elim hF hv
                  have hF := some_elim hF
                  exact Wk_ret (hfin _ ⟨[], [], [], [], [], [], by first | (rw [← hF]; kernel_rfl) | kernel_rfl⟩)
                · have hF := ite_f hF hb
                  refine Wk_skip ?_
                  refine Wk_seq ?_
                  obtain ⟨x11, h11, hF⟩ := ob_elim hF
                  refine WR [.callB (.bool x11)] [4] [] [] [] [] [] ⟨[(4, .bool ((decide (v1.2.1.Code = 0)) && x11))], [], [], [], []⟩ (.cons (fun (ga0 : (decide (v1.2.1.Code = 0)) = true) => (R_Ints_ok x4.1 x8.1 x11 (ite_t h11 ga0))) .nil) (by kernel_rfl) ?_
                  have hF := some_elim hF
                  exact Wk_ret (hfin _ ⟨[], [], [], [], [], [], by first | (rw [← hF]; kernel_rfl) | kernel_rfl⟩)

/- wire.AddText -/
noncomputable def wire_AddText_v2 (s0 : List UInt8) (row : List UInt8) : Option (List UInt8) :=
  ob (wire_AddNum_v2 (s0.length : Int) row) fun x =>
  asrt (((x ++ s0).length : Int) * 1 ≤ 140737488351232) <|
  some (x ++ s0)
theorem wire_AddText_v2_ok (s0 : List UInt8) (row : List UInt8) (rk : Nat) (rc : Nat) (rn : Bool) (r : List UInt8) (hF : wire_AddText_v2 s0 row = some r) : Pe Try.prog 64 ⟨[], [], [(100000, ⟨5, 1, 0, rk, rc, rn, 0, [], (row.map e_u8)⟩)], [], []⟩ [.row 100000 0, .str s0] (.row 100000 3) ⟨[], [], [(100000, ⟨5, 1, 3, rk, rc, rn, 0, [], (r.map e_u8)⟩)], [], []⟩ := by
  refine Pe_of (N := 11) (res := [.tmp 4]) (ts := [23]) Ty.ok Fn.b64 Try.func64 rfl rfl rfl rfl rfl rfl ?_
  intro Q g hfin
  unfold wire_AddText_v2 at hF
  refine Wk_seq ?_
  refine WR [] [0, 1] [] [100000] [] [] [] ⟨[(0, .row 100000 0), (1, .str s0)], [], [(100000, ⟨5, 1, 0, rk, rc, rn, 0, [], (row.map e_u8)⟩)], [], []⟩ .nil (by kernel_rfl) ?_
  refine Wk_seq ?_
  obtain ⟨x, h0, hF⟩ := ob_elim hF
  obtain ⟨h1, hF⟩ := asrt_elim hF
  refine WR [.callE [] [100000] [] [] (.row 100000 2) ⟨[], [], [(100000, ⟨5, 1, 2, rk, rc, rn, 0, [], (x.map e_u8)⟩)], [], []⟩, .xs ((x ++ s0).map e_u8)] [4] [] [100000] [] [] [] ⟨[(4, .row 100000 3)], [], [(100000, ⟨5, 1, 3, rk, rc, rn, 0, [], ((x ++ s0).map e_u8)⟩)], [], []⟩ (.cons (Pe.ren (wire_AddNum_v2_ok (s0.length : Int) row rk rc rn x h0) ⟨[], [], [], []⟩) (.cons (app_ok e_u8 x s0) (.cons (appl_ok e_u8 h1) .nil))) (by kernel_rfl) ?_
  have hF := some_elim hF
  exact Wk_ret (hfin _ ⟨[100000], [], [100000], [], [], [], by first | (rw [← hF]; kernel_rfl) | kernel_rfl⟩)

/- wire.Texts -/
noncomputable def wire_Texts_v1_J1 (v : Fault × List UInt8) : Option (List UInt8 × Fault) :=
  some (v.2, (⟨0, 0⟩ : Fault))
noncomputable def wire_Texts_v1_B1 (l : List (List UInt8)) (v1 : Fault × List UInt8 × Int) : Option ((Fault × List UInt8 × Int) ⊕ (List UInt8 × Fault)) :=
  if (decide (v1.2.2 < (l.length : Int))) = true then
    asrt (0 ≤ v1.2.2 ∧ v1.2.2 < (l.length : Int)) <|
    ob (wire_AddText_v2 (lget l v1.2.2) v1.2.1) fun x1 =>
    if (decide (60000 < (x1.length : Int))) = true then
      lt (wire_fault 9 0) fun x2 =>
      some (Sum.inr (([] : List UInt8), x2))
    else
      some (Sum.inl (v1.1, x1, w64 (v1.2.2 + 1)))
  else
    inrO (wire_Texts_v1_J1 (v1.1, v1.2.1))
noncomputable def wire_Texts_v1_L1 (l : List (List UInt8)) (v0 : Fault × List UInt8 × Int) : Option (List UInt8 × Fault) :=
  loopO (fun y => wire_Texts_v1_B1 l y) v0
noncomputable def wire_Texts_v1 (l : List (List UInt8)) : Option (List UInt8 × Fault) :=
  if (decide (1000 < (l.length : Int))) = true then
    lt (wire_fault 2 0) fun x =>
    some (([] : List UInt8), x)
  else
    wire_Texts_v1_L1 l ((⟨0, 0⟩ : Fault), ([] : List UInt8), 0)
theorem wire_Texts_v1_ok (l : List (List UInt8)) (r : List UInt8 × Fault) (hF : wire_Texts_v1 l = some r) : Pe Try.prog 27 S.none [.sl 1 (l.map e_str)] (.tup [.sl 1 (r.1.map e_u8), .agg [.int .i64 r.2.Code, .int .i64 r.2.At]]) S.none := by
  refine Pe_of (N := 27) (res := [.tmp 2, .cell 3 26]) (ts := [23, 26]) Ty.ok Fn.b27 Try.func27 rfl rfl rfl rfl rfl rfl ?_
  intro Q g hfin
  unfold wire_Texts_v1 at hF
  refine Wk_seq ?_
  refine WR [] [0, 3] [3] [] [] [] [] ⟨[(0, .sl 1 (l.map e_str)), (3, .ptr 3 0)], [(3, [.int .i64 0, .int .i64 0])], [], [], []⟩ .nil (by kernel_rfl) ?_
  refine Wk_seq ?_
  refine Wk_seq ?_
  refine WR [.nat (l.length : Int)] [0, 3, 9] [3] [] [] [] [] ⟨[(0, .sl 1 (l.map e_str)), (3, .ptr 3 0), (9, .bool (decide (1000 < (l.length : Int))))], [(3, [.int .i64 0, .int .i64 0])], [], [], []⟩ (.cons (len_ok e_str l) .nil) (by kernel_rfl) ?_
  refine Wk_split rfl (fun hb => ?_) (fun hb => ?_)
  · have hF := ite_t hF hb
    refine Wk_seq ?_
    obtain ⟨x, h0, hF⟩ := lt_split hF
    refine WR [.callB (.agg [.int .i64 x.Code, .int .i64 x.At])] [2, 3] [3] [] [] [] [] ⟨[(2, .nils), (3, .ptr 3 0)], [(3, [.int .i64 x.Code, .int .i64 x.At])], [], [], []⟩ (.cons (wire_fault_ok 2 0 x h0) .nil) (by kernel_rfl) ?_
    have hF := some_elim hF
    exact Wk_ret (hfin _ ⟨[], [], [], [], [], [], by first | (rw [← hF]; kernel_rfl) | kernel_rfl⟩)
  · have hF := ite_f hF hb
    refine Wk_skip ?_
    refine Wk_seq ?_
    refine WR [] [0, 3, 4] [3] [] [] [] [] ⟨[(0, .sl 1 (l.map e_str)), (3, .ptr 3 0), (4, .nils)], [(3, [.int .i64 0, .int .i64 0])], [], [], []⟩ .nil (by kernel_rfl) ?_
    refine Wk_seq ?_
    refine Wk_seq ?_
    refine WR [.nat (l.length : Int)] [3, 4, 11, 12, 13] [3] [] [] [] [] ⟨[(3, .ptr 3 0), (4, .nils), (11, .sl 1 (l.map e_str)), (12, .int .i64 (l.length : Int)), (13, .int .i64 0)], [(3, [.int .i64 0, .int .i64 0])], [], [], []⟩ (.cons (len_ok e_str l) .nil) (by kernel_rfl) ?_
    refine Wk_meetP (fun v : Fault × List UInt8 => (⟨[(3, .ptr 3 0), (4, .row 19 0)], [(3, [.int .i64 v.1.Code, .int .i64 v.1.At])], [(19, ⟨5, 1, 0, 0, 0, true, 0, [], (v.2.map e_u8)⟩)], [], []⟩ : S)) (fun v => wire_Texts_v1_J1 v = some r) ?_ ?_
    · refine Wk_block ?_
      unfold wire_Texts_v1_L1 at hF
      refine Wk_nilrow 4 60000 5 1 rfl rfl rfl ?_
      refine Wk_trim (fs := [3, 4, 11, 12, 13]) (bs := [3]) (rs := [60000]) (ms := []) (aa := []) (nv := []) rfl ?_
      refine Wk_ren' ⟨[], [(60000, 19)], [], []⟩ rfl ?_
      refine Wk_trim (fs := [3, 4, 11, 12, 13]) (bs := [3]) (rs := [19]) (ms := []) (aa := []) (nv := []) (t := (fun v1 : Fault × List UInt8 × Int => (⟨[(3, .ptr 3 0), (4, .row 19 0), (11, .sl 1 (l.map e_str)), (12, .int .i64 (l.length : Int)), (13, .int .i64 v1.2.2)], [(3, [.int .i64 v1.1.Code, .int .i64 v1.1.At])], [(19, ⟨5, 1, 0, 0, 0, true, 0, [], (v1.2.1.map e_u8)⟩)], [], []⟩ : S)) ((⟨0, 0⟩ : Fault), ([] : List UInt8), 0)) (by kernel_rfl) ?_
      refine Wk_iter (step := fun y => wire_Texts_v1_B1 l y) (r := r) (fun v1 : Fault × List UInt8 × Int => (⟨[(3, .ptr 3 0), (4, .row 19 0), (11, .sl 1 (l.map e_str)), (12, .int .i64 (l.length : Int)), (13, .int .i64 v1.2.2)], [(3, [.int .i64 v1.1.Code, .int .i64 v1.1.At])], [(19, ⟨5, 1, 0, 0, 0, true, 0, [], (v1.2.1.map e_u8)⟩)], [], []⟩ : S)) ((⟨0, 0⟩ : Fault), ([] : List UInt8), 0) hF ?_
      intro n1 v1 y1 hF ih1 dn1
      have hF : wire_Texts_v1_B1 l v1 = some y1 := hF
      unfold wire_Texts_v1_B1 at hF
      refine Wk_seq ?_
      refine WR [] [3, 4, 11, 12, 13, 14] [3] [19] [] [] [] ⟨[(3, .ptr 3 0), (4, .row 19 0), (11, .sl 1 (l.map e_str)), (12, .int .i64 (l.length : Int)), (13, .int .i64 v1.2.2), (14, .bool (decide (v1.2.2 < (l.length : Int))))], [(3, [.int .i64 v1.1.Code, .int .i64 v1.1.At])], [(19, ⟨5, 1, 0, 0, 0, true, 0, [], (v1.2.1.map e_u8)⟩)], [], []⟩ .nil (by kernel_rfl) ?_
      refine Wk_seq ?_
      refine Wk_split rfl (fun hb => ?_) (fun hb => ?_)
      · have hF := ite_t hF hb
        refine Wk_skip ?_
        refine Wk_seq ?_
        refine Wk_block ?_
        refine Wk_seq ?_
        obtain ⟨h1, hF⟩ := asrt_elim hF
        refine WR [.av (e_str (lget l v1.2.2))] [3, 4, 6, 11, 12, 13] [3] [19] [] [] [] ⟨[(3, .ptr 3 0), (4, .row 19 0), (6, .str (lget l v1.2.2)), (11, .sl 1 (l.map e_str)), (12, .int .i64 (l.length : Int)), (13, .int .i64 v1.2.2)], [(3, [.int .i64 v1.1.Code, .int .i64 v1.1.At])], [(19, ⟨5, 1, 0, 0, 0, true, 0, [], (v1.2.1.map e_u8)⟩)], [], []⟩ (.cons (idx_ok e_str h1) .nil) (by kernel_rfl) ?_
        refine Wk_seq ?_
        obtain ⟨x1, h2, hF⟩ := ob_elim hF
        refine WR [.callE [] [19] [] [] (.row 19 3) ⟨[], [], [(19, ⟨5, 1, 3, 0, 0, true, 0, [], (x1.map e_u8)⟩)], [], []⟩] [3, 4, 11, 12, 13] [3] [19] [] [] [] ⟨[(3, .ptr 3 0), (4, .row 19 3), (11, .sl 1 (l.map e_str)), (12, .int .i64 (l.length : Int)), (13, .int .i64 v1.2.2)], [(3, [.int .i64 v1.1.Code, .int .i64 v1.1.At])], [(19, ⟨5, 1, 3, 0, 0, true, 0, [], (x1.map e_u8)⟩)], [], []⟩ (.cons (Pe.ren (wire_AddText_v2_ok (lget l v1.2.2) v1.2.1 0 0 true x1 h2) ⟨[], [(100000, 19)], [], []⟩) .nil) (by kernel_rfl) ?_
        refine Wk_seq ?_
        refine WR [.nat (x1.length : Int)] [3, 4, 11, 12, 13, 22] [3] [19] [] [] [] ⟨[(3, .ptr 3 0), (4, .row 19 3), (11, .sl 1 (l.map e_str)), (12, .int .i64 (l.length : Int)), (13, .int .i64 v1.2.2), (22, .bool (decide (60000 < (x1.length : Int))))], [(3, [.int .i64 v1.1.Code, .int .i64 v1.1.At])], [(19, ⟨5, 1, 3, 0, 0, true, 0, [], (x1.map e_u8)⟩)], [], []⟩ (.cons (len_ok e_u8 x1) .nil) (by kernel_rfl) ?_
        refine Wk_split rfl (fun hb => ?_) (fun hb => ?_)
        · have hF := ite_t hF hb
          refine Wk_seq ?_
          obtain ⟨x2, h3, hF⟩ := lt_split hF
          refine WR [.callB (.agg [.int .i64 x2.Code, .int .i64 x2.At])] [2, 3] [3] [] [] [] [] ⟨[(2, .nils), (3, .ptr 3 0)], [(3, [.int .i64 x2.Code, .int .i64 x2.At])], [], [], []⟩ (.cons (wire_fault_ok 9 0 x2 h3) .nil) (by kernel_rfl) ?_
          have hF := ret_done hF dn1
          have hF := some_elim hF
          exact Wk_ret (hfin _ ⟨[], [], [], [], [], [], by first | (rw [← hF]; kernel_rfl) | kernel_rfl⟩)
        · have hF := ite_f hF hb
          refine Wk_skip ?_
          refine Wk_blk ?_
          refine WR [] [3, 4, 11, 12, 13] [3] [19] [] [] [] ⟨[(3, .ptr 3 0), (4, .row 19 3), (11, .sl 1 (l.map e_str)), (12, .int .i64 (l.length : Int)), (13, .int .i64 (w64 (v1.2.2 + 1)))], [(3, [.int .i64 v1.1.Code, .int .i64 v1.1.At])], [(19, ⟨5, 1, 3, 0, 0, true, 0, [], (x1.map e_u8)⟩)], [], []⟩ .nil (by kernel_rfl) ?_
          refine Wk_trim (fs := [3, 4, 11, 12, 13]) (bs := [3]) (rs := [19]) (ms := []) (aa := []) (nv := [(19, ⟨0, true, true, false⟩)]) ?_ (ih1 _ (some_elim hF).symm)
          kernel_rfl
      · have hF := ite_f hF hb
        refine Wk_exit rfl ?_
        have hF := inrO_done hF dn1
        exact Wk_metP (v1.1, v1.2.1) [3, 4] [3] [19] [] [] [] hF (by kernel_rfl)
    · intro v hF
      have hF : wire_Texts_v1_J1 v = some r := hF
      unfold wire_Texts_v1_J1 at hF
      refine Wk_seq ?_
      refine WR [] [2, 3] [3] [19] [] [] [] ⟨[(2, .row 19 0), (3, .ptr 3 0)], [(3, [.int .i64 0, .int .i64 0])], [(19, ⟨5, 1, 0, 0, 0, true, 0, [], (v.2.map e_u8)⟩)], [], []⟩ .nil (by kernel_rfl) ?_
      have hF := some_elim hF
      exact Wk_ret (hfin _ ⟨[], [], [], [], [], [], by first | (rw [← hF]; kernel_rfl) | kernel_rfl⟩)

/- (*wire.Reader).Text -/
noncomputable def wire_Reader_Text (box : Reader) : Option (List UInt8 × Reader) :=
  ob (wire_Reader_Num box) fun x =>
  if (x.2.bad || (decide ((x.2.b.length : Int) < x.1))) = true then
    some (([] : List UInt8), (⟨([] : List UInt8), true⟩ : Reader))
  else
    asrt (0 ≤ x.1 ∧ x.1 ≤ (x.2.b.length : Int)) <|
    asrt (0 ≤ x.1 ∧ x.1 ≤ (x.2.b.length : Int)) <|
    some ((ltake x.2.b x.1), (⟨(ldrop x.2.b x.1), x.2.bad⟩ : Reader))
theorem wire_Reader_Text_ok (box : Reader) (r : List UInt8 × Reader) (hF : wire_Reader_Text box = some r) : Pe Try.prog 65 ⟨[], [(100000, [.sl 1 (box.b.map e_u8), .bool box.bad])], [], [], []⟩ [.ptr 100000 0] (.str r.1) ⟨[], [(100000, [.sl 1 (r.2.b.map e_u8), .bool r.2.bad])], [], [], []⟩ := by
  refine Pe_of (N := 43) (res := [.tmp 2]) (ts := [9]) Ty.ok Fn.b65 Try.func65 rfl rfl rfl rfl rfl rfl ?_
  intro Q g hfin
  unfold wire_Reader_Text at hF
  refine Wk_seq ?_
  refine WR [] [0] [100000] [] [] [] [] ⟨[(0, .ptr 100000 0)], [(100000, [.sl 1 (box.b.map e_u8), .bool box.bad])], [], [], []⟩ .nil (by kernel_rfl) ?_
  refine Wk_seq ?_
  obtain ⟨x, h0, hF⟩ := ob_elim hF
  refine WR [.callE [100000] [] [] [] (.int .i64 x.1) ⟨[], [(100000, [.sl 1 (x.2.b.map e_u8), .bool x.2.bad])], [], [], []⟩] [0, 3] [100000] [] [] [] [] ⟨[(0, .ptr 100000 0), (3, .int .i64 x.1)], [(100000, [.sl 1 (x.2.b.map e_u8), .bool x.2.bad])], [], [], []⟩ (.cons (Pe.ren (wire_Reader_Num_ok box x h0) ⟨[], [], [], []⟩) .nil) (by kernel_rfl) ?_
  refine Wk_seq ?_
  refine Wk_seq ?_
  refine WR [.nat (x.2.b.length : Int)] [0, 3, 19] [100000] [] [] [] [] ⟨[(0, .ptr 100000 0), (3, .int .i64 x.1), (19, .bool (x.2.bad || (decide ((x.2.b.length : Int) < x.1))))], [(100000, [.sl 1 (x.2.b.map e_u8), .bool x.2.bad])], [], [], []⟩ (.cons (fun (_ : (!x.2.bad) = true) => (len_ok e_u8 x.2.b)) .nil) (by kernel_rfl) ?_
  refine Wk_split rfl (fun hb => ?_) (fun hb => ?_)
  · have hF := ite_t hF hb
    refine Wk_seq ?_
    refine WR [] [] [100000] [] [] [] [] ⟨[], [(100000, [.nils, .bool true])], [], [], []⟩ .nil (by kernel_rfl) ?_
    refine Wk_seq ?_
    refine WR [] [2] [100000] [] [] [] [] ⟨[(2, .str ([] : List UInt8))], [(100000, [.nils, .bool true])], [], [], []⟩ .nil (by kernel_rfl) ?_
    have hF := some_elim hF
    refine Wk_coeB 100000 [.sl 1 (([] : List UInt8).map e_u8), .bool true] rfl (.cons (CoeS.nils 1) (.cons (CoeS.refl _) .nil)) ?_
    exact Wk_ret (hfin _ ⟨[], [100000], [], [], [], [], by first | (rw [← hF]; kernel_rfl) | kernel_rfl⟩)
  · have hF := ite_f hF hb
    refine Wk_skip ?_
    refine Wk_seq ?_
    obtain ⟨h1, hF⟩ := asrt_elim hF
    refine WR [.xs ((ltake x.2.b x.1).map e_u8), .str (ltake x.2.b x.1)] [0, 3, 4] [100000] [] [] [] [] ⟨[(0, .ptr 100000 0), (3, .int .i64 x.1), (4, .str (ltake x.2.b x.1))], [(100000, [.sl 1 (x.2.b.map e_u8), .bool x.2.bad])], [], [], []⟩ (.cons (sl01_ok e_u8 h1) (.cons (u8s_ok (ltake x.2.b x.1)) .nil)) (by kernel_rfl) ?_
    refine Wk_seq ?_
    obtain ⟨h2, hF⟩ := asrt_elim hF
    refine WR [.xs ((ldrop x.2.b x.1).map e_u8)] [4] [100000] [] [] [] [] ⟨[(4, .str (ltake x.2.b x.1))], [(100000, [.sl 1 ((ldrop x.2.b x.1).map e_u8), .bool x.2.bad])], [], [], []⟩ (.cons (sl10_ok e_u8 h2) .nil) (by kernel_rfl) ?_
    refine Wk_seq ?_
    refine WR [] [2] [100000] [] [] [] [] ⟨[(2, .str (ltake x.2.b x.1))], [(100000, [.sl 1 ((ldrop x.2.b x.1).map e_u8), .bool x.2.bad])], [], [], []⟩ .nil (by kernel_rfl) ?_
    have hF := some_elim hF
    exact Wk_ret (hfin _ ⟨[], [100000], [], [], [], [], by first | (rw [← hF]; kernel_rfl) | kernel_rfl⟩)

end G
end Go.Proofs.Ytiakadlmebbafaa
