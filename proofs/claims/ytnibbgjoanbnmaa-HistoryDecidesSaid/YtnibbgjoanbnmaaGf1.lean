/- The program's functions as plain functions, and that they are these. Written by a program (dec2.py). -/
import Derived.Test.YtnibbgjoanbnmaaGf0
namespace Go.Proofs.Ytnibbgjoanbnmaa
open Go Go.Dm
set_option linter.unusedVariables false
set_option linter.unusedSimpArgs false
set_option maxRecDepth 100000
namespace G
noncomputable section
/- (*history.bunch).alone$1 -/
def history_bunch_alone_1 (i : Int) (box : List Span) (box1 : Nat) (ar : List bunch) : Option Bool :=
 asrt (0 ≤ i ∧ i < (box.length : Int)) <|
 asrt (0 ≤ ((box1 : Nat) : Int) ∧ ((box1 : Nat) : Int) < (ar.length : Int)) <|
 asrt (0 ≤ (lget ar ((box1 : Nat) : Int)).write ∧ (lget ar ((box1 : Nat) : Int)).write < (box.length : Int)) <|
 lt (decide (((lget box i).To) < ((lget box ((lget ar ((box1 : Nat) : Int)).write)).From))) fun v =>
 some v
theorem history_bunch_alone_1_ok {i box box1 ar r} (hF : history_bunch_alone_1 i box box1 ar = some r) : Pe Try.prog 44 ⟨[], [(100000, [.sl 4 (box.map e_Span)]), (100001, [.aptr 100000 box1 0])], [], [], [(100000, ⟨51, 5, [], ar.map e_bunch⟩)]⟩ [.i i, .ptr 100000 0, .ptr 100001 0] (.bool r) ⟨[], [(100000, [.sl 4 (box.map e_Span)]), (100001, [.aptr 100000 box1 0])], [], [], [(100000, ⟨51, 5, [], ar.map e_bunch⟩)]⟩ := by
 refine PT 19 [.tmp 4] [4] Try.func44 ?_
 intro Q g hfin
 unfold history_bunch_alone_1 at hF
 refine NAR [] [0, 1, 2] [100000, 100001] [] [] [100000] ⟨[(0, .i i), (1, .ptr 100000 0), (2, .ptr 100001 0)], [(100000, [.sl 4 (box.map e_Span)]), (100001, [.aptr 100000 box1 0])], [], [], [(100000, ⟨51, 5, [], ar.map e_bunch⟩)]⟩ .nil ?_
 obtain ⟨h0, h1, hF⟩ := asrt2 hF
 obtain ⟨h2, hF⟩ := aE hF
 refine NADL (decide (((lget box i).To) < ((lget box ((lget ar ((box1 : Nat) : Int)).write)).From))) (fun v : Bool => (⟨[(4, .bool v)], [(100000, [.sl 4 (box.map e_Span)]), (100001, [.aptr 100000 box1 0])], [], [], [(100000, ⟨51, 5, [], ar.map e_bunch⟩)]⟩ : S)) [.av (e_Span (lget box i)), .av (e_bunch (lget ar ((box1 : Nat) : Int))), .av (e_Span (lget box ((lget ar ((box1 : Nat) : Int)).write)))] [4] [100000, 100001] [] [] [100000] (hc (idx_ok e_Span h0) (hc (ldr_ok e_bunch h1) (hc (idx_ok e_Span h2) .nil))) (fun v hv => ?_)
 have hF := lt_elim hF hv
 cases hF
 exact Wk_ret (hfin _ ⟨[], [100000, 100001], [], [], [100000], [], by kernel_rfl⟩)

/- slices.IndexFunc[[]int,int] -/
def slices_IndexFunc_int_int_J1 (v : Unit) : Option Int :=
 some (-1)
def slices_IndexFunc_int_int_B1 (s0 : List Int) (box : List Span) (box1 : Nat) (ar : List bunch) (v1 : Int) : Option (Int ⊕ Int) :=
 if (decide (v1 < (s0.length : Int))) = true then
  asrt (0 ≤ v1 ∧ v1 < (s0.length : Int)) <|
  ob (history_bunch_alone_1 (lget s0 v1) box box1 ar) fun x =>
  if x = true then
   some (Sum.inr v1)
  else
   some (Sum.inl (w64 (v1 + 1)))
 else
  inrO (slices_IndexFunc_int_int_J1 ())
def slices_IndexFunc_int_int_L1 (s0 : List Int) (box : List Span) (box1 : Nat) (ar : List bunch) (v0 : Int) : Option Int :=
 loopO (fun y => slices_IndexFunc_int_int_B1 s0 box box1 ar y) v0
def slices_IndexFunc_int_int (s0 : List Int) (box : List Span) (box1 : Nat) (ar : List bunch) : Option Int :=
 slices_IndexFunc_int_int_L1 s0 box box1 ar 0
theorem slices_IndexFunc_int_int_ok {s0 box box1 ar r} (hF : slices_IndexFunc_int_int s0 box box1 ar = some r) : Pe Try.prog 51 ⟨[], [(100000, [.sl 4 (box.map e_Span)]), (100001, [.aptr 100000 box1 0])], [], [], [(100000, ⟨51, 5, [], ar.map e_bunch⟩)]⟩ [.sl 1 (s0.map e_i64), .fn 44 [.ptr 100000 0, .ptr 100001 0]] (.i r) ⟨[], [(100000, [.sl 4 (box.map e_Span)]), (100001, [.aptr 100000 box1 0])], [], [], [(100000, ⟨51, 5, [], ar.map e_bunch⟩)]⟩ := by
 refine PT 19 [.tmp 4] [3] Try.func51 ?_
 intro Q g hfin
 unfold slices_IndexFunc_int_int at hF
 refine NAR [] [0, 1] [100000, 100001] [] [] [100000] ⟨[(0, .sl 1 (s0.map e_i64)), (1, .fn 44 [.ptr 100000 0, .ptr 100001 0])], [(100000, [.sl 4 (box.map e_Span)]), (100001, [.aptr 100000 box1 0])], [], [], [(100000, ⟨51, 5, [], ar.map e_bunch⟩)]⟩ .nil ?_
 refine NAR [.nat (s0.length : Int)] [0, 1, 7, 8] [100000, 100001] [] [] [100000] ⟨[(0, .sl 1 (s0.map e_i64)), (1, .fn 44 [.ptr 100000 0, .ptr 100001 0]), (7, .i (s0.length : Int)), (8, .i 0)], [(100000, [.sl 4 (box.map e_Span)]), (100001, [.aptr 100000 box1 0])], [], [], [(100000, ⟨51, 5, [], ar.map e_bunch⟩)]⟩ (hc (len_ok e_i64 s0) .nil) ?_
 refine NmQ (fun v => slices_IndexFunc_int_int_J1 v = some r) (fun v => ⟨[], [(100000, [.sl 4 (box.map e_Span)]), (100001, [.aptr 100000 box1 0])], [], [], [(100000, ⟨51, 5, [], ar.map e_bunch⟩)]⟩) ?_ ?_
 ·refine Nblk ?_
  unfold slices_IndexFunc_int_int_L1 at hF
  refine Nitr hF [] (fun v1 => ⟨[(0, .sl 1 (s0.map e_i64)), (1, .fn 44 [.ptr 100000 0, .ptr 100001 0]), (7, .i (s0.length : Int)), (8, .i v1)], [(100000, [.sl 4 (box.map e_Span)]), (100001, [.aptr 100000 box1 0])], [], [], [(100000, ⟨51, 5, [], ar.map e_bunch⟩)]⟩) ?_
  intro n1 v1 y1 hF ih1 dn1
  unfold slices_IndexFunc_int_int_B1 at hF
  refine NAR [] [0, 1, 7, 8, 9] [100000, 100001] [] [] [100000] ⟨[(0, .sl 1 (s0.map e_i64)), (1, .fn 44 [.ptr 100000 0, .ptr 100001 0]), (7, .i (s0.length : Int)), (8, .i v1), (9, .bool (decide (v1 < (s0.length : Int))))], [(100000, [.sl 4 (box.map e_Span)]), (100001, [.aptr 100000 box1 0])], [], [], [(100000, ⟨51, 5, [], ar.map e_bunch⟩)]⟩ .nil ?_
  refine Nif hF ?_ ?_ <;> intro hb hF
  ·refine Nblk ?_
   refine NAR [] [0, 1, 5, 7, 8] [100000, 100001] [] [] [100000] ⟨[(0, .sl 1 (s0.map e_i64)), (1, .fn 44 [.ptr 100000 0, .ptr 100001 0]), (5, .i v1), (7, .i (s0.length : Int)), (8, .i v1)], [(100000, [.sl 4 (box.map e_Span)]), (100001, [.aptr 100000 box1 0])], [], [], [(100000, ⟨51, 5, [], ar.map e_bunch⟩)]⟩ .nil ?_
   obtain ⟨h0, hF⟩ := aE hF
   obtain ⟨x, h1, hF⟩ := oE hF
   refine NAR [.av (e_i64 (lget s0 v1)), .callR [100000, 100001] [] [] [100000] (.bool x)] [0, 1, 5, 7, 8, 16] [100000, 100001] [] [] [100000] ⟨[(0, .sl 1 (s0.map e_i64)), (1, .fn 44 [.ptr 100000 0, .ptr 100001 0]), (5, .i v1), (7, .i (s0.length : Int)), (8, .i v1), (16, .bool x)], [(100000, [.sl 4 (box.map e_Span)]), (100001, [.aptr 100000 box1 0])], [], [], [(100000, ⟨51, 5, [], ar.map e_bunch⟩)]⟩ (hc (idx_ok e_i64 h0) (hc (Pe.ren (history_bunch_alone_1_ok h1) ⟨[], [], [], []⟩) .nil)) ?_
   refine Nif hF ?_ ?_ <;> intro hb hF
   ·refine NAR [] [4] [100000, 100001] [] [] [100000] ⟨[(4, .i v1)], [(100000, [.sl 4 (box.map e_Span)]), (100001, [.aptr 100000 box1 0])], [], [], [(100000, ⟨51, 5, [], ar.map e_bunch⟩)]⟩ .nil ?_
    have hF := ret_done hF dn1
    cases hF
    exact Wk_ret (hfin _ ⟨[], [100000, 100001], [], [], [100000], [], by kernel_rfl⟩)
   ·refine NAR [] [0, 1, 7, 8] [100000, 100001] [] [] [100000] ⟨[(0, .sl 1 (s0.map e_i64)), (1, .fn 44 [.ptr 100000 0, .ptr 100001 0]), (7, .i (s0.length : Int)), (8, .i (w64 (v1 + 1)))], [(100000, [.sl 4 (box.map e_Span)]), (100001, [.aptr 100000 box1 0])], [], [], [(100000, ⟨51, 5, [], ar.map e_bunch⟩)]⟩ .nil ?_
    exact Nrnq [] hF ih1
  ·refine Nexit rfl ?_
   have hF := inrO_done hF dn1
   exact metQ () [] hF
 ·intro v hF
  unfold slices_IndexFunc_int_int_J1 at hF
  refine NAR [] [4] [100000, 100001] [] [] [100000] ⟨[(4, .i (-1))], [(100000, [.sl 4 (box.map e_Span)]), (100001, [.aptr 100000 box1 0])], [], [], [(100000, ⟨51, 5, [], ar.map e_bunch⟩)]⟩ .nil ?_
  cases hF
  exact Wk_ret (hfin _ ⟨[], [100000, 100001], [], [], [100000], [], by kernel_rfl⟩)

/- slices.ContainsFunc[[]int,int] -/
def slices_ContainsFunc_int_int (s0 : List Int) (box : List Span) (box1 : Nat) (ar : List bunch) : Option Bool :=
 ob (slices_IndexFunc_int_int s0 box box1 ar) fun x =>
 some (decide (0 ≤ x))
theorem slices_ContainsFunc_int_int_ok {s0 box box1 ar r} (hF : slices_ContainsFunc_int_int s0 box box1 ar = some r) : Pe Try.prog 43 ⟨[], [(100000, [.sl 4 (box.map e_Span)]), (100001, [.aptr 100000 box1 0])], [], [], [(100000, ⟨51, 5, [], ar.map e_bunch⟩)]⟩ [.sl 1 (s0.map e_i64), .fn 44 [.ptr 100000 0, .ptr 100001 0]] (.bool r) ⟨[], [(100000, [.sl 4 (box.map e_Span)]), (100001, [.aptr 100000 box1 0])], [], [], [(100000, ⟨51, 5, [], ar.map e_bunch⟩)]⟩ := by
 refine PT 9 [.tmp 4] [4] Try.func43 ?_
 intro Q g hfin
 unfold slices_ContainsFunc_int_int at hF
 refine NAR [] [0, 1] [100000, 100001] [] [] [100000] ⟨[(0, .sl 1 (s0.map e_i64)), (1, .fn 44 [.ptr 100000 0, .ptr 100001 0])], [(100000, [.sl 4 (box.map e_Span)]), (100001, [.aptr 100000 box1 0])], [], [], [(100000, ⟨51, 5, [], ar.map e_bunch⟩)]⟩ .nil ?_
 obtain ⟨x, h0, hF⟩ := oE hF
 refine NAR [.callR [100000, 100001] [] [] [100000] (.i x)] [4] [100000, 100001] [] [] [100000] ⟨[(4, .bool (decide (0 ≤ x)))], [(100000, [.sl 4 (box.map e_Span)]), (100001, [.aptr 100000 box1 0])], [], [], [(100000, ⟨51, 5, [], ar.map e_bunch⟩)]⟩ (hc (Pe.ren (slices_IndexFunc_int_int_ok h0) ⟨[], [], [], []⟩) .nil) ?_
 cases hF
 exact Wk_ret (hfin _ ⟨[], [100000, 100001], [], [], [100000], [], by kernel_rfl⟩)

/- (*history.bunch).alone -/
def history_bunch_alone (b : Nat) (l : List Span) (ar : List bunch) : Option Bool :=
 asrt (0 ≤ ((b : Nat) : Int) ∧ ((b : Nat) : Int) < (ar.length : Int)) <|
 if (decide (((lget ar ((b : Nat) : Int)).value) = 0)) = true then
  some false
 else
  asrt (0 ≤ ((b : Nat) : Int) ∧ ((b : Nat) : Int) < (ar.length : Int)) <|
  asrt ((!(decide (((lget ar ((b : Nat) : Int)).write) < 0))) = true → 0 ≤ ((b : Nat) : Int) ∧ ((b : Nat) : Int) < (ar.length : Int)) <|
  ob (if (!(decide (((lget ar ((b : Nat) : Int)).write) < 0))) = true then (slices_ContainsFunc_int_int ((lget ar ((b : Nat) : Int)).reads) l b ar) else some default) fun x =>
  some ((decide (((lget ar ((b : Nat) : Int)).write) < 0)) || x)
theorem history_bunch_alone_ok {b l ar r} (hF : history_bunch_alone b l ar = some r) : Pe Try.prog 20 ⟨[], [], [], [], [(100000, ⟨51, 5, [], ar.map e_bunch⟩)]⟩ [.aptr 100000 b 0, .sl 4 (l.map e_Span)] (.bool r) ⟨[], [], [], [], [(100000, ⟨51, 5, [], ar.map e_bunch⟩)]⟩ := by
 refine PT 23 [.tmp 4] [4] Try.func20 ?_
 intro Q g hfin
 unfold history_bunch_alone at hF
 refine NAR [] [2, 3] [2, 3] [] [] [100000] ⟨[(2, .ptr 2 0), (3, .ptr 3 0)], [(2, [.aptr 100000 b 0]), (3, [.sl 4 (l.map e_Span)])], [], [], [(100000, ⟨51, 5, [], ar.map e_bunch⟩)]⟩ .nil ?_
 obtain ⟨h0, hF⟩ := aE hF
 refine NAR [.av (e_bunch (lget ar ((b : Nat) : Int)))] [2, 3, 9] [2, 3] [] [] [100000] ⟨[(2, .ptr 2 0), (3, .ptr 3 0), (9, .bool (decide (((lget ar ((b : Nat) : Int)).value) = 0)))], [(2, [.aptr 100000 b 0]), (3, [.sl 4 (l.map e_Span)])], [], [], [(100000, ⟨51, 5, [], ar.map e_bunch⟩)]⟩ (hc (ldr_ok e_bunch h0) .nil) ?_
 refine Nif hF ?_ ?_ <;> intro hb hF
 ·refine NAR [] [4] [] [] [] [100000] ⟨[(4, .bool false)], [], [], [], [(100000, ⟨51, 5, [], ar.map e_bunch⟩)]⟩ .nil ?_
  cases hF
  exact Wk_ret (hfin _ ⟨[], [], [], [], [100000], [], by kernel_rfl⟩)
 ·obtain ⟨h1, hF⟩ := aE hF
  obtain ⟨h2, hF⟩ := aE hF
  obtain ⟨x, h3, hF⟩ := oE hF
  refine NAR [.av (e_bunch (lget ar ((b : Nat) : Int))), .av (e_bunch (lget ar ((b : Nat) : Int))), .callR [3, 2] [] [] [100000] (.bool x)] [4] [] [] [] [100000] ⟨[(4, .bool ((decide (((lget ar ((b : Nat) : Int)).write) < 0)) || x))], [], [], [], [(100000, ⟨51, 5, [], ar.map e_bunch⟩)]⟩ (hc (ldr_ok e_bunch h1) (hc (fun (ga0 : (!(decide (((lget ar ((b : Nat) : Int)).write) < 0))) = true) => (ldr_ok e_bunch (h2 ga0))) (hc (fun (ga0 : (!(decide (((lget ar ((b : Nat) : Int)).write) < 0))) = true) => (Pe.ren (slices_ContainsFunc_int_int_ok (ite_t h3 ga0)) ⟨[(100000, 3), (100001, 2)], [], [], []⟩)) .nil))) ?_
  cases hF
  exact Wk_ret (hfin _ ⟨[], [], [], [], [100000], [], by kernel_rfl⟩)

/- history.clash -/
def history_clash (a0 b : Nat) (ar : List bunch) : Option Bool :=
 asrt (0 ≤ ((a0 : Nat) : Int) ∧ ((a0 : Nat) : Int) < (ar.length : Int)) <|
 asrt (0 ≤ ((b : Nat) : Int) ∧ ((b : Nat) : Int) < (ar.length : Int)) <|
 asrt ((decide (((lget ar ((a0 : Nat) : Int)).first) < ((lget ar ((b : Nat) : Int)).last))) = true → 0 ≤ ((b : Nat) : Int) ∧ ((b : Nat) : Int) < (ar.length : Int)) <|
 asrt ((decide (((lget ar ((a0 : Nat) : Int)).first) < ((lget ar ((b : Nat) : Int)).last))) = true → 0 ≤ ((a0 : Nat) : Int) ∧ ((a0 : Nat) : Int) < (ar.length : Int)) <|
 lt ((decide (((lget ar ((a0 : Nat) : Int)).first) < ((lget ar ((b : Nat) : Int)).last))) && (decide (((lget ar ((b : Nat) : Int)).first) < ((lget ar ((a0 : Nat) : Int)).last)))) fun v =>
 some v
theorem history_clash_ok {a0 b ar r} (hF : history_clash a0 b ar = some r) : Pe Try.prog 21 ⟨[], [], [], [], [(100000, ⟨51, 5, [], ar.map e_bunch⟩)]⟩ [.aptr 100000 a0 0, .aptr 100000 b 0] (.bool r) ⟨[], [], [], [], [(100000, ⟨51, 5, [], ar.map e_bunch⟩)]⟩ := by
 refine PT 25 [.tmp 4] [4] Try.func21 ?_
 intro Q g hfin
 unfold history_clash at hF
 refine NAR [] [0, 1] [] [] [] [100000] ⟨[(0, .aptr 100000 a0 0), (1, .aptr 100000 b 0)], [], [], [], [(100000, ⟨51, 5, [], ar.map e_bunch⟩)]⟩ .nil ?_
 obtain ⟨h0, h1, h2, h3, hF⟩ := asrt4 hF
 refine NADL ((decide (((lget ar ((a0 : Nat) : Int)).first) < ((lget ar ((b : Nat) : Int)).last))) && (decide (((lget ar ((b : Nat) : Int)).first) < ((lget ar ((a0 : Nat) : Int)).last)))) (fun v : Bool => (⟨[(4, .bool v)], [], [], [], [(100000, ⟨51, 5, [], ar.map e_bunch⟩)]⟩ : S)) [.av (e_bunch (lget ar ((a0 : Nat) : Int))), .av (e_bunch (lget ar ((b : Nat) : Int))), .av (e_bunch (lget ar ((b : Nat) : Int))), .av (e_bunch (lget ar ((a0 : Nat) : Int)))] [4] [] [] [] [100000] (hc (ldr_ok e_bunch h0) (hc (ldr_ok e_bunch h1) (hc (fun (ga0 : (decide (((lget ar ((a0 : Nat) : Int)).first) < ((lget ar ((b : Nat) : Int)).last))) = true) => (ldr_ok e_bunch (h2 ga0))) (hc (fun (ga0 : (decide (((lget ar ((a0 : Nat) : Int)).first) < ((lget ar ((b : Nat) : Int)).last))) = true) => (ldr_ok e_bunch (h3 ga0))) .nil)))) (fun v hv => ?_)
 have hF := lt_elim hF hv
 cases hF
 exact Wk_ret (hfin _ ⟨[], [], [], [], [100000], [], by kernel_rfl⟩)

/- history.Clash -/
def history_Clash_J1 (v : Unit) : Option (Int × Int × Bool × Fault) :=
 some (0, 0, false, (⟨0, 0⟩ : Fault))
def history_Clash_J2 (v1 : Int) (v2 : Unit) : Option (Int ⊕ (Int × Int × Bool × Fault)) :=
 some (Sum.inl (w64 (v1 + 1)))
def history_Clash_B2 (l : List Span) (x1 : List Nat × List bunch) (v1 v3 : Int) : Option (Int ⊕ (Int ⊕ (Int × Int × Bool × Fault))) :=
 if (decide (v3 < (x1.1.length : Int))) = true then
  asrt (0 ≤ v3 ∧ v3 < (x1.1.length : Int)) <|
  asrt (0 ≤ v3 ∧ v3 < (x1.1.length : Int)) <|
  asrt ((lget x1.1 v1) < x1.2.length ∧ (lget x1.1 v3) < x1.2.length) <|
  ob (if (decide ((lget x1.1 v1) = (lget x1.1 v3))) = true then (history_bunch_alone (lget x1.1 v1) l x1.2) else some default) fun x2 =>
  asrt ((!((decide ((lget x1.1 v1) = (lget x1.1 v3))) && x2)) = true → (lget x1.1 v1) < x1.2.length ∧ (lget x1.1 v3) < x1.2.length) <|
  ob (if (!(decide ((lget x1.1 v1) = (lget x1.1 v3)))) = true then (if (!((decide ((lget x1.1 v1) = (lget x1.1 v3))) && x2)) = true then (history_clash (lget x1.1 v1) (lget x1.1 v3) x1.2) else some default) else some default) fun x3 =>
  if (((decide ((lget x1.1 v1) = (lget x1.1 v3))) && x2) || ((!(decide ((lget x1.1 v1) = (lget x1.1 v3)))) && x3)) = true then
   asrt (0 ≤ (((lget x1.1 v1) : Nat) : Int) ∧ (((lget x1.1 v1) : Nat) : Int) < (x1.2.length : Int)) <|
   asrt (0 ≤ (((lget x1.1 v3) : Nat) : Int) ∧ (((lget x1.1 v3) : Nat) : Int) < (x1.2.length : Int)) <|
   some (Sum.inr (Sum.inr ((lget x1.2 (((lget x1.1 v1) : Nat) : Int)).value, (lget x1.2 (((lget x1.1 v3) : Nat) : Int)).value, true, (⟨0, 0⟩ : Fault))))
  else
   some (Sum.inl (w64 (v3 + 1)))
 else
  inrO (history_Clash_J2 v1 ())
def history_Clash_L2 (l : List Span) (x1 : List Nat × List bunch) (v1 v0 : Int) : Option (Int ⊕ (Int × Int × Bool × Fault)) :=
 loopO (fun y => history_Clash_B2 l x1 v1 y) v0
def history_Clash_B1 (l : List Span) (x1 : List Nat × List bunch) (v1 : Int) : Option (Int ⊕ (Int × Int × Bool × Fault)) :=
 if (decide (v1 < (x1.1.length : Int))) = true then
  asrt (0 ≤ v1 ∧ v1 < (x1.1.length : Int)) <|
  asrt (0 ≤ v1 ∧ v1 < (x1.1.length : Int)) <|
  history_Clash_L2 l x1 v1 0
 else
  inrO (history_Clash_J1 ())
def history_Clash_L1 (l : List Span) (x1 : List Nat × List bunch) (v0 : Int) : Option (Int × Int × Bool × Fault) :=
 loopO (fun y => history_Clash_B1 l x1 y) v0
def history_Clash (l : List Span) : Option (Int × Int × Bool × Fault) :=
 ob (history_Check l) fun x =>
 if (!decide (x.Code = 0)) = true then
  some (0, 0, false, x)
 else
  ob (history_bunches l ([] : List bunch)) fun x1 =>
  history_Clash_L1 l x1 0
theorem history_Clash_ok {l r} (hF : history_Clash l = some r) : Pe Try.prog 9 S.none [.sl 4 (l.map e_Span)] (.tup [.i r.1, .i r.2.1, .bool r.2.2.1, .agg (c_Fault r.2.2.2)]) S.none := by
 refine Pe_ghost 100000 51 5 rfl ?_
 refine PT 62 [.tmp 2, .tmp 3, .tmp 4, .cell 5 26] [3, 3, 4, 26] Try.func9 ?_
 intro Q g hfin
 unfold history_Clash at hF
 refine NAR [] [0, 5] [5] [] [] [100000] ⟨[(0, .sl 4 (l.map e_Span)), (5, .ptr 5 0)], [(5, [.i 0, .i 0])], [], [], [(100000, ⟨51, 5, [], ([] : List bunch).map o_bunch⟩)]⟩ .nil ?_
 obtain ⟨x, h0, hF⟩ := oE hF
 refine NAR [.callB (.agg (c_Fault x))] [0, 5, 6] [5, 6] [] [] [100000] ⟨[(0, .sl 4 (l.map e_Span)), (5, .ptr 5 0), (6, .ptr 6 0)], [(5, [.i 0, .i 0]), (6, (c_Fault x))], [], [], [(100000, ⟨51, 5, [], ([] : List bunch).map o_bunch⟩)]⟩ (hc (history_Check_ok h0) .nil) ?_
 refine NAR [] [0, 5, 6, 16] [5, 6] [] [] [100000] ⟨[(0, .sl 4 (l.map e_Span)), (5, .ptr 5 0), (6, .ptr 6 0), (16, .bool (!decide (x.Code = 0)))], [(5, [.i 0, .i 0]), (6, (c_Fault x))], [], [], [(100000, ⟨51, 5, [], ([] : List bunch).map o_bunch⟩)]⟩ .nil ?_
 refine Nif hF ?_ ?_ <;> intro hb hF
 ·refine NAD [] [2, 3, 4, 5] [5] [] [] [100000] ⟨[(2, .i 0), (3, .i 0), (4, .bool false), (5, .ptr 5 0)], [(5, (c_Fault x))], [], [], [(100000, ⟨51, 5, [], ([] : List bunch).map o_bunch⟩)]⟩ .nil ?_
  cases hF
  exact Wz [] hfin
 ·obtain ⟨x1, h1, hF⟩ := oE hF
  refine NAR [.callE [] [] [] [100000] (.row 19 0) ⟨[], [], [(19, ⟨48, 1, 0, 0, 0, false, 1, [100000], (x1.1.map ea)⟩)], [], [(100000, ⟨51, 5, [], x1.2.map o_bunch⟩)]⟩] [0, 5, 7] [5] [19] [] [100000] ⟨[(0, .sl 4 (l.map e_Span)), (5, .ptr 5 0), (7, .row 19 0)], [(5, [.i 0, .i 0])], [(19, ⟨48, 1, 0, 0, 0, false, 1, [100000], (x1.1.map ea)⟩)], [], [(100000, ⟨51, 5, [], x1.2.map o_bunch⟩)]⟩ (hc (Pe.ren (history_bunches_ok h1) ⟨[], [(12, 19)], [], []⟩) .nil) ?_
  refine L_freezeA 100000 (zs := (x1.2.map e_bunch)) (.cons (okcL (f := o_bunch) (fun _ => rfl) x1.2) (.cons (frzL (f := o_bunch) (g := e_bunch) (fun _ => rfl) x1.2) .nil)) (hk := ?_)
  refine NAR [.nat (x1.1.length : Int)] [0, 5, 7, 20, 21, 22] [5] [19] [] [100000] ⟨[(0, .sl 4 (l.map e_Span)), (5, .ptr 5 0), (7, .row 19 0), (20, .row 19 0), (21, .i (x1.1.length : Int)), (22, .i 0)], [(5, [.i 0, .i 0])], [(19, ⟨48, 1, 0, 0, 0, false, 1, [100000], (x1.1.map ea)⟩)], [], [(100000, ⟨51, 5, [], x1.2.map e_bunch⟩)]⟩ (hc (len_ok ea x1.1) .nil) ?_
  refine NmQ (fun v => history_Clash_J1 v = some r) (fun v => ⟨[(5, .ptr 5 0)], [(5, [.i 0, .i 0])], [], [], [(100000, ⟨51, 5, [], x1.2.map e_bunch⟩)]⟩) ?_ ?_
  ·refine Nblk ?_
   unfold history_Clash_L1 at hF
   refine Nitr hF [] (fun v1 => ⟨[(0, .sl 4 (l.map e_Span)), (5, .ptr 5 0), (7, .row 19 0), (20, .row 19 0), (21, .i (x1.1.length : Int)), (22, .i v1)], [(5, [.i 0, .i 0])], [(19, ⟨48, 1, 0, 0, 0, false, 1, [100000], (x1.1.map ea)⟩)], [], [(100000, ⟨51, 5, [], x1.2.map e_bunch⟩)]⟩) ?_
   intro n1 v1 y1 hF ih1 dn1
   unfold history_Clash_B1 at hF
   refine NAR [] [0, 5, 7, 20, 21, 22, 23] [5] [19] [] [100000] ⟨[(0, .sl 4 (l.map e_Span)), (5, .ptr 5 0), (7, .row 19 0), (20, .row 19 0), (21, .i (x1.1.length : Int)), (22, .i v1), (23, .bool (decide (v1 < (x1.1.length : Int))))], [(5, [.i 0, .i 0])], [(19, ⟨48, 1, 0, 0, 0, false, 1, [100000], (x1.1.map ea)⟩)], [], [(100000, ⟨51, 5, [], x1.2.map e_bunch⟩)]⟩ .nil ?_
   refine Nif hF ?_ ?_ <;> intro hb hF
   ·refine Nblk ?_
    obtain ⟨h2, h3, hF⟩ := asrt2 hF
    refine NAR [.av (ea (lget x1.1 v1))] [0, 5, 7, 9, 20, 21, 22] [5] [19] [] [100000] ⟨[(0, .sl 4 (l.map e_Span)), (5, .ptr 5 0), (7, .row 19 0), (9, .aptr 100000 (lget x1.1 v1) 0), (20, .row 19 0), (21, .i (x1.1.length : Int)), (22, .i v1)], [(5, [.i 0, .i 0])], [(19, ⟨48, 1, 0, 0, 0, false, 1, [100000], (x1.1.map ea)⟩)], [], [(100000, ⟨51, 5, [], x1.2.map e_bunch⟩)]⟩ (hc (ixr_ok ea h2) (hc (ldr_ok ea h3) .nil)) ?_
    refine NAR [.nat (x1.1.length : Int)] [0, 5, 7, 9, 20, 21, 22, 26, 27, 28] [5] [19] [] [100000] ⟨[(0, .sl 4 (l.map e_Span)), (5, .ptr 5 0), (7, .row 19 0), (9, .aptr 100000 (lget x1.1 v1) 0), (20, .row 19 0), (21, .i (x1.1.length : Int)), (22, .i v1), (26, .row 19 0), (27, .i (x1.1.length : Int)), (28, .i 0)], [(5, [.i 0, .i 0])], [(19, ⟨48, 1, 0, 0, 0, false, 1, [100000], (x1.1.map ea)⟩)], [], [(100000, ⟨51, 5, [], x1.2.map e_bunch⟩)]⟩ (hc (len_ok ea x1.1) .nil) ?_
    refine NmQ (fun v2 => history_Clash_J2 v1 v2 = some y1) (fun v2 => ⟨[(0, .sl 4 (l.map e_Span)), (5, .ptr 5 0), (7, .row 19 0), (20, .row 19 0), (21, .i (x1.1.length : Int)), (22, .i v1)], [(5, [.i 0, .i 0])], [(19, ⟨48, 1, 0, 0, 0, false, 1, [100000], (x1.1.map ea)⟩)], [], [(100000, ⟨51, 5, [], x1.2.map e_bunch⟩)]⟩) ?_ ?_
    ·refine Nblk ?_
     unfold history_Clash_L2 at hF
     refine Nitr hF [] (fun v3 => ⟨[(0, .sl 4 (l.map e_Span)), (5, .ptr 5 0), (7, .row 19 0), (9, .aptr 100000 (lget x1.1 v1) 0), (20, .row 19 0), (21, .i (x1.1.length : Int)), (22, .i v1), (26, .row 19 0), (27, .i (x1.1.length : Int)), (28, .i v3)], [(5, [.i 0, .i 0])], [(19, ⟨48, 1, 0, 0, 0, false, 1, [100000], (x1.1.map ea)⟩)], [], [(100000, ⟨51, 5, [], x1.2.map e_bunch⟩)]⟩) ?_
     intro n2 v3 y2 hF ih2 dn2
     unfold history_Clash_B2 at hF
     refine NAR [] [0, 5, 7, 9, 20, 21, 22, 26, 27, 28, 29] [5] [19] [] [100000] ⟨[(0, .sl 4 (l.map e_Span)), (5, .ptr 5 0), (7, .row 19 0), (9, .aptr 100000 (lget x1.1 v1) 0), (20, .row 19 0), (21, .i (x1.1.length : Int)), (22, .i v1), (26, .row 19 0), (27, .i (x1.1.length : Int)), (28, .i v3), (29, .bool (decide (v3 < (x1.1.length : Int))))], [(5, [.i 0, .i 0])], [(19, ⟨48, 1, 0, 0, 0, false, 1, [100000], (x1.1.map ea)⟩)], [], [(100000, ⟨51, 5, [], x1.2.map e_bunch⟩)]⟩ .nil ?_
     refine Nif hF ?_ ?_ <;> intro hb hF
     ·refine Nblk ?_
      obtain ⟨h4, h5, hF⟩ := asrt2 hF
      refine NAR [.av (ea (lget x1.1 v3))] [0, 5, 7, 9, 11, 20, 21, 22, 26, 27, 28] [5] [19] [] [100000] ⟨[(0, .sl 4 (l.map e_Span)), (5, .ptr 5 0), (7, .row 19 0), (9, .aptr 100000 (lget x1.1 v1) 0), (11, .aptr 100000 (lget x1.1 v3) 0), (20, .row 19 0), (21, .i (x1.1.length : Int)), (22, .i v1), (26, .row 19 0), (27, .i (x1.1.length : Int)), (28, .i v3)], [(5, [.i 0, .i 0])], [(19, ⟨48, 1, 0, 0, 0, false, 1, [100000], (x1.1.map ea)⟩)], [], [(100000, ⟨51, 5, [], x1.2.map e_bunch⟩)]⟩ (hc (ixr_ok ea h4) (hc (ldr_ok ea h5) .nil)) ?_
      obtain ⟨h6, hF⟩ := aE hF
      obtain ⟨x2, h7, hF⟩ := oE hF
      obtain ⟨h8, hF⟩ := aE hF
      obtain ⟨x3, h9, hF⟩ := oE hF
      refine NAR [.bo (decide ((lget x1.1 v1) = (lget x1.1 v3))), .callR [] [] [] [100000] (.bool x2), .bo (decide ((lget x1.1 v1) = (lget x1.1 v3))), .callR [] [] [] [100000] (.bool x3)] [0, 5, 7, 9, 11, 20, 21, 22, 26, 27, 28, 49] [5] [19] [] [100000] ⟨[(0, .sl 4 (l.map e_Span)), (5, .ptr 5 0), (7, .row 19 0), (9, .aptr 100000 (lget x1.1 v1) 0), (11, .aptr 100000 (lget x1.1 v3) 0), (20, .row 19 0), (21, .i (x1.1.length : Int)), (22, .i v1), (26, .row 19 0), (27, .i (x1.1.length : Int)), (28, .i v3), (49, .bool (((decide ((lget x1.1 v1) = (lget x1.1 v3))) && x2) || ((!(decide ((lget x1.1 v1) = (lget x1.1 v3)))) && x3)))], [(5, [.i 0, .i 0])], [(19, ⟨48, 1, 0, 0, 0, false, 1, [100000], (x1.1.map ea)⟩)], [], [(100000, ⟨51, 5, [], x1.2.map e_bunch⟩)]⟩ (hc (nhL (f := e_bunch) (fun _ => rfl) x1.2) (hc (alen_ok e_bunch h6.1) (hc (alen_ok e_bunch h6.2) (hc (decide_eq_true_iff (p := (lget x1.1 v1) = (lget x1.1 v3))) (hc (fun (ga0 : (decide ((lget x1.1 v1) = (lget x1.1 v3))) = true) => (Pe.ren (history_bunch_alone_ok (ite_t h7 ga0)) ⟨[], [], [], []⟩)) (hc (fun (_ : (!((decide ((lget x1.1 v1) = (lget x1.1 v3))) && x2)) = true) => (nhL (f := e_bunch) (fun _ => rfl) x1.2)) (hc (fun (ga0 : (!((decide ((lget x1.1 v1) = (lget x1.1 v3))) && x2)) = true) => (alen_ok e_bunch (h8 ga0).1)) (hc (fun (ga0 : (!((decide ((lget x1.1 v1) = (lget x1.1 v3))) && x2)) = true) => (alen_ok e_bunch (h8 ga0).2)) (hc (fun (_ : (!((decide ((lget x1.1 v1) = (lget x1.1 v3))) && x2)) = true) => (decide_eq_true_iff (p := (lget x1.1 v1) = (lget x1.1 v3)))) (hc (fun (ga0 : (!(decide ((lget x1.1 v1) = (lget x1.1 v3)))) = true) (ga1 : (!((decide ((lget x1.1 v1) = (lget x1.1 v3))) && x2)) = true) => (Pe.ren (history_clash_ok (ite_t (ite_t h9 ga0) ga1)) ⟨[], [], [], []⟩)) .nil)))))))))) ?_
      refine Nif hF ?_ ?_ <;> intro hb hF
      ·obtain ⟨h10, hF⟩ := aE hF
       obtain ⟨h11, hF⟩ := aE hF
       refine NAD [.av (e_bunch (lget x1.2 (((lget x1.1 v1) : Nat) : Int))), .av (e_bunch (lget x1.2 (((lget x1.1 v3) : Nat) : Int)))] [2, 3, 4, 5] [5] [] [] [100000] ⟨[(2, .i ((lget x1.2 (((lget x1.1 v1) : Nat) : Int)).value)), (3, .i ((lget x1.2 (((lget x1.1 v3) : Nat) : Int)).value)), (4, .bool true), (5, .ptr 5 0)], [(5, [.i 0, .i 0])], [], [], [(100000, ⟨51, 5, [], x1.2.map e_bunch⟩)]⟩ (hc (ldr_ok e_bunch h10) (hc (ldr_ok e_bunch h11) .nil)) ?_
       have hF := ret_done hF dn2
       have hF := ret_done hF dn1
       cases hF
       exact Wz [] hfin
      ·refine NAR [] [0, 5, 7, 9, 20, 21, 22, 26, 27, 28] [5] [19] [] [100000] ⟨[(0, .sl 4 (l.map e_Span)), (5, .ptr 5 0), (7, .row 19 0), (9, .aptr 100000 (lget x1.1 v1) 0), (20, .row 19 0), (21, .i (x1.1.length : Int)), (22, .i v1), (26, .row 19 0), (27, .i (x1.1.length : Int)), (28, .i (w64 (v3 + 1)))], [(5, [.i 0, .i 0])], [(19, ⟨48, 1, 0, 0, 0, false, 1, [100000], (x1.1.map ea)⟩)], [], [(100000, ⟨51, 5, [], x1.2.map e_bunch⟩)]⟩ .nil ?_
       exact Nrnq [] hF ih2
     ·refine Nexit rfl ?_
      have hF := inrO_done hF dn2
      exact metQ () [] hF
    ·intro v2 hF
     unfold history_Clash_J2 at hF
     refine NAR [] [0, 5, 7, 20, 21, 22] [5] [19] [] [100000] ⟨[(0, .sl 4 (l.map e_Span)), (5, .ptr 5 0), (7, .row 19 0), (20, .row 19 0), (21, .i (x1.1.length : Int)), (22, .i (w64 (v1 + 1)))], [(5, [.i 0, .i 0])], [(19, ⟨48, 1, 0, 0, 0, false, 1, [100000], (x1.1.map ea)⟩)], [], [(100000, ⟨51, 5, [], x1.2.map e_bunch⟩)]⟩ .nil ?_
     exact Nrnq [] hF ih1
   ·refine Nexit rfl ?_
    have hF := inrO_done hF dn1
    exact metQ () [] hF
  ·intro v hF
   unfold history_Clash_J1 at hF
   refine NAR [] [2, 3, 4, 5] [5] [] [] [100000] ⟨[(2, .i 0), (3, .i 0), (4, .bool false), (5, .ptr 5 0)], [(5, [.i 0, .i 0])], [], [], [(100000, ⟨51, 5, [], x1.2.map e_bunch⟩)]⟩ .nil ?_
   cases hF
   exact Wz [] hfin

/- history.Linear -/
def history_Linear (l : List Span) : Option (Bool × Fault) :=
 ob (history_Clash l) fun x =>
 some ((decide (x.2.2.2.Code = 0)) && (!x.2.2.1), x.2.2.2)
theorem history_Linear_ok {l r} (hF : history_Linear l = some r) : Pe Try.prog 14 S.none [.sl 4 (l.map e_Span)] (.tup [.bool r.1, .agg (c_Fault r.2)]) S.none := by
 refine PT 23 [.tmp 2, .cell 3 26] [4, 26] Try.func14 ?_
 intro Q g hfin
 unfold history_Linear at hF
 refine LR0 ?_
 obtain ⟨x, h0, hF⟩ := oE hF
 refine RJ (.b (history_Clash_ok h0) .z) ?_
 refine LD0 ?_
 cases hF
 exact Wz [] hfin

/- tabularylaw.historyBegun -/
def law_historyBegun  : Option Bool :=
 ob (history_Clash [(⟨1, 1, 0, 2⟩ : Span), (⟨2, 0, 3, 5⟩ : Span)]) fun x =>
 ob (history_Linear [(⟨1, 1, 0, 9⟩ : Span), (⟨2, 0, 3, 5⟩ : Span)]) fun x1 =>
 lt ((((((decide (x.2.2.2.Code = 0)) && (decide (x1.2.Code = 0))) && (decide (x.1 = 0))) && (decide (x.2.1 = 1))) && x.2.2.1) && x1.1) fun v =>
 some v
theorem law_historyBegun_ok { r} (hF : law_historyBegun  = some r) : Pe Try.prog 6 S.none [] (.bool r) S.none := by
 refine PT 45 [.tmp 0] [4] Try.func6 ?_
 intro Q g hfin
 unfold law_historyBegun at hF
 refine LR0 ?_
 obtain ⟨x, h0, hF⟩ := oE hF
 refine RJ (.a (.sealed) (.b (history_Clash_ok h0) .z)) ?_
 obtain ⟨x1, h1, hF⟩ := oE hF
 refine RJ (.a (.sealed) (.b (history_Linear_ok h1) .z)) ?_
 refine NRL ((((((decide (x.2.2.2.Code = 0)) && (decide (x1.2.Code = 0))) && (decide (x.1 = 0))) && (decide (x.2.1 = 1))) && x.2.2.1) && x1.1) (fun v : Bool => ([(0, .bool v)], [], [], [])) [] [0] [] [] [] .nil (fun v hv => ?_)
 have hF := lt_elim hF hv
 cases hF
 exact Wz [] hfin

/- tabularylaw.ownSpans -/
def law_ownSpans_v1 (l : List Span) : Option (List Span) :=
 asrt ((l.length : Int) * 32 ≤ 140737488351232) <|
 some l

/- tabularyref.F -/
def R_F (code at0 : Int) : Fault :=
 (⟨code, at0⟩ : Fault)
theorem R_F_ok {code at0 r} (hF : R_F code at0 = r) : Pe Try.prog 22 S.none [.i code, .i at0] (.agg (c_Fault r)) S.none := by
 refine PT 8 [.cell 4 26] [26] Try.func22 ?_
 intro Q g hfin
 unfold R_F at hF
 refine LR0 ?_
 refine LR0 ?_
 cases hF
 exact Wz [] hfin

/- tabularyref.Num -/
def R_Num (num : Int) : Bool :=
 (decide (0 ≤ num)) && (decide (num ≤ 1000000000))
theorem R_Num_ok {num r} (hF : R_Num num = r) : Pe Try.prog 23 S.none [.i num] (.bool r) S.none := by
 refine PT 9 [.tmp 2] [4] Try.func23 ?_
 intro Q g hfin
 unfold R_Num at hF
 refine LR0 ?_
 refine LR0 ?_
 cases hF
 exact Wz [] hfin

/- tabularyref.SpansFault -/
def R_SpansFault_J1 (v : Unit) : Option Fault :=
 some (⟨0, 0⟩ : Fault)
def R_SpansFault_J2 (v1 : Int) (v2 : Unit) : Option (Int ⊕ Fault) :=
 some (Sum.inl (w64 (v1 + 1)))
def R_SpansFault_B2 (l : List Span) (v1 v3 : Int) : Option (Int ⊕ (Int ⊕ Fault)) :=
 if (decide (v3 < v1)) = true then
  asrt ((decide (((lget l v1).Kind) = 1)) = true → 0 ≤ v3 ∧ v3 < (l.length : Int)) <|
  asrt (((decide (((lget l v1).Kind) = 1)) && (decide (((lget l v3).Kind) = 1))) = true → 0 ≤ v3 ∧ v3 < (l.length : Int)) <|
  if (((decide (((lget l v1).Kind) = 1)) && (decide (((lget l v3).Kind) = 1))) && (decide (((lget l v3).Value) = ((lget l v1).Value)))) = true then
   lt (R_F 10 v1) fun x6 =>
   some (Sum.inr (Sum.inr x6))
  else
   some (Sum.inl (w64 (v3 + 1)))
 else
  inrO (R_SpansFault_J2 v1 ())
def R_SpansFault_L2 (l : List Span) (v1 v0 : Int) : Option (Int ⊕ Fault) :=
 loopO (fun y => R_SpansFault_B2 l v1 y) v0
def R_SpansFault_B1 (l : List Span) (v1 : Int) : Option (Int ⊕ Fault) :=
 if (decide (v1 < (l.length : Int))) = true then
  asrt (0 ≤ v1 ∧ v1 < (l.length : Int)) <|
  if ((decide (((lget l v1).Kind) < 1)) || (decide (2 < ((lget l v1).Kind)))) = true then
   lt (R_F 4 v1) fun x1 =>
   some (Sum.inr x1)
  else
   lt (R_Num ((lget l v1).Value)) fun x2 =>
   lt (R_Num ((lget l v1).From)) fun x3 =>
   lt (R_Num ((lget l v1).To)) fun x4 =>
   if ((((!x2) || ((decide (((lget l v1).Kind) = 1)) && (decide (((lget l v1).Value) = 0)))) || (!x3)) || ((!decide (((lget l v1).To) = (-1))) && ((decide (((lget l v1).To) < ((lget l v1).From))) || (!x4)))) = true then
    lt (R_F 3 v1) fun x5 =>
    some (Sum.inr x5)
   else
    R_SpansFault_L2 l v1 0
 else
  inrO (R_SpansFault_J1 ())
def R_SpansFault_L1 (l : List Span) (v0 : Int) : Option Fault :=
 loopO (fun y => R_SpansFault_B1 l y) v0
def R_SpansFault (l : List Span) : Option Fault :=
 if (decide (200 < (l.length : Int))) = true then
  lt (R_F 2 (-1)) fun x =>
  some x
 else
  R_SpansFault_L1 l 0
theorem R_SpansFault_ok {l r} (hF : R_SpansFault l = some r) : Pe Try.prog 10 S.none [.sl 4 (l.map e_Span)] (.agg (c_Fault r)) S.none := by
 refine PT 99 [.cell 2 26] [26] Try.func10 ?_
 intro Q g hfin
 unfold R_SpansFault at hF
 refine LR0 ?_
 refine RJ (.l e_Span l .z) ?_
 refine Nif hF ?_ ?_ <;> intro hb hF
 ·obtain ⟨x, h0, hF⟩ := lS hF
  refine RJ (.b (R_F_ok h0) .z) ?_
  cases hF
  exact Wz [] hfin
 ·refine LR0 ?_
  refine NmS (fun v => R_SpansFault_J1 v = some r) (fun Z v => Z.up [2] [2] [] [] [] [] [] []) ?_ ?_
  ·refine Nblk ?_
   unfold R_SpansFault_L1 at hF
   refine Nits hF [] (fun Z v1 => Z.up [0, 2, 3] [2] [] [] [(3, .i v1)] [] [] []) ?_
   intro n1 v1 y1 hF ih1 dn1
   unfold R_SpansFault_B1 at hF
   refine RJ (.l e_Span l .z) ?_
   refine Nif hF ?_ ?_ <;> intro hb hF
   ·refine Nblk ?_
    obtain ⟨h1, hF⟩ := aE hF
    refine RJ (.i e_Span h1 .z) ?_
    refine LR0 ?_
    refine Nif hF ?_ ?_ <;> intro hb hF
    ·obtain ⟨x1, h2, hF⟩ := lS hF
     refine RJ (.b (R_F_ok h2) .z) ?_
     have hF := ret_done hF dn1
     cases hF
     exact Wz [] hfin
    ·obtain ⟨x2, h3, hF⟩ := lS hF
     obtain ⟨x3, h4, hF⟩ := lS hF
     obtain ⟨x4, h5, hF⟩ := lS hF
     refine RJ (.b (R_Num_ok h3) (.a (.callB (.bool x3)) (.g (fun (ga0 : (!((!x2) || ((decide (((lget l v1).Kind) = 1)) && (decide (((lget l v1).Value) = 0))))) = true) => (R_Num_ok h4)) (.a (.callB (.bool x4)) (.g (fun (ga0 : (!(decide (((lget l v1).To) < ((lget l v1).From)))) = true) (ga1 : (!decide (((lget l v1).To) = (-1))) = true) (ga2 : (!(((!x2) || ((decide (((lget l v1).Kind) = 1)) && (decide (((lget l v1).Value) = 0)))) || (!x3))) = true) => (R_Num_ok h5)) .z))))) ?_
     refine Nif hF ?_ ?_ <;> intro hb hF
     ·obtain ⟨x5, h6, hF⟩ := lS hF
      refine RJ (.b (R_F_ok h6) .z) ?_
      have hF := ret_done hF dn1
      cases hF
      exact Wz [] hfin
     ·refine LR0 ?_
      refine NmS (fun v2 => R_SpansFault_J2 v1 v2 = some y1) (fun Z v2 => Z.up [0, 2, 3] [2] [] [] [] [] [] []) ?_ ?_
      ·refine Nblk ?_
       unfold R_SpansFault_L2 at hF
       refine Nits hF [] (fun Z v3 => Z.up [0, 2, 3, 4, 5] [2, 4] [] [] [(5, .i v3)] [] [] []) ?_
       intro n2 v3 y2 hF ih2 dn2
       unfold R_SpansFault_B2 at hF
       refine LR0 ?_
       refine Nif hF ?_ ?_ <;> intro hb hF
       ·refine Nblk ?_
        obtain ⟨h7, h8, hF⟩ := asrt2 hF
        refine DJ (.a (.av (e_Span (lget l v3))) (.g (fun (ga0 : (decide (((lget l v1).Kind) = 1)) = true) => (idx_ok e_Span (h7 ga0))) (.a (.av (e_Span (lget l v3))) (.g (fun (ga0 : ((decide (((lget l v1).Kind) = 1)) && (decide (((lget l v3).Kind) = 1))) = true) => (idx_ok e_Span (h8 ga0))) .z)))) ?_
        refine Nif hF ?_ ?_ <;> intro hb hF
        ·obtain ⟨x6, h9, hF⟩ := lS hF
         refine RJ (.b (R_F_ok h9) .z) ?_
         have hF := ret_done hF dn2
         have hF := ret_done hF dn1
         cases hF
         exact Wz [] hfin
        ·refine LR0 ?_
         exact Nrnq [] hF ih2
       ·refine Nexit rfl ?_
        have hF := inrO_done hF dn2
        exact metQ () [] hF
      ·intro v2 hF
       unfold R_SpansFault_J2 at hF
       refine LR0 ?_
       exact Nrnq [] hF ih1
   ·refine Nexit rfl ?_
    have hF := inrO_done hF dn1
    exact metQ () [] hF
  ·intro v hF
   unfold R_SpansFault_J1 at hF
   refine LR0 ?_
   cases hF
   exact Wz [] hfin

/- tabularylaw.sameSpans -/
def law_sameSpans_J1 (v : Unit) : Option Bool :=
 some true
def law_sameSpans_B1 (a0 b : List Span) (v1 : Int) : Option (Int ⊕ Bool) :=
 if (decide (v1 < (a0.length : Int))) = true then
  asrt (0 ≤ v1 ∧ v1 < (a0.length : Int)) <|
  asrt (0 ≤ v1 ∧ v1 < (b.length : Int)) <|
  if (!(decide ((lget a0 v1).Kind = (lget b v1).Kind) && (decide ((lget a0 v1).Value = (lget b v1).Value) && (decide ((lget a0 v1).From = (lget b v1).From) && (decide ((lget a0 v1).To = (lget b v1).To) && true))))) = true then
   some (Sum.inr false)
  else
   some (Sum.inl (w64 (v1 + 1)))
 else
  inrO (law_sameSpans_J1 ())
def law_sameSpans_L1 (a0 b : List Span) (v0 : Int) : Option Bool :=
 loopO (fun y => law_sameSpans_B1 a0 b y) v0
def law_sameSpans (a0 b : List Span) : Option Bool :=
 if (!decide ((a0.length : Int) = (b.length : Int))) = true then
  some false
 else
  law_sameSpans_L1 a0 b 0

/- tabularyref.Counting -/
def R_Counting_J1 (v : List Int) : Option (List Int) :=
 some v
def R_Counting_J2 (l : List Span) (v1 : List Int × Int) (v2 : Bool) : Option ((List Int × Int) ⊕ (List Int)) :=
 asrt (0 ≤ v1.2 ∧ v1.2 < (l.length : Int)) <|
 asrt ((!(decide (0 ≤ ((lget l v1.2).To)))) = true → 0 ≤ v1.2 ∧ v1.2 < (l.length : Int)) <|
 ob (
  if ((decide (0 ≤ ((lget l v1.2).To))) || ((decide (((lget l v1.2).Kind) = 1)) && v2)) = true then
   asrt (((v1.1 ++ ([v1.2] : List Int)).length : Int) * 8 ≤ 140737488351232) <|
   some (v1.1 ++ ([v1.2] : List Int))
  else
   some v1.1) fun v3 =>
 some (Sum.inl (v3, w64 (v1.2 + 1)))
def R_Counting_B2 (l : List Span) (v1 : List Int × Int) (v4 : Bool × Int) : Option ((Bool × Int) ⊕ ((List Int × Int) ⊕ (List Int))) :=
 if (decide (v4.2 < (l.length : Int))) = true then
  asrt ((!v4.1) = true → 0 ≤ v4.2 ∧ v4.2 < (l.length : Int)) <|
  asrt ((decide (((lget l v4.2).Kind) = 2)) = true → (!v4.1) = true → 0 ≤ v4.2 ∧ v4.2 < (l.length : Int)) <|
  asrt ((decide (((lget l v4.2).Kind) = 2)) = true → (!v4.1) = true → 0 ≤ v1.2 ∧ v1.2 < (l.length : Int)) <|
  asrt (((decide (((lget l v4.2).Kind) = 2)) && (decide (((lget l v4.2).Value) = ((lget l v1.2).Value)))) = true → (!v4.1) = true → 0 ≤ v4.2 ∧ v4.2 < (l.length : Int)) <|
  lt (v4.1 || (((decide (((lget l v4.2).Kind) = 2)) && (decide (((lget l v4.2).Value) = ((lget l v1.2).Value)))) && (decide (0 ≤ ((lget l v4.2).To))))) fun v5 =>
  some (Sum.inl (v5, w64 (v4.2 + 1)))
 else
  inrO (R_Counting_J2 l v1 v4.1)
def R_Counting_L2 (l : List Span) (v1 : List Int × Int) (v0 : Bool × Int) : Option ((List Int × Int) ⊕ (List Int)) :=
 loopO (fun y => R_Counting_B2 l v1 y) v0
def R_Counting_B1 (l : List Span) (v1 : List Int × Int) : Option ((List Int × Int) ⊕ (List Int)) :=
 if (decide (v1.2 < (l.length : Int))) = true then
  R_Counting_L2 l v1 (false, 0)
 else
  inrO (R_Counting_J1 v1.1)
def R_Counting_L1 (l : List Span) (v0 : List Int × Int) : Option (List Int) :=
 loopO (fun y => R_Counting_B1 l y) v0
def R_Counting (l : List Span) : Option (List Int) :=
 R_Counting_L1 l (([] : List Int), 0)
theorem R_Counting_ok {l r} (hF : R_Counting l = some r) : Pe Try.prog 13 (.w []) [.sl 4 (l.map e_Span)] (.row 69 0) ⟨[], [], [(69, .z 3 1 0 (r.map e_i64))], [], []⟩ := by
 refine PT 71 [.tmp 2] [34] Try.func13 ?_
 intro Q g hfin
 unfold R_Counting at hF
 refine LR0 ?_
 refine LR0 ?_
 refine NR [] [0, 3, 4] [] [] [(0, .sl 4 (l.map e_Span)), (3, .nils), (4, .i 0)] .nil ?_
 refine NmQ (fun v => R_Counting_J1 v = some r) (fun v => ⟨[(3, .row 69 0)], [], [(69, .z 3 1 0 (v.map e_i64))], [], []⟩) ?_ ?_
 ·refine Nblk ?_
  unfold R_Counting_L1 at hF
  refine Wk_nilrow 3 60000 3 1 rfl rfl rfl ?_
  refine Wk_trim (fs := [0, 3, 4]) (bs := []) (rs := [60000]) (ms := []) (aa := []) (nv := []) rfl ?_
  refine Wk_ren' ⟨[], [(60000, 69)], [], []⟩ rfl ?_
  refine Nitr hF [] (fun v1 => ⟨[(0, .sl 4 (l.map e_Span)), (3, .row 69 0), (4, .i v1.2)], [], [(69, .z 3 1 0 (v1.1.map e_i64))], [], []⟩) ?_
  intro n1 v1 y1 hF ih1 dn1
  unfold R_Counting_B1 at hF
  refine RJ (.l e_Span l .z) ?_
  refine Nif hF ?_ ?_ <;> intro hb hF
  ·refine Nblk ?_
   refine LR0 ?_
   refine LR0 ?_
   refine NmS (fun v2 => R_Counting_J2 l v1 v2 = some y1) (fun Z v2 => Z.up [0, 3, 4, 5] [] [69] [] [(5, .bool v2)] [] [] []) ?_ ?_
   ·refine Nblk ?_
    unfold R_Counting_L2 at hF
    refine Nits hF [] (fun Z v4 => Z.up [0, 3, 4, 5, 6] [] [69] [] [(5, .bool v4.1), (6, .i v4.2)] [] [] []) ?_
    intro n2 v4 y2 hF ih2 dn2
    unfold R_Counting_B2 at hF
    refine RJ (.l e_Span l .z) ?_
    refine Nif hF ?_ ?_ <;> intro hb hF
    ·refine Nblk ?_
     obtain ⟨h3, h4, h5, h6, hF⟩ := asrt4 hF
     refine NDL (v4.1 || (((decide (((lget l v4.2).Kind) = 2)) && (decide (((lget l v4.2).Value) = ((lget l v1.2).Value)))) && (decide (0 ≤ ((lget l v4.2).To))))) (fun v5 : Bool => ([(5, .bool v5)], [], [], [])) [.av (e_Span (lget l v4.2)), .av (e_Span (lget l v4.2)), .av (e_Span (lget l v1.2)), .av (e_Span (lget l v4.2))] [0, 3, 4, 5, 6] [] [69] [] (hc (fun (ga0 : (!v4.1) = true) => (idx_ok e_Span (h3 ga0))) (hc (fun (ga0 : (decide (((lget l v4.2).Kind) = 2)) = true) (ga1 : (!v4.1) = true) => (idx_ok e_Span (h4 ga0 ga1))) (hc (fun (ga0 : (decide (((lget l v4.2).Kind) = 2)) = true) (ga1 : (!v4.1) = true) => (idx_ok e_Span (h5 ga0 ga1))) (hc (fun (ga0 : ((decide (((lget l v4.2).Kind) = 2)) && (decide (((lget l v4.2).Value) = ((lget l v1.2).Value)))) = true) (ga1 : (!v4.1) = true) => (idx_ok e_Span (h6 ga0 ga1))) .nil)))) (fun v5 hv => ?_)
     have hF := lt_elim hF hv
     refine LR0 ?_
     exact Nrnq [] hF ih2
    ·refine Nexit rfl ?_
     have hF := inrO_done hF dn2
     exact metQ v4.1 [] hF
   ·intro v2 hF
    unfold R_Counting_J2 at hF
    obtain ⟨h0, h1, hF⟩ := asrt2 hF
    refine RJ (.i e_Span h0 (.a (.av (e_Span (lget l v1.2))) (.g (fun (ga0 : (!(decide (0 ≤ ((lget l v1.2).To)))) = true) => (idx_ok e_Span (h1 ga0))) .z))) ?_
    obtain ⟨v3, hv, hF⟩ := oE hF
    refine NmT (fun Z => Z.up [0, 3, 4] [] [69] [] [] [] [(69, .z 3 1 0 (v3.map e_i64))] []) ?_ ?_
    ·have hF := hv
     refine Nif hF ?_ ?_ <;> intro hb hF
     ·obtain ⟨h2, hF⟩ := aE hF
      refine RJ (.a (.sealed) (.p e_i64 h2 .z)) ?_
      cases hF
      exact met' [(69, ⟨0, true, true, false⟩)]
     ·cases hF
      exact met' []
    ·refine LR0 ?_
     exact Nrnq [] hF ih1
  ·refine Nexit rfl ?_
   have hF := inrO_done hF dn1
   exact metQ v1.1 [] hF
 ·intro v hF
  unfold R_Counting_J1 at hF
  refine LR0 ?_
  cases hF
  exact Wz [] hfin

/- tabularyref.FirstEnd -/
def R_FirstEnd_J1 (v1 : Int) : Option Int :=
 some v1
def R_FirstEnd_B1 (l : List Span) (v : Int) (x : List Int) (v2 : Int × Int) : Option ((Int × Int) ⊕ Int) :=
 if (decide (v2.2 < (x.length : Int))) = true then
  asrt (0 ≤ v2.2 ∧ v2.2 < (x.length : Int)) <|
  asrt (0 ≤ v2.2 ∧ v2.2 < (x.length : Int)) <|
  asrt (0 ≤ (lget x v2.2) ∧ (lget x v2.2) < (l.length : Int)) <|
  ob (
   if (((decide (((lget l (lget x v2.2)).Value) = v)) && (decide (0 ≤ ((lget l (lget x v2.2)).To)))) && (decide (((lget l (lget x v2.2)).To) < v2.1))) = true then
    some ((lget l (lget x v2.2)).To)
   else
    some v2.1) fun v3 =>
  some (Sum.inl (v3, w64 (v2.2 + 1)))
 else
  inrO (R_FirstEnd_J1 v2.1)
def R_FirstEnd_L1 (l : List Span) (v : Int) (x : List Int) (v0 : Int × Int) : Option Int :=
 loopO (fun y => R_FirstEnd_B1 l v x y) v0
def R_FirstEnd (l : List Span) (v : Int) : Option Int :=
 if (decide (v = 0)) = true then
  some (-1)
 else
  ob (R_Counting l) fun x =>
  R_FirstEnd_L1 l v x (2000000000, 0)

/- tabularyref.LastBegin -/
def R_LastBegin_J1 (v1 : Int) : Option Int :=
 some v1
def R_LastBegin_B1 (l : List Span) (v : Int) (x : List Int) (v2 : Int × Int) : Option ((Int × Int) ⊕ Int) :=
 if (decide (v2.2 < (x.length : Int))) = true then
  asrt (0 ≤ v2.2 ∧ v2.2 < (x.length : Int)) <|
  asrt (0 ≤ v2.2 ∧ v2.2 < (x.length : Int)) <|
  asrt (0 ≤ (lget x v2.2) ∧ (lget x v2.2) < (l.length : Int)) <|
  ob (
   if ((decide (((lget l (lget x v2.2)).Value) = v)) && (decide (v2.1 < ((lget l (lget x v2.2)).From)))) = true then
    some ((lget l (lget x v2.2)).From)
   else
    some v2.1) fun v3 =>
  some (Sum.inl (v3, w64 (v2.2 + 1)))
 else
  inrO (R_LastBegin_J1 v2.1)
def R_LastBegin_L1 (l : List Span) (v : Int) (x : List Int) (v0 : Int × Int) : Option Int :=
 loopO (fun y => R_LastBegin_B1 l v x y) v0
def R_LastBegin (l : List Span) (v : Int) : Option Int :=
 ob (R_Counting l) fun x =>
 R_LastBegin_L1 l v x ((-1), 0)

/- tabularyref.SpanAhead -/
def R_SpanAhead (a0 b : Span) : Bool :=
 (decide (0 ≤ a0.To)) && (decide (a0.To < b.From))
theorem R_SpanAhead_ok {a0 b r} (hF : R_SpanAhead a0 b = r) : Pe Try.prog 28 S.none [.agg (c_Span a0), .agg (c_Span b)] (.bool r) S.none := by
 refine PT 15 [.tmp 4] [4] Try.func28 ?_
 intro Q g hfin
 unfold R_SpanAhead at hF
 refine LR0 ?_
 refine LR0 ?_
 cases hF
 exact Wz [] hfin

/- tabularyref.SelfClash -/
def R_SelfClash_J2 (v2 : Unit) : Option Bool :=
 some false
def R_SelfClash_B1 (l : List Span) (v v1 v3 : Int) : Option (Int ⊕ Bool) :=
 if (decide (v3 < (l.length : Int))) = true then
  asrt (0 ≤ v3 ∧ v3 < (l.length : Int)) <|
  asrt ((decide (((lget l v3).Kind) = 2)) = true → 0 ≤ v3 ∧ v3 < (l.length : Int)) <|
  asrt (((decide (((lget l v3).Kind) = 2)) && (decide (((lget l v3).Value) = v))) = true → 0 ≤ v3 ∧ v3 < (l.length : Int)) <|
  asrt (((decide (((lget l v3).Kind) = 2)) && (decide (((lget l v3).Value) = v))) = true → 0 ≤ v1 ∧ v1 < (l.length : Int)) <|
  lt (R_SpanAhead (⟨(lget l v3).Kind, (lget l v3).Value, (lget l v3).From, (lget l v3).To⟩ : Span) (⟨(lget l v1).Kind, (lget l v1).Value, (lget l v1).From, (lget l v1).To⟩ : Span)) fun x =>
  if (((decide (((lget l v3).Kind) = 2)) && (decide (((lget l v3).Value) = v))) && x) = true then
   some (Sum.inr true)
  else
   some (Sum.inl (w64 (v3 + 1)))
 else
  inrO (R_SelfClash_J2 ())
def R_SelfClash_L1 (l : List Span) (v v1 v0 : Int) : Option Bool :=
 loopO (fun y => R_SelfClash_B1 l v v1 y) v0
def R_SelfClash_J1 (l : List Span) (v v1 : Int) : Option Bool :=
 if (decide (v1 < 0)) = true then
  some true
 else
  R_SelfClash_L1 l v v1 0
def R_SelfClash_B2 (l : List Span) (v : Int) (v4 : Int × Int) : Option ((Int × Int) ⊕ Bool) :=
 if (decide (v4.2 < (l.length : Int))) = true then
  asrt (0 ≤ v4.2 ∧ v4.2 < (l.length : Int)) <|
  asrt ((decide (((lget l v4.2).Kind) = 1)) = true → 0 ≤ v4.2 ∧ v4.2 < (l.length : Int)) <|
  ob (
   if ((decide (((lget l v4.2).Kind) = 1)) && (decide (((lget l v4.2).Value) = v))) = true then
    some v4.2
   else
    some v4.1) fun v5 =>
  some (Sum.inl (v5, w64 (v4.2 + 1)))
 else
  inrO (R_SelfClash_J1 l v v4.1)
def R_SelfClash_L2 (l : List Span) (v : Int) (v0 : Int × Int) : Option Bool :=
 loopO (fun y => R_SelfClash_B2 l v y) v0
def R_SelfClash (l : List Span) (v : Int) : Option Bool :=
 if (decide (v = 0)) = true then
  some false
 else
  R_SelfClash_L2 l v ((-1), 0)

/- tabularyref.Clashing -/
def R_Clashing_J1 (v : Int × Int × Bool) : Option (Int × Int × Bool) :=
 some (v.1, v.2.1, v.2.2)
def R_Clashing_J2 (v1 : Int × Int × Bool × Int) (v2 : Int × Int × Bool) : Option ((Int × Int × Bool × Int) ⊕ (Int × Int × Bool)) :=
 some (Sum.inl (v2.1, v2.2.1, v2.2.2, w64 (v1.2.2.2 + 1)))
def R_Clashing_B2 (l : List Span) (x : List Int) (v1 v3 : Int × Int × Bool × Int) : Option ((Int × Int × Bool × Int) ⊕ ((Int × Int × Bool × Int) ⊕ (Int × Int × Bool))) :=
 if (decide (v3.2.2.2 < (x.length : Int))) = true then
  asrt (0 ≤ v1.2.2.2 ∧ v1.2.2.2 < (x.length : Int)) <|
  asrt (0 ≤ v1.2.2.2 ∧ v1.2.2.2 < (x.length : Int)) <|
  asrt (0 ≤ (lget x v1.2.2.2) ∧ (lget x v1.2.2.2) < (l.length : Int)) <|
  asrt (0 ≤ v3.2.2.2 ∧ v3.2.2.2 < (x.length : Int)) <|
  asrt (0 ≤ v3.2.2.2 ∧ v3.2.2.2 < (x.length : Int)) <|
  asrt (0 ≤ (lget x v3.2.2.2) ∧ (lget x v3.2.2.2) < (l.length : Int)) <|
  ob (if (!decide (((lget l (lget x v1.2.2.2)).Value) = ((lget l (lget x v3.2.2.2)).Value))) = true then (R_FirstEnd l ((lget l (lget x v1.2.2.2)).Value)) else some default) fun x1 =>
  ob (if (!decide (((lget l (lget x v1.2.2.2)).Value) = ((lget l (lget x v3.2.2.2)).Value))) = true then (R_LastBegin l ((lget l (lget x v3.2.2.2)).Value)) else some default) fun x2 =>
  ob (if ((!decide (((lget l (lget x v1.2.2.2)).Value) = ((lget l (lget x v3.2.2.2)).Value))) && (decide (x1 < x2))) = true then (R_FirstEnd l ((lget l (lget x v3.2.2.2)).Value)) else some default) fun x3 =>
  ob (if ((!decide (((lget l (lget x v1.2.2.2)).Value) = ((lget l (lget x v3.2.2.2)).Value))) && (decide (x1 < x2))) = true then (R_LastBegin l ((lget l (lget x v1.2.2.2)).Value)) else some default) fun x4 =>
  lt (((!decide (((lget l (lget x v1.2.2.2)).Value) = ((lget l (lget x v3.2.2.2)).Value))) && (decide (x1 < x2))) && (decide (x3 < x4))) fun v4 =>
  ob (
   if (decide (((lget l (lget x v1.2.2.2)).Value) = ((lget l (lget x v3.2.2.2)).Value))) = true then
    ob (R_SelfClash l ((lget l (lget x v1.2.2.2)).Value)) fun x5 =>
    some x5
   else
    some v4) fun v5 =>
  ob (
   if (v5 && (((!v3.2.2.1) || (decide (((lget l (lget x v1.2.2.2)).Value) < v3.1))) || ((decide (((lget l (lget x v1.2.2.2)).Value) = v3.1)) && (decide (((lget l (lget x v3.2.2.2)).Value) < v3.2.1))))) = true then
    some ((lget l (lget x v1.2.2.2)).Value, (lget l (lget x v3.2.2.2)).Value, true)
   else
    some (v3.1, v3.2.1, v3.2.2.1)) fun v6 =>
  some (Sum.inl (v6.1, v6.2.1, v6.2.2, w64 (v3.2.2.2 + 1)))
 else
  inrO (R_Clashing_J2 v1 (v3.1, v3.2.1, v3.2.2.1))
def R_Clashing_L2 (l : List Span) (x : List Int) (v1 v0 : Int × Int × Bool × Int) : Option ((Int × Int × Bool × Int) ⊕ (Int × Int × Bool)) :=
 loopO (fun y => R_Clashing_B2 l x v1 y) v0
def R_Clashing_B1 (l : List Span) (x : List Int) (v1 : Int × Int × Bool × Int) : Option ((Int × Int × Bool × Int) ⊕ (Int × Int × Bool)) :=
 if (decide (v1.2.2.2 < (x.length : Int))) = true then
  R_Clashing_L2 l x v1 (v1.1, v1.2.1, v1.2.2.1, 0)
 else
  inrO (R_Clashing_J1 (v1.1, v1.2.1, v1.2.2.1))
def R_Clashing_L1 (l : List Span) (x : List Int) (v0 : Int × Int × Bool × Int) : Option (Int × Int × Bool) :=
 loopO (fun y => R_Clashing_B1 l x y) v0
def R_Clashing (l : List Span) : Option (Int × Int × Bool) :=
 ob (R_Counting l) fun x =>
 R_Clashing_L1 l x (0, 0, false, 0)

/- tabularylaw.HistoryClashes -/
def law_HistoryClashes (l : List Span) : Option Bool :=
 ob (law_historyBegun) fun x =>
 if (!x) = true then
  some false
 else
  if (((decide (60 < (l.length : Int))) && (decide ((l.length : Int) < 201))) || (decide (400 < (l.length : Int)))) = true then
   some true
  else
   ob (law_ownSpans_v1 l) fun x1 =>
   ob (history_Check x1) fun x2 =>
   ob (history_Clash x1) fun x3 =>
   ob (R_SpansFault l) fun x4 =>
   ob (law_sameSpans x1 l) fun x5 =>
   if (((!x5) || (!(decide (x2.Code = x4.Code) && (decide (x2.At = x4.At) && true)))) || (!(decide (x3.2.2.2.Code = x4.Code) && (decide (x3.2.2.2.At = x4.At) && true)))) = true then
    some false
   else
    if (!decide (x4.Code = 0)) = true then
     some (((decide (x3.1 = 0)) && (decide (x3.2.1 = 0))) && (!x3.2.2.1))
    else
     ob (R_Clashing l) fun x6 =>
     lt (((decide (x3.1 = x6.1)) && (decide (x3.2.1 = x6.2.1))) && (x3.2.2.1 == x6.2.2)) fun v =>
     some v

/- tabularyref.Counting -/
def R_Counting_v1_J1 (v : List Int) : Option (List Int) :=
 some v
def R_Counting_v1_J2 (l : List Span) (v1 : List Int × Int) (v2 : Bool) : Option ((List Int × Int) ⊕ (List Int)) :=
 asrt (0 ≤ v1.2 ∧ v1.2 < (l.length : Int)) <|
 asrt ((!(decide (0 ≤ ((lget l v1.2).To)))) = true → 0 ≤ v1.2 ∧ v1.2 < (l.length : Int)) <|
 ob (
  if ((decide (0 ≤ ((lget l v1.2).To))) || ((decide (((lget l v1.2).Kind) = 1)) && v2)) = true then
   asrt (((v1.1 ++ ([v1.2] : List Int)).length : Int) * 8 ≤ 140737488351232) <|
   some (v1.1 ++ ([v1.2] : List Int))
  else
   some v1.1) fun v3 =>
 some (Sum.inl (v3, w64 (v1.2 + 1)))
def R_Counting_v1_B2 (l : List Span) (v1 : List Int × Int) (v4 : Bool × Int) : Option ((Bool × Int) ⊕ ((List Int × Int) ⊕ (List Int))) :=
 if (decide (v4.2 < (l.length : Int))) = true then
  asrt ((!v4.1) = true → 0 ≤ v4.2 ∧ v4.2 < (l.length : Int)) <|
  asrt ((decide (((lget l v4.2).Kind) = 2)) = true → (!v4.1) = true → 0 ≤ v4.2 ∧ v4.2 < (l.length : Int)) <|
  asrt ((decide (((lget l v4.2).Kind) = 2)) = true → (!v4.1) = true → 0 ≤ v1.2 ∧ v1.2 < (l.length : Int)) <|
  asrt (((decide (((lget l v4.2).Kind) = 2)) && (decide (((lget l v4.2).Value) = ((lget l v1.2).Value)))) = true → (!v4.1) = true → 0 ≤ v4.2 ∧ v4.2 < (l.length : Int)) <|
  lt (v4.1 || (((decide (((lget l v4.2).Kind) = 2)) && (decide (((lget l v4.2).Value) = ((lget l v1.2).Value)))) && (decide (0 ≤ ((lget l v4.2).To))))) fun v5 =>
  some (Sum.inl (v5, w64 (v4.2 + 1)))
 else
  inrO (R_Counting_v1_J2 l v1 v4.1)
def R_Counting_v1_L2 (l : List Span) (v1 : List Int × Int) (v0 : Bool × Int) : Option ((List Int × Int) ⊕ (List Int)) :=
 loopO (fun y => R_Counting_v1_B2 l v1 y) v0
def R_Counting_v1_B1 (l : List Span) (v1 : List Int × Int) : Option ((List Int × Int) ⊕ (List Int)) :=
 if (decide (v1.2 < (l.length : Int))) = true then
  R_Counting_v1_L2 l v1 (false, 0)
 else
  inrO (R_Counting_v1_J1 v1.1)
def R_Counting_v1_L1 (l : List Span) (v0 : List Int × Int) : Option (List Int) :=
 loopO (fun y => R_Counting_v1_B1 l y) v0
def R_Counting_v1 (l : List Span) : Option (List Int) :=
 R_Counting_v1_L1 l (([] : List Int), 0)
theorem R_Counting_v1_ok {l r} (hF : R_Counting_v1 l = some r) : Pe Try.prog 13 S.none [.sl 4 (l.map e_Span)] (.sl 1 (r.map e_i64)) S.none := by
 refine PT 71 [.tmp 2] [34] Try.func13 ?_
 intro Q g hfin
 unfold R_Counting_v1 at hF
 refine LR0 ?_
 refine LR0 ?_
 refine NR [] [0, 3, 4] [] [] [(0, .sl 4 (l.map e_Span)), (3, .nils), (4, .i 0)] .nil ?_
 refine NmQ (fun v => R_Counting_v1_J1 v = some r) (fun v => ⟨[(3, .row 69 0)], [], [(69, .z 3 1 0 (v.map e_i64))], [], []⟩) ?_ ?_
 ·refine Nblk ?_
  unfold R_Counting_v1_L1 at hF
  refine Wk_nilrow 3 60000 3 1 rfl rfl rfl ?_
  refine Wk_trim (fs := [0, 3, 4]) (bs := []) (rs := [60000]) (ms := []) (aa := []) (nv := []) rfl ?_
  refine Wk_ren' ⟨[], [(60000, 69)], [], []⟩ rfl ?_
  refine Nitr hF [] (fun v1 => ⟨[(0, .sl 4 (l.map e_Span)), (3, .row 69 0), (4, .i v1.2)], [], [(69, .z 3 1 0 (v1.1.map e_i64))], [], []⟩) ?_
  intro n1 v1 y1 hF ih1 dn1
  unfold R_Counting_v1_B1 at hF
  refine RJ (.l e_Span l .z) ?_
  refine Nif hF ?_ ?_ <;> intro hb hF
  ·refine Nblk ?_
   refine LR0 ?_
   refine LR0 ?_
   refine NmS (fun v2 => R_Counting_v1_J2 l v1 v2 = some y1) (fun Z v2 => Z.up [0, 3, 4, 5] [] [69] [] [(5, .bool v2)] [] [] []) ?_ ?_
   ·refine Nblk ?_
    unfold R_Counting_v1_L2 at hF
    refine Nits hF [] (fun Z v4 => Z.up [0, 3, 4, 5, 6] [] [69] [] [(5, .bool v4.1), (6, .i v4.2)] [] [] []) ?_
    intro n2 v4 y2 hF ih2 dn2
    unfold R_Counting_v1_B2 at hF
    refine RJ (.l e_Span l .z) ?_
    refine Nif hF ?_ ?_ <;> intro hb hF
    ·refine Nblk ?_
     obtain ⟨h3, h4, h5, h6, hF⟩ := asrt4 hF
     refine NDL (v4.1 || (((decide (((lget l v4.2).Kind) = 2)) && (decide (((lget l v4.2).Value) = ((lget l v1.2).Value)))) && (decide (0 ≤ ((lget l v4.2).To))))) (fun v5 : Bool => ([(5, .bool v5)], [], [], [])) [.av (e_Span (lget l v4.2)), .av (e_Span (lget l v4.2)), .av (e_Span (lget l v1.2)), .av (e_Span (lget l v4.2))] [0, 3, 4, 5, 6] [] [69] [] (hc (fun (ga0 : (!v4.1) = true) => (idx_ok e_Span (h3 ga0))) (hc (fun (ga0 : (decide (((lget l v4.2).Kind) = 2)) = true) (ga1 : (!v4.1) = true) => (idx_ok e_Span (h4 ga0 ga1))) (hc (fun (ga0 : (decide (((lget l v4.2).Kind) = 2)) = true) (ga1 : (!v4.1) = true) => (idx_ok e_Span (h5 ga0 ga1))) (hc (fun (ga0 : ((decide (((lget l v4.2).Kind) = 2)) && (decide (((lget l v4.2).Value) = ((lget l v1.2).Value)))) = true) (ga1 : (!v4.1) = true) => (idx_ok e_Span (h6 ga0 ga1))) .nil)))) (fun v5 hv => ?_)
     have hF := lt_elim hF hv
     refine LR0 ?_
     exact Nrnq [] hF ih2
    ·refine Nexit rfl ?_
     have hF := inrO_done hF dn2
     exact metQ v4.1 [] hF
   ·intro v2 hF
    unfold R_Counting_v1_J2 at hF
    obtain ⟨h0, h1, hF⟩ := asrt2 hF
    refine RJ (.i e_Span h0 (.a (.av (e_Span (lget l v1.2))) (.g (fun (ga0 : (!(decide (0 ≤ ((lget l v1.2).To)))) = true) => (idx_ok e_Span (h1 ga0))) .z))) ?_
    obtain ⟨v3, hv, hF⟩ := oE hF
    refine NmT (fun Z => Z.up [0, 3, 4] [] [69] [] [] [] [(69, .z 3 1 0 (v3.map e_i64))] []) ?_ ?_
    ·have hF := hv
     refine Nif hF ?_ ?_ <;> intro hb hF
     ·obtain ⟨h2, hF⟩ := aE hF
      refine RJ (.a (.sealed) (.p e_i64 h2 .z)) ?_
      cases hF
      exact met' [(69, ⟨0, true, true, false⟩)]
     ·cases hF
      exact met' []
    ·refine LR0 ?_
     exact Nrnq [] hF ih1
  ·refine Nexit rfl ?_
   have hF := inrO_done hF dn1
   exact metQ v1.1 [] hF
 ·intro v hF
  unfold R_Counting_v1_J1 at hF
  refine LR0 ?_
  cases hF
  exact Wz [] hfin

/- tabularyref.Has -/
def R_Has_J1 (v : Unit) : Option Bool :=
 some false
def R_Has_B1 (l : List Int) (num v1 : Int) : Option (Int ⊕ Bool) :=
 if (decide (v1 < (l.length : Int))) = true then
  asrt (0 ≤ v1 ∧ v1 < (l.length : Int)) <|
  if (decide ((lget l v1) = num)) = true then
   some (Sum.inr true)
  else
   some (Sum.inl (w64 (v1 + 1)))
 else
  inrO (R_Has_J1 ())
def R_Has_L1 (l : List Int) (num v0 : Int) : Option Bool :=
 loopO (fun y => R_Has_B1 l num y) v0
def R_Has (l : List Int) (num : Int) : Option Bool :=
 R_Has_L1 l num 0
theorem R_Has_ok {l num r} (hF : R_Has l num = some r) : Pe Try.prog 27 S.none [.sl 1 (l.map e_i64), .i num] (.bool r) S.none := by
 refine PT 18 [.tmp 4] [4] Try.func27 ?_
 intro Q g hfin
 unfold R_Has at hF
 refine LR0 ?_
 refine LR0 ?_
 refine NmQ (fun v => R_Has_J1 v = some r) (fun v => (.w [])) ?_ ?_
 ·refine Nblk ?_
  unfold R_Has_L1 at hF
  refine Nits hF [] (fun Z v1 => Z.up [0, 1, 5] [] [] [] [(5, .i v1)] [] [] []) ?_
  intro n1 v1 y1 hF ih1 dn1
  unfold R_Has_B1 at hF
  refine RJ (.l e_i64 l .z) ?_
  refine Nif hF ?_ ?_ <;> intro hb hF
  ·refine Nblk ?_
   obtain ⟨h0, hF⟩ := aE hF
   refine RJ (.i e_i64 h0 .z) ?_
   refine Nif hF ?_ ?_ <;> intro hb hF
   ·refine LR0 ?_
    have hF := ret_done hF dn1
    cases hF
    exact Wz [] hfin
   ·refine LR0 ?_
    exact Nrnq [] hF ih1
  ·refine Nexit rfl ?_
   have hF := inrO_done hF dn1
   exact metQ () [] hF
 ·intro v hF
  unfold R_Has_J1 at hF
  refine LR0 ?_
  cases hF
  exact Wz [] hfin

/- tabularyref.AnyOrder -/
def R_AnyOrder_J1 (v : Unit) : Option Bool :=
 some false
def R_AnyOrder_J2 (v1 : Int) (v2 : Unit) : Option (Int ⊕ Bool) :=
 some (Sum.inl (w64 (v1 + 1)))
def R_AnyOrder_J3 (l : List Span) (done : List Int) (now : Int) (rec : (List Span × List Int × Int) → Option Bool) (x : List Int) (v1 : Int) (v3 : Bool) : Option (Int ⊕ Bool) :=
 if v3 = true then
  R_AnyOrder_J2 v1 ()
 else
  ob (
   if (decide (((lget l (lget x v1)).Kind) = 1)) = true then
    some ((lget l (lget x v1)).Value)
   else
    some now) fun v4 =>
  asrt ((done.length : Int) * 8 ≤ 140737488351232) <|
  asrt (0 ≤ v1 ∧ v1 < (x.length : Int)) <|
  asrt (0 ≤ v1 ∧ v1 < (x.length : Int)) <|
  asrt (((done ++ ([(lget x v1)] : List Int)).length : Int) * 8 ≤ 140737488351232) <|
  ob (rec (l, (done ++ ([(lget x v1)] : List Int)), v4)) fun x2 =>
  if x2 = true then
   some (Sum.inr true)
  else
   R_AnyOrder_J2 v1 ()
def R_AnyOrder_B2 (l : List Span) (done : List Int) (now : Int) (rec : (List Span × List Int × Int) → Option Bool) (x : List Int) (v1 : Int) (v5 : Bool × Int) : Option ((Bool × Int) ⊕ (Int ⊕ Bool)) :=
 if (decide (v5.2 < (x.length : Int))) = true then
  asrt ((!v5.1) = true → 0 ≤ v5.2 ∧ v5.2 < (x.length : Int)) <|
  asrt ((!v5.1) = true → 0 ≤ v5.2 ∧ v5.2 < (x.length : Int)) <|
  ob (if (!v5.1) = true then (R_Has done (lget x v5.2)) else some default) fun x3 =>
  asrt ((!x3) = true → (!v5.1) = true → 0 ≤ v5.2 ∧ v5.2 < (x.length : Int)) <|
  asrt ((!x3) = true → (!v5.1) = true → 0 ≤ v5.2 ∧ v5.2 < (x.length : Int)) <|
  asrt ((!x3) = true → (!v5.1) = true → 0 ≤ (lget x v5.2) ∧ (lget x v5.2) < (l.length : Int)) <|
  lt (R_SpanAhead (⟨(lget l (lget x v5.2)).Kind, (lget l (lget x v5.2)).Value, (lget l (lget x v5.2)).From, (lget l (lget x v5.2)).To⟩ : Span) (⟨(lget l (lget x v1)).Kind, (lget l (lget x v1)).Value, (lget l (lget x v1)).From, (lget l (lget x v1)).To⟩ : Span)) fun x4 =>
  some (Sum.inl (v5.1 || ((!x3) && x4), w64 (v5.2 + 1)))
 else
  inrO (R_AnyOrder_J3 l done now rec x v1 v5.1)
def R_AnyOrder_L2 (l : List Span) (done : List Int) (now : Int) (rec : (List Span × List Int × Int) → Option Bool) (x : List Int) (v1 : Int) (v0 : Bool × Int) : Option (Int ⊕ Bool) :=
 loopO (fun y => R_AnyOrder_B2 l done now rec x v1 y) v0
def R_AnyOrder_B1 (l : List Span) (done : List Int) (now : Int) (rec : (List Span × List Int × Int) → Option Bool) (x : List Int) (v1 : Int) : Option (Int ⊕ Bool) :=
 if (decide (v1 < (x.length : Int))) = true then
  asrt (0 ≤ v1 ∧ v1 < (x.length : Int)) <|
  asrt (0 ≤ v1 ∧ v1 < (x.length : Int)) <|
  asrt (0 ≤ (lget x v1) ∧ (lget x v1) < (l.length : Int)) <|
  asrt (0 ≤ v1 ∧ v1 < (x.length : Int)) <|
  asrt (0 ≤ v1 ∧ v1 < (x.length : Int)) <|
  ob (R_Has done (lget x v1)) fun x1 =>
  if (x1 || ((decide (((lget l (lget x v1)).Kind) = 2)) && (!decide (((lget l (lget x v1)).Value) = now)))) = true then
   R_AnyOrder_J2 v1 ()
  else
   R_AnyOrder_L2 l done now rec x v1 (false, 0)
 else
  inrO (R_AnyOrder_J1 ())
def R_AnyOrder_L1 (l : List Span) (done : List Int) (now : Int) (rec : (List Span × List Int × Int) → Option Bool) (x : List Int) (v0 : Int) : Option Bool :=
 loopO (fun y => R_AnyOrder_B1 l done now rec x y) v0
def R_AnyOrder_S (rec : (List Span × List Int × Int) → Option Bool) (l : List Span) (done : List Int) (now : Int) : Option Bool :=
 ob (R_Counting l) fun x =>
 if (decide ((done.length : Int) = (x.length : Int))) = true then
  some true
 else
  R_AnyOrder_L1 l done now rec x 0
def R_AnyOrder (l : List Span) (done : List Int) (now : Int) : Option Bool := recO (fun rec (x : List Span × List Int × Int) => R_AnyOrder_S rec x.1 x.2.1 x.2.2) (l, done, now)
theorem R_AnyOrder_ok {l done now r} (hF : R_AnyOrder l done now = some r) : Pe Try.prog 15 S.none [.sl 4 (l.map e_Span), .sl 1 (done.map e_i64), .i now] (.bool r) S.none := by
 have key : ∀ (k : Nat) (x : List Span × List Int × Int) (r : Bool), fuelO (fun rec (x : List Span × List Int × Int) => R_AnyOrder_S rec x.1 x.2.1 x.2.2) k x = some r → Pe Try.prog 15 S.none [.sl 4 (x.1.map e_Span), .sl 1 (x.2.1.map e_i64), .i x.2.2] (.bool r) S.none := by
  intro k
  induction k with
  | zero => intro x r hF; cases hF
  | succ k ih =>
   intro x r hF
   have hF : R_AnyOrder_S (fuelO (fun rec (x : List Span × List Int × Int) => R_AnyOrder_S rec x.1 x.2.1 x.2.2) k) x.1 x.2.1 x.2.2 = some r := hF
   generalize fuelO (fun rec (x : List Span × List Int × Int) => R_AnyOrder_S rec x.1 x.2.1 x.2.2) k = rec at ih hF
   obtain ⟨l, done, now⟩ := x
   simp only at hF ⊢
   refine PT 95 [.tmp 6] [4] Try.func15 ?_
   intro Q g hfin
   unfold R_AnyOrder_S at hF
   refine LR0 ?_
   obtain ⟨x, h0, hF⟩ := oE hF
   have p1 := (Pe.ren (R_Counting_ok h0) ⟨[], [(69, 14)], [], []⟩)
   refine RJ (.e [] [] p1 .z) ?_
   refine RJ (.l e_i64 done (.l e_i64 x .z)) ?_
   refine Nif hF ?_ ?_ <;> intro hb hF
   ·refine LR0 ?_
    cases hF
    exact Wz [] hfin
   ·refine LR0 ?_
    refine NmQ (fun v => R_AnyOrder_J1 v = some r) (fun v => (.w [])) ?_ ?_
    ·refine Nblk ?_
     unfold R_AnyOrder_L1 at hF
     refine Nits hF [] (fun Z v1 => Z.up [0, 1, 2, 7, 8] [] [14] [] [(8, .i v1)] [] [] []) ?_
     intro n1 v1 y1 hF ih1 dn1
     unfold R_AnyOrder_B1 at hF
     refine RJ (.l e_i64 x .z) ?_
     refine Nif hF ?_ ?_ <;> intro hb hF
     ·refine NmS (fun v2 => R_AnyOrder_J2 v1 v2 = some y1) (fun Z v2 => Z.up [0, 1, 2, 7, 8] [] [14] [] [] [] [] []) ?_ ?_
      ·refine Nblk ?_
       obtain ⟨h2, h3, hF⟩ := asrt2 hF
       obtain ⟨h4, hF⟩ := aE hF
       refine RJ (.x e_i64 h2 (.r e_i64 h3 (.i e_Span h4 .z))) ?_
       obtain ⟨h5, h6, hF⟩ := asrt2 hF
       obtain ⟨x1, h7, hF⟩ := oE hF
       refine RJ (.x e_i64 h5 (.r e_i64 h6 (.b (R_Has_ok h7) .z))) ?_
       refine Nif hF ?_ ?_ <;> intro hb hF
       ·refine Nexit rfl ?_
        exact metQ () [] hF
       ·refine LR0 ?_
        refine LR0 ?_
        refine NmS (fun v3 => R_AnyOrder_J3 l done now rec x v1 v3 = some y1) (fun Z v3 => Z.up [0, 1, 2, 7, 8, 9, 10] [9] [14] [] [(10, .bool v3)] [] [] []) ?_ ?_
        ·refine Nblk ?_
         unfold R_AnyOrder_L2 at hF
         refine Nits hF [] (fun Z v5 => Z.up [0, 1, 2, 7, 8, 9, 10, 11] [9] [14] [] [(10, .bool v5.1), (11, .i v5.2)] [] [] []) ?_
         intro n2 v5 y2 hF ih2 dn2
         unfold R_AnyOrder_B2 at hF
         refine RJ (.l e_i64 x .z) ?_
         refine Nif hF ?_ ?_ <;> intro hb hF
         ·refine Nblk ?_
          obtain ⟨h13, h14, hF⟩ := asrt2 hF
          obtain ⟨x3, h15, hF⟩ := oE hF
          obtain ⟨h16, h17, hF⟩ := asrt2 hF
          obtain ⟨h18, hF⟩ := aE hF
          obtain ⟨x4, h19, hF⟩ := lS hF
          refine DJ (.g (fun (ga0 : (!v5.1) = true) => (ixr_ok e_i64 (h13 ga0))) (.a (.av (e_i64 (lget x v5.2))) (.g (fun (ga0 : (!v5.1) = true) => (ldr_ok e_i64 (h14 ga0))) (.a (.callB (.bool x3)) (.g (fun (ga0 : (!v5.1) = true) => (R_Has_ok (ite_t h15 ga0))) (.g (fun (ga0 : (!x3) = true) (ga1 : (!v5.1) = true) => (ixr_ok e_i64 (h16 ga0 ga1))) (.a (.av (e_i64 (lget x v5.2))) (.g (fun (ga0 : (!x3) = true) (ga1 : (!v5.1) = true) => (ldr_ok e_i64 (h17 ga0 ga1))) (.a (.av (e_Span (lget l (lget x v5.2)))) (.g (fun (ga0 : (!x3) = true) (ga1 : (!v5.1) = true) => (idx_ok e_Span (h18 ga0 ga1))) (.a (.callB (.bool x4)) (.g (fun (ga0 : (!x3) = true) (ga1 : (!v5.1) = true) => (R_SpanAhead_ok h19)) .z)))))))))))) ?_
          refine LR0 ?_
          exact Nrnq [] hF ih2
         ·refine Nexit rfl ?_
          have hF := inrO_done hF dn2
          exact metQ v5.1 [] hF
        ·intro v3 hF
         unfold R_AnyOrder_J3 at hF
         refine LR0 ?_
         refine Nif hF ?_ ?_ <;> intro hb hF
         ·refine Nexit rfl ?_
          exact metQ () [] hF
         ·refine LR0 ?_
          refine LR0 ?_
          obtain ⟨v4, hv, hF⟩ := oE hF
          refine NmT (fun Z => Z.up [0, 1, 2, 7, 8, 12] [] [14] [] [(12, .i v4)] [] [] []) ?_ ?_
          ·have hF := hv
           refine Nif hF ?_ ?_ <;> intro hb hF
           ·refine LR0 ?_
            cases hF
            exact met' []
           ·cases hF
            exact met' []
          ·obtain ⟨h8, hF⟩ := aE hF
           obtain ⟨h9, h10, hF⟩ := asrt2 hF
           obtain ⟨h11, hF⟩ := aE hF
           obtain ⟨x2, h12, hF⟩ := oE hF
           refine DJ (.p0 e_i64 h8 (.x e_i64 h9 (.r e_i64 h10 (.a (.sealed) (.p e_i64 h11 (.b (ih (l, (done ++ ([(lget x v1)] : List Int)), v4) x2 h12) .z)))))) ?_
           refine Nif hF ?_ ?_ <;> intro hb hF
           ·refine LR0 ?_
            have hF := ret_done hF dn1
            cases hF
            exact Wz [] hfin
           ·exact metQ () [] hF
      ·intro v2 hF
       unfold R_AnyOrder_J2 at hF
       refine LR0 ?_
       exact Nrnq [] hF ih1
     ·refine Nexit rfl ?_
      have hF := inrO_done hF dn1
      exact metQ () [] hF
    ·intro v hF
     unfold R_AnyOrder_J1 at hF
     refine LR0 ?_
     cases hF
     exact Wz [] hfin
 obtain ⟨k, hF⟩ := recO_elim hF
 exact key k _ r hF

/- tabularylaw.HistoryDecides -/
def law_HistoryDecides (l : List Span) : Option Bool :=
 ob (law_historyBegun) fun x =>
 if (!x) = true then
  some false
 else
  ob (if (!(decide (14 < (l.length : Int)))) = true then (R_SpansFault l) else some default) fun x1 =>
  ob (if (!((decide (14 < (l.length : Int))) || (!decide (x1.Code = 0)))) = true then (R_Counting_v1 l) else some default) fun x2 =>
  if (((decide (14 < (l.length : Int))) || (!decide (x1.Code = 0))) || (decide (7 < (x2.length : Int)))) = true then
   some true
  else
   ob (history_Linear l) fun x3 =>
   ob (if (decide (x3.2.Code = 0)) = true then (R_AnyOrder l ([] : List Int) 0) else some default) fun x4 =>
   some ((decide (x3.2.Code = 0)) && (x3.1 == x4))
theorem law_HistoryDecides_ok {l r} (hF : law_HistoryDecides l = some r) : Pe Try.prog 4 S.none [.sl 4 (l.map e_Span)] (.bool r) S.none := by
 refine PT 36 [.tmp 2] [4] Try.func4 ?_
 intro Q g hfin
 unfold law_HistoryDecides at hF
 refine LR0 ?_
 obtain ⟨x, h0, hF⟩ := oE hF
 refine RJ (.b (law_historyBegun_ok h0) .z) ?_
 refine Nif hF ?_ ?_ <;> intro hb hF
 ·refine LR0 ?_
  cases hF
  exact Wz [] hfin
 ·obtain ⟨x1, h1, hF⟩ := oE hF
  obtain ⟨x2, h2, hF⟩ := oE hF
  refine RJ (.l e_Span l (.a (.callB (.agg (c_Fault x1))) (.g (fun (ga0 : (!(decide (14 < (l.length : Int)))) = true) => (R_SpansFault_ok (ite_t h1 ga0))) (.a (.call (.sl 1 (x2.map e_i64))) (.g (fun (ga0 : (!((decide (14 < (l.length : Int))) || (!decide (x1.Code = 0)))) = true) => (R_Counting_v1_ok (ite_t h2 ga0))) (.a (.nat (x2.length : Int)) (.g (fun (_ : (!((decide (14 < (l.length : Int))) || (!decide (x1.Code = 0)))) = true) => (len_ok e_i64 x2)) .z))))))) ?_
  refine Nif hF ?_ ?_ <;> intro hb hF
  ·refine LR0 ?_
   cases hF
   exact Wz [] hfin
  ·obtain ⟨x3, h3, hF⟩ := oE hF
   refine RJ (.b (history_Linear_ok h3) .z) ?_
   obtain ⟨x4, h4, hF⟩ := oE hF
   refine RJ (.a (.callB (.bool x4)) (.g (fun (ga0 : (decide (x3.2.Code = 0)) = true) => (R_AnyOrder_ok (ite_t h4 ga0))) .z)) ?_
   cases hF
   exact Wz [] hfin

/- history.Order$1$1 -/
def history_Order_1_1 (a0 box : Nat) (ar : List bunch) : Option Bool :=
 asrt (a0 < ar.length ∧ box < ar.length) <|
 asrt ((!(decide (a0 = box))) = true → 0 ≤ ((a0 : Nat) : Int) ∧ ((a0 : Nat) : Int) < (ar.length : Int)) <|
 asrt ((!(decide (a0 = box))) = true → 0 ≤ ((box : Nat) : Int) ∧ ((box : Nat) : Int) < (ar.length : Int)) <|
 lt ((!(decide (a0 = box))) && (decide (((lget ar ((a0 : Nat) : Int)).first) < ((lget ar ((box : Nat) : Int)).last)))) fun v =>
 some v

/- slices.IndexFunc[[]*history.bunch,*history.bunch] -/
def slices_IndexFunc_history_bunch_history_bunch_v1_J1 (v : Unit) : Option Int :=
 some (-1)
def slices_IndexFunc_history_bunch_history_bunch_v1_B1 (box : Nat) (row : List Nat) (ar : List bunch) (v1 : Int) : Option (Int ⊕ Int) :=
 if (decide (v1 < (row.length : Int))) = true then
  asrt (0 ≤ v1 ∧ v1 < (row.length : Int)) <|
  asrt (0 ≤ v1 ∧ v1 < (row.length : Int)) <|
  ob (history_Order_1_1 (lget row v1) box ar) fun x =>
  if x = true then
   some (Sum.inr v1)
  else
   some (Sum.inl (w64 (v1 + 1)))
 else
  inrO (slices_IndexFunc_history_bunch_history_bunch_v1_J1 ())
def slices_IndexFunc_history_bunch_history_bunch_v1_L1 (box : Nat) (row : List Nat) (ar : List bunch) (v0 : Int) : Option Int :=
 loopO (fun y => slices_IndexFunc_history_bunch_history_bunch_v1_B1 box row ar y) v0
def slices_IndexFunc_history_bunch_history_bunch_v1 (box : Nat) (row : List Nat) (ar : List bunch) : Option Int :=
 slices_IndexFunc_history_bunch_history_bunch_v1_L1 box row ar 0

/- slices.ContainsFunc[[]*history.bunch,*history.bunch] -/
def slices_ContainsFunc_history_bunch_history_bunch (box : Nat) (row : List Nat) (ar : List bunch) : Option Bool :=
 ob (slices_IndexFunc_history_bunch_history_bunch_v1 box row ar) fun x =>
 some (decide (0 ≤ x))

/- history.Order$1 -/
def history_Order_1 (b : Nat) (row : List Nat) (ar : List bunch) : Option Bool :=
 ob (slices_ContainsFunc_history_bunch_history_bunch b row ar) fun x =>
 some (!x)

/- slices.IndexFunc[[]*history.bunch,*history.bunch] -/
def slices_IndexFunc_history_bunch_history_bunch_J1 (v : Unit) : Option Int :=
 some (-1)
def slices_IndexFunc_history_bunch_history_bunch_B1 (row : List Nat) (ar : List bunch) (v1 : Int) : Option (Int ⊕ Int) :=
 if (decide (v1 < (row.length : Int))) = true then
  asrt (0 ≤ v1 ∧ v1 < (row.length : Int)) <|
  asrt (0 ≤ v1 ∧ v1 < (row.length : Int)) <|
  ob (history_Order_1 (lget row v1) row ar) fun x =>
  if x = true then
   some (Sum.inr v1)
  else
   some (Sum.inl (w64 (v1 + 1)))
 else
  inrO (slices_IndexFunc_history_bunch_history_bunch_J1 ())
def slices_IndexFunc_history_bunch_history_bunch_L1 (row : List Nat) (ar : List bunch) (v0 : Int) : Option Int :=
 loopO (fun y => slices_IndexFunc_history_bunch_history_bunch_B1 row ar y) v0
def slices_IndexFunc_history_bunch_history_bunch (row : List Nat) (ar : List bunch) : Option Int :=
 slices_IndexFunc_history_bunch_history_bunch_L1 row ar 0

/- slices.Delete[[]*history.bunch,*history.bunch] -/
def slices_Delete_history_bunch_history_bunch (i j : Int) (row : List Nat) (ar : List bunch) : Option (List Nat) :=
 asrt ((0 : Int) ≤ i ∧ i ≤ j ∧ j ≤ (row.length : Int) ∧ (row.length : Int) ≤ (row.length : Int)) <|
 if (decide (i = j)) = true then
  some row
 else
  asrt (0 ≤ i ∧ i ≤ (row.length : Int)) <|
  asrt (0 ≤ j ∧ j ≤ (row.length : Int)) <|
  asrt (((row.take i.toNat ++ ((row.drop j.toNat).take (row.length - j.toNat))).length : Int) * 8 ≤ 140737488351232) <|
  asrt (i.toNat ≤ row.length) <|
  asrt (j.toNat + (row.length - j.toNat) ≤ row.length) <|
  asrt (0 ≤ ((row.take i.toNat ++ ((row.drop j.toNat).take (row.length - j.toNat))).length : Int) ∧ ((row.take i.toNat ++ ((row.drop j.toNat).take (row.length - j.toNat))).length : Int) ≤ (row.length : Int) ∧ ((row.length : Int).toNat ≤ (row.take i.toNat ++ ((row.drop j.toNat).take (row.length - j.toNat))).length ∨ (row.length : Int).toNat ≤ ((row.map ea).length))) <|
  asrt ((((row.take i.toNat ++ ((row.drop j.toNat).take (row.length - j.toNat))).length : Int).toNat) = (row.take i.toNat ++ ((row.drop j.toNat).take (row.length - j.toNat))).length) <|
  some (row.take i.toNat ++ ((row.drop j.toNat).take (row.length - j.toNat)))

/- cmp.isNaN[int] -/
def cmp_isNaN_int (x : Int) : Bool :=
 !decide (x = x)

/- cmp.Compare[int] -/
def cmp_Compare_int (x y0 : Int) : Int :=
 lt (cmp_isNaN_int x) fun x1 =>
 lt (cmp_isNaN_int y0) fun x2 =>
 if x1 = true then
  if x2 = true then
   0
  else
   (-1)
 else
  if x2 = true then
   1
  else
   if (decide (x < y0)) = true then
    (-1)
   else
    if (decide (y0 < x)) = true then
     1
    else
     0

/- history.Order$2 -/
def history_Order_2 (x y0 : Int) (box : List Span) : Option Int :=
 asrt (0 ≤ x ∧ x < (box.length : Int)) <|
 asrt (0 ≤ y0 ∧ y0 < (box.length : Int)) <|
 lt (cmp_Compare_int ((lget box x).From) ((lget box y0).From)) fun x1 =>
 some x1

/- slices.insertionSortCmpFunc[int] -/
def slices_insertionSortCmpFunc_int_v1_J1 (v : List Int) : Option (List Int) :=
 some v
def slices_insertionSortCmpFunc_int_v1_J2 (v1 : List Int × Int) (v2 : List Int) : Option ((List Int × Int) ⊕ (List Int)) :=
 some (Sum.inl (v2, w64 (v1.2 + 1)))
def slices_insertionSortCmpFunc_int_v1_B2 (a0 : Int) (box : List Span) (v1 v3 : List Int × Int) : Option ((List Int × Int) ⊕ ((List Int × Int) ⊕ (List Int))) :=
 asrt ((decide (a0 < v3.2)) = true → 0 ≤ v3.2 ∧ v3.2 < (v3.1.length : Int)) <|
 asrt ((decide (a0 < v3.2)) = true → 0 ≤ v3.2 ∧ v3.2 < (v3.1.length : Int)) <|
 asrt ((decide (a0 < v3.2)) = true → 0 ≤ w64 (v3.2 - 1) ∧ w64 (v3.2 - 1) < (v3.1.length : Int)) <|
 asrt ((decide (a0 < v3.2)) = true → 0 ≤ w64 (v3.2 - 1) ∧ w64 (v3.2 - 1) < (v3.1.length : Int)) <|
 ob (if (decide (a0 < v3.2)) = true then (history_Order_2 (lget v3.1 v3.2) (lget v3.1 (w64 (v3.2 - 1))) box) else some default) fun x =>
 if ((decide (a0 < v3.2)) && (decide (x < 0))) = true then
  asrt (0 ≤ w64 (v3.2 - 1) ∧ w64 (v3.2 - 1) < (v3.1.length : Int)) <|
  asrt (0 ≤ w64 (v3.2 - 1) ∧ w64 (v3.2 - 1) < (v3.1.length : Int)) <|
  asrt (0 ≤ v3.2 ∧ v3.2 < (v3.1.length : Int)) <|
  asrt (0 ≤ v3.2 ∧ v3.2 < (v3.1.length : Int)) <|
  asrt (0 ≤ v3.2 ∧ v3.2 < (v3.1.length : Int)) <|
  asrt (0 ≤ v3.2 ∧ v3.2 < (v3.1.length : Int)) <|
  asrt (0 ≤ w64 (v3.2 - 1) ∧ w64 (v3.2 - 1) < ((lset v3.1 v3.2 (lget v3.1 (w64 (v3.2 - 1)))).length : Int)) <|
  asrt (0 ≤ w64 (v3.2 - 1) ∧ w64 (v3.2 - 1) < ((lset v3.1 v3.2 (lget v3.1 (w64 (v3.2 - 1)))).length : Int)) <|
  lt ((lset (lset v3.1 v3.2 (lget v3.1 (w64 (v3.2 - 1)))) (w64 (v3.2 - 1)) (lget v3.1 v3.2))) fun v4 =>
  some (Sum.inl (v4, w64 (v3.2 - 1)))
 else
  inrO (slices_insertionSortCmpFunc_int_v1_J2 v1 v3.1)
def slices_insertionSortCmpFunc_int_v1_L2 (a0 : Int) (box : List Span) (v1 v0 : List Int × Int) : Option ((List Int × Int) ⊕ (List Int)) :=
 loopO (fun y => slices_insertionSortCmpFunc_int_v1_B2 a0 box v1 y) v0
def slices_insertionSortCmpFunc_int_v1_B1 (a0 b : Int) (box : List Span) (v1 : List Int × Int) : Option ((List Int × Int) ⊕ (List Int)) :=
 if (decide (v1.2 < b)) = true then
  slices_insertionSortCmpFunc_int_v1_L2 a0 box v1 (v1.1, v1.2)
 else
  inrO (slices_insertionSortCmpFunc_int_v1_J1 v1.1)
def slices_insertionSortCmpFunc_int_v1_L1 (a0 b : Int) (box : List Span) (v0 : List Int × Int) : Option (List Int) :=
 loopO (fun y => slices_insertionSortCmpFunc_int_v1_B1 a0 b box y) v0
def slices_insertionSortCmpFunc_int_v1 (a0 b : Int) (box : List Span) (row : List Int) : Option (List Int) :=
 slices_insertionSortCmpFunc_int_v1_L1 a0 b box (row, w64 (a0 + 1))

/- slices.swapRangeCmpFunc[int] -/
def slices_swapRangeCmpFunc_int_v1_J1 (v : List Int) : Option (List Int) :=
 some v
def slices_swapRangeCmpFunc_int_v1_B1 (a0 b num : Int) (v1 : List Int × Int) : Option ((List Int × Int) ⊕ (List Int)) :=
 if (decide (v1.2 < num)) = true then
  asrt (0 ≤ w64 (b + v1.2) ∧ w64 (b + v1.2) < (v1.1.length : Int)) <|
  asrt (0 ≤ w64 (b + v1.2) ∧ w64 (b + v1.2) < (v1.1.length : Int)) <|
  asrt (0 ≤ w64 (a0 + v1.2) ∧ w64 (a0 + v1.2) < (v1.1.length : Int)) <|
  asrt (0 ≤ w64 (a0 + v1.2) ∧ w64 (a0 + v1.2) < (v1.1.length : Int)) <|
  asrt (0 ≤ w64 (a0 + v1.2) ∧ w64 (a0 + v1.2) < (v1.1.length : Int)) <|
  asrt (0 ≤ w64 (a0 + v1.2) ∧ w64 (a0 + v1.2) < (v1.1.length : Int)) <|
  asrt (0 ≤ w64 (b + v1.2) ∧ w64 (b + v1.2) < ((lset v1.1 (w64 (a0 + v1.2)) (lget v1.1 (w64 (b + v1.2)))).length : Int)) <|
  asrt (0 ≤ w64 (b + v1.2) ∧ w64 (b + v1.2) < ((lset v1.1 (w64 (a0 + v1.2)) (lget v1.1 (w64 (b + v1.2)))).length : Int)) <|
  lt ((lset (lset v1.1 (w64 (a0 + v1.2)) (lget v1.1 (w64 (b + v1.2)))) (w64 (b + v1.2)) (lget v1.1 (w64 (a0 + v1.2))))) fun v2 =>
  some (Sum.inl (v2, w64 (v1.2 + 1)))
 else
  inrO (slices_swapRangeCmpFunc_int_v1_J1 v1.1)
def slices_swapRangeCmpFunc_int_v1_L1 (a0 b num : Int) (v0 : List Int × Int) : Option (List Int) :=
 loopO (fun y => slices_swapRangeCmpFunc_int_v1_B1 a0 b num y) v0
def slices_swapRangeCmpFunc_int_v1 (a0 b num : Int) (box : List Span) (row : List Int) : Option (List Int) :=
 slices_swapRangeCmpFunc_int_v1_L1 a0 b num (row, 0)

/- slices.rotateCmpFunc[int] -/
def slices_rotateCmpFunc_int_v1_J1 (m : Int) (box : List Span) (v : List Int × Int) : Option (List Int) :=
 ob (slices_swapRangeCmpFunc_int_v1 (w64 (m - v.2)) m v.2 box v.1) fun x =>
 some x
def slices_rotateCmpFunc_int_v1_B1 (m : Int) (box : List Span) (v1 : List Int × Int × Int) : Option ((List Int × Int × Int) ⊕ (List Int)) :=
 if (!decide (v1.2.1 = v1.2.2)) = true then
  if (decide (v1.2.2 < v1.2.1)) = true then
   ob (slices_swapRangeCmpFunc_int_v1 (w64 (m - v1.2.1)) m v1.2.2 box v1.1) fun x1 =>
   some (Sum.inl (x1, w64 (v1.2.1 - v1.2.2), v1.2.2))
  else
   ob (slices_swapRangeCmpFunc_int_v1 (w64 (m - v1.2.1)) (w64 ((w64 (m + v1.2.2)) - v1.2.1)) v1.2.1 box v1.1) fun x2 =>
   some (Sum.inl (x2, v1.2.1, w64 (v1.2.2 - v1.2.1)))
 else
  inrO (slices_rotateCmpFunc_int_v1_J1 m box (v1.1, v1.2.1))
def slices_rotateCmpFunc_int_v1_L1 (m : Int) (box : List Span) (v0 : List Int × Int × Int) : Option (List Int) :=
 loopO (fun y => slices_rotateCmpFunc_int_v1_B1 m box y) v0
def slices_rotateCmpFunc_int_v1 (a0 m b : Int) (box : List Span) (row : List Int) : Option (List Int) :=
 slices_rotateCmpFunc_int_v1_L1 m box (row, w64 (m - a0), w64 (b - m))

/- slices.symMergeCmpFunc[int] -/
def slices_symMergeCmpFunc_int_v1_J2 (v1 : List Int) : Option (List Int) :=
 some v1
def slices_symMergeCmpFunc_int_v1_B1 (v : Int) (v2 : List Int × Int) : Option ((List Int × Int) ⊕ (List Int)) :=
 if (decide (v2.2 < (w64 (v - 1)))) = true then
  asrt (0 ≤ w64 (v2.2 + 1) ∧ w64 (v2.2 + 1) < (v2.1.length : Int)) <|
  asrt (0 ≤ w64 (v2.2 + 1) ∧ w64 (v2.2 + 1) < (v2.1.length : Int)) <|
  asrt (0 ≤ v2.2 ∧ v2.2 < (v2.1.length : Int)) <|
  asrt (0 ≤ v2.2 ∧ v2.2 < (v2.1.length : Int)) <|
  asrt (0 ≤ v2.2 ∧ v2.2 < (v2.1.length : Int)) <|
  asrt (0 ≤ v2.2 ∧ v2.2 < (v2.1.length : Int)) <|
  asrt (0 ≤ w64 (v2.2 + 1) ∧ w64 (v2.2 + 1) < ((lset v2.1 v2.2 (lget v2.1 (w64 (v2.2 + 1)))).length : Int)) <|
  asrt (0 ≤ w64 (v2.2 + 1) ∧ w64 (v2.2 + 1) < ((lset v2.1 v2.2 (lget v2.1 (w64 (v2.2 + 1)))).length : Int)) <|
  lt ((lset (lset v2.1 v2.2 (lget v2.1 (w64 (v2.2 + 1)))) (w64 (v2.2 + 1)) (lget v2.1 v2.2))) fun v3 =>
  some (Sum.inl (v3, w64 (v2.2 + 1)))
 else
  inrO (slices_symMergeCmpFunc_int_v1_J2 v2.1)
def slices_symMergeCmpFunc_int_v1_L1 (v : Int) (v0 : List Int × Int) : Option (List Int) :=
 loopO (fun y => slices_symMergeCmpFunc_int_v1_B1 v y) v0
def slices_symMergeCmpFunc_int_v1_J1 (a0 : Int) (row : List Int) (v : Int) : Option (List Int) :=
 slices_symMergeCmpFunc_int_v1_L1 v (row, a0)
def slices_symMergeCmpFunc_int_v1_B2 (a0 : Int) (box : List Span) (row : List Int) (v4 : Int × Int) : Option ((Int × Int) ⊕ (List Int)) :=
 if (decide (v4.1 < v4.2)) = true then
  lt (w64 (Int.fdiv (IntKind.u64.wrap (w64 (v4.1 + v4.2))) (2 ^ (min (1 : Int).toNat 64)))) fun v5 =>
  asrt (0 ≤ v5 ∧ v5 < (row.length : Int)) <|
  asrt (0 ≤ v5 ∧ v5 < (row.length : Int)) <|
  asrt (0 ≤ a0 ∧ a0 < (row.length : Int)) <|
  asrt (0 ≤ a0 ∧ a0 < (row.length : Int)) <|
  ob (history_Order_2 (lget row v5) (lget row a0) box) fun x =>
  if (decide (x < 0)) = true then
   some (Sum.inl (w64 (v5 + 1), v4.2))
  else
   some (Sum.inl (v4.1, v5))
 else
  inrO (slices_symMergeCmpFunc_int_v1_J1 a0 row v4.1)
def slices_symMergeCmpFunc_int_v1_L2 (a0 : Int) (box : List Span) (row : List Int) (v0 : Int × Int) : Option (List Int) :=
 loopO (fun y => slices_symMergeCmpFunc_int_v1_B2 a0 box row y) v0
def slices_symMergeCmpFunc_int_v1_J4 (v7 : List Int) : Option (List Int) :=
 some v7
def slices_symMergeCmpFunc_int_v1_B3 (v6 : Int) (v8 : List Int × Int) : Option ((List Int × Int) ⊕ (List Int)) :=
 if (decide (v6 < v8.2)) = true then
  asrt (0 ≤ w64 (v8.2 - 1) ∧ w64 (v8.2 - 1) < (v8.1.length : Int)) <|
  asrt (0 ≤ w64 (v8.2 - 1) ∧ w64 (v8.2 - 1) < (v8.1.length : Int)) <|
  asrt (0 ≤ v8.2 ∧ v8.2 < (v8.1.length : Int)) <|
  asrt (0 ≤ v8.2 ∧ v8.2 < (v8.1.length : Int)) <|
  asrt (0 ≤ v8.2 ∧ v8.2 < (v8.1.length : Int)) <|
  asrt (0 ≤ v8.2 ∧ v8.2 < (v8.1.length : Int)) <|
  asrt (0 ≤ w64 (v8.2 - 1) ∧ w64 (v8.2 - 1) < ((lset v8.1 v8.2 (lget v8.1 (w64 (v8.2 - 1)))).length : Int)) <|
  asrt (0 ≤ w64 (v8.2 - 1) ∧ w64 (v8.2 - 1) < ((lset v8.1 v8.2 (lget v8.1 (w64 (v8.2 - 1)))).length : Int)) <|
  lt ((lset (lset v8.1 v8.2 (lget v8.1 (w64 (v8.2 - 1)))) (w64 (v8.2 - 1)) (lget v8.1 v8.2))) fun v9 =>
  some (Sum.inl (v9, w64 (v8.2 - 1)))
 else
  inrO (slices_symMergeCmpFunc_int_v1_J4 v8.1)
def slices_symMergeCmpFunc_int_v1_L3 (v6 : Int) (v0 : List Int × Int) : Option (List Int) :=
 loopO (fun y => slices_symMergeCmpFunc_int_v1_B3 v6 y) v0
def slices_symMergeCmpFunc_int_v1_J3 (m : Int) (row : List Int) (v6 : Int) : Option (List Int) :=
 slices_symMergeCmpFunc_int_v1_L3 v6 (row, m)
def slices_symMergeCmpFunc_int_v1_B4 (m : Int) (box : List Span) (row : List Int) (v10 : Int × Int) : Option ((Int × Int) ⊕ (List Int)) :=
 if (decide (v10.1 < v10.2)) = true then
  lt (w64 (Int.fdiv (IntKind.u64.wrap (w64 (v10.1 + v10.2))) (2 ^ (min (1 : Int).toNat 64)))) fun v11 =>
  asrt (0 ≤ m ∧ m < (row.length : Int)) <|
  asrt (0 ≤ m ∧ m < (row.length : Int)) <|
  asrt (0 ≤ v11 ∧ v11 < (row.length : Int)) <|
  asrt (0 ≤ v11 ∧ v11 < (row.length : Int)) <|
  ob (history_Order_2 (lget row m) (lget row v11) box) fun x1 =>
  if (!(decide (x1 < 0))) = true then
   some (Sum.inl (w64 (v11 + 1), v10.2))
  else
   some (Sum.inl (v10.1, v11))
 else
  inrO (slices_symMergeCmpFunc_int_v1_J3 m row v10.1)
def slices_symMergeCmpFunc_int_v1_L4 (m : Int) (box : List Span) (row : List Int) (v0 : Int × Int) : Option (List Int) :=
 loopO (fun y => slices_symMergeCmpFunc_int_v1_B4 m box row y) v0
def slices_symMergeCmpFunc_int_v1_J5 (a0 m b : Int) (box : List Span) (row : List Int) (rec : (Int × Int × Int × List Span × List Int) → Option (List Int)) (v12 v14 : Int) : Option (List Int) :=
 ob (
  if ((decide (v14 < m)) && (decide (m < (w64 ((w64 (v12 + m)) - v14))))) = true then
   ob (slices_rotateCmpFunc_int_v1 v14 m (w64 ((w64 (v12 + m)) - v14)) box row) fun x2 =>
   some x2
  else
   some row) fun v15 =>
 ob (
  if ((decide (a0 < v14)) && (decide (v14 < v12))) = true then
   ob (rec (a0, v14, v12, box, v15)) fun x3 =>
   some x3
  else
   some v15) fun v16 =>
 if ((decide (v12 < (w64 ((w64 (v12 + m)) - v14)))) && (decide ((w64 ((w64 (v12 + m)) - v14)) < b))) = true then
  ob (rec (v12, w64 ((w64 (v12 + m)) - v14), b, box, v16)) fun x4 =>
  some x4
 else
  some v16
def slices_symMergeCmpFunc_int_v1_B5 (a0 m b : Int) (box : List Span) (row : List Int) (rec : (Int × Int × Int × List Span × List Int) → Option (List Int)) (v12 : Int) (v17 : Int × Int) : Option ((Int × Int) ⊕ (List Int)) :=
 if (decide (v17.1 < v17.2)) = true then
  lt (w64 (Int.fdiv (IntKind.u64.wrap (w64 (v17.1 + v17.2))) (2 ^ (min (1 : Int).toNat 64)))) fun v18 =>
  asrt (0 ≤ w64 ((w64 ((w64 (v12 + m)) - 1)) - v18) ∧ w64 ((w64 ((w64 (v12 + m)) - 1)) - v18) < (row.length : Int)) <|
  asrt (0 ≤ w64 ((w64 ((w64 (v12 + m)) - 1)) - v18) ∧ w64 ((w64 ((w64 (v12 + m)) - 1)) - v18) < (row.length : Int)) <|
  asrt (0 ≤ v18 ∧ v18 < (row.length : Int)) <|
  asrt (0 ≤ v18 ∧ v18 < (row.length : Int)) <|
  ob (history_Order_2 (lget row (w64 ((w64 ((w64 (v12 + m)) - 1)) - v18))) (lget row v18) box) fun x5 =>
  if (!(decide (x5 < 0))) = true then
   some (Sum.inl (w64 (v18 + 1), v17.2))
  else
   some (Sum.inl (v17.1, v18))
 else
  inrO (slices_symMergeCmpFunc_int_v1_J5 a0 m b box row rec v12 v17.1)
def slices_symMergeCmpFunc_int_v1_L5 (a0 m b : Int) (box : List Span) (row : List Int) (rec : (Int × Int × Int × List Span × List Int) → Option (List Int)) (v12 : Int) (v0 : Int × Int) : Option (List Int) :=
 loopO (fun y => slices_symMergeCmpFunc_int_v1_B5 a0 m b box row rec v12 y) v0
def slices_symMergeCmpFunc_int_v1_S (rec : (Int × Int × Int × List Span × List Int) → Option (List Int)) (a0 m b : Int) (box : List Span) (row : List Int) : Option (List Int) :=
 if (decide ((w64 (m - a0)) = 1)) = true then
  slices_symMergeCmpFunc_int_v1_L2 a0 box row (m, b)
 else
  if (decide ((w64 (b - m)) = 1)) = true then
   slices_symMergeCmpFunc_int_v1_L4 m box row (a0, m)
  else
   lt (w64 (Int.fdiv (IntKind.u64.wrap (w64 (a0 + b))) (2 ^ (min (1 : Int).toNat 64)))) fun v12 =>
   ob (
    if (decide (v12 < m)) = true then
     some (w64 ((w64 (v12 + m)) - b), v12)
    else
     some (a0, m)) fun v13 =>
   slices_symMergeCmpFunc_int_v1_L5 a0 m b box row rec v12 (v13.1, v13.2)
def slices_symMergeCmpFunc_int_v1 (a0 m b : Int) (box : List Span) (row : List Int) : Option (List Int) := recO (fun rec (x : Int × Int × Int × List Span × List Int) => slices_symMergeCmpFunc_int_v1_S rec x.1 x.2.1 x.2.2.1 x.2.2.2.1 x.2.2.2.2) (a0, m, b, box, row)

/- slices.stableCmpFunc[int] -/
def slices_stableCmpFunc_int_v1_J2 (v1 : List Int) : Option (List Int) :=
 some v1
def slices_stableCmpFunc_int_v1_J3 (num : Int) (box : List Span) (v2 v3 : List Int × Int) : Option ((List Int × Int) ⊕ (List Int)) :=
 ob (
  if (decide ((w64 (v3.2 + v2.2)) < num)) = true then
   ob (slices_symMergeCmpFunc_int_v1 v3.2 (w64 (v3.2 + v2.2)) num box v3.1) fun x1 =>
   some x1
  else
   some v3.1) fun v4 =>
 some (Sum.inl (v4, w64 (v2.2 * 2)))
def slices_stableCmpFunc_int_v1_B2 (num : Int) (box : List Span) (v2 : List Int × Int) (v5 : List Int × Int × Int) : Option ((List Int × Int × Int) ⊕ ((List Int × Int) ⊕ (List Int))) :=
 if (decide (v5.2.2 ≤ num)) = true then
  ob (slices_symMergeCmpFunc_int_v1 v5.2.1 (w64 (v5.2.1 + v2.2)) v5.2.2 box v5.1) fun x2 =>
  some (Sum.inl (x2, v5.2.2, w64 (v5.2.2 + (w64 (2 * v2.2)))))
 else
  inrO (slices_stableCmpFunc_int_v1_J3 num box v2 (v5.1, v5.2.1))
def slices_stableCmpFunc_int_v1_L2 (num : Int) (box : List Span) (v2 : List Int × Int) (v0 : List Int × Int × Int) : Option ((List Int × Int) ⊕ (List Int)) :=
 loopO (fun y => slices_stableCmpFunc_int_v1_B2 num box v2 y) v0
def slices_stableCmpFunc_int_v1_B1 (num : Int) (box : List Span) (v2 : List Int × Int) : Option ((List Int × Int) ⊕ (List Int)) :=
 if (decide (v2.2 < num)) = true then
  slices_stableCmpFunc_int_v1_L2 num box v2 (v2.1, 0, w64 (2 * v2.2))
 else
  inrO (slices_stableCmpFunc_int_v1_J2 v2.1)
def slices_stableCmpFunc_int_v1_L1 (num : Int) (box : List Span) (v0 : List Int × Int) : Option (List Int) :=
 loopO (fun y => slices_stableCmpFunc_int_v1_B1 num box y) v0
def slices_stableCmpFunc_int_v1_J1 (num : Int) (box : List Span) (v : List Int × Int) : Option (List Int) :=
 ob (slices_insertionSortCmpFunc_int_v1 v.2 num box v.1) fun x =>
 slices_stableCmpFunc_int_v1_L1 num box (x, 20)
def slices_stableCmpFunc_int_v1_B3 (num : Int) (box : List Span) (v6 : List Int × Int × Int) : Option ((List Int × Int × Int) ⊕ (List Int)) :=
 if (decide (v6.2.2 ≤ num)) = true then
  ob (slices_insertionSortCmpFunc_int_v1 v6.2.1 v6.2.2 box v6.1) fun x3 =>
  some (Sum.inl (x3, v6.2.2, w64 (v6.2.2 + 20)))
 else
  inrO (slices_stableCmpFunc_int_v1_J1 num box (v6.1, v6.2.1))
def slices_stableCmpFunc_int_v1_L3 (num : Int) (box : List Span) (v0 : List Int × Int × Int) : Option (List Int) :=
 loopO (fun y => slices_stableCmpFunc_int_v1_B3 num box y) v0
def slices_stableCmpFunc_int_v1 (num : Int) (box : List Span) (row : List Int) : Option (List Int) :=
 slices_stableCmpFunc_int_v1_L3 num box (row, 0, 20)

/- slices.SortStableFunc[[]int,int] -/
def slices_SortStableFunc_int_int_v1 (box : List Span) (row : List Int) : Option (List Int) :=
 ob (slices_stableCmpFunc_int_v1 (row.length : Int) box row) fun x =>
 some x

/- history.Order -/
def history_Order_v1_J1 (x : Bool × Fault) (v : List Int × List bunch) : Option (List Int × Bool × Fault) :=
 some (v.1, true, x.2)
def history_Order_v1_B1 (l : List Span) (x : Bool × Fault) (v1 : List Nat × List Int × List bunch) : Option ((List Nat × List Int × List bunch) ⊕ (List Int × Bool × Fault)) :=
 if (decide (0 < (v1.1.length : Int))) = true then
  ob (slices_IndexFunc_history_bunch_history_bunch v1.1 v1.2.2) fun x2 =>
  asrt (0 ≤ (max x2 0) ∧ (max x2 0) < (v1.1.length : Int)) <|
  asrt (0 ≤ (max x2 0) ∧ (max x2 0) < (v1.1.length : Int)) <|
  ob (slices_Delete_history_bunch_history_bunch (max x2 0) (w64 ((max x2 0) + 1)) v1.1 v1.2.2) fun x3 =>
  asrt (0 ≤ (((lget v1.1 (max x2 0)) : Nat) : Int) ∧ (((lget v1.1 (max x2 0)) : Nat) : Int) < (v1.2.2.length : Int)) <|
  ob (
   if (decide (0 ≤ ((lget v1.2.2 (((lget v1.1 (max x2 0)) : Nat) : Int)).write))) = true then
    asrt (0 ≤ (((lget v1.1 (max x2 0)) : Nat) : Int) ∧ (((lget v1.1 (max x2 0)) : Nat) : Int) < (v1.2.2.length : Int)) <|
    asrt (((v1.2.1 ++ ([(lget v1.2.2 (((lget v1.1 (max x2 0)) : Nat) : Int)).write] : List Int)).length : Int) * 8 ≤ 140737488351232) <|
    lt ((v1.2.1 ++ ([(lget v1.2.2 (((lget v1.1 (max x2 0)) : Nat) : Int)).write] : List Int))) fun v3 =>
    some v3
   else
    some v1.2.1) fun v2 =>
  asrt (0 ≤ (((lget v1.1 (max x2 0)) : Nat) : Int) ∧ (((lget v1.1 (max x2 0)) : Nat) : Int) < (v1.2.2.length : Int)) <|
  ob (slices_SortStableFunc_int_int_v1 l ((lget v1.2.2 (((lget v1.1 (max x2 0)) : Nat) : Int)).reads)) fun x4 =>
  asrt (0 ≤ (((lget v1.1 (max x2 0)) : Nat) : Int) ∧ (((lget v1.1 (max x2 0)) : Nat) : Int) < ((lset v1.2.2 (((lget v1.1 (max x2 0)) : Nat) : Int) (⟨(lget v1.2.2 (((lget v1.1 (max x2 0)) : Nat) : Int)).value, (lget v1.2.2 (((lget v1.1 (max x2 0)) : Nat) : Int)).write, x4, (lget v1.2.2 (((lget v1.1 (max x2 0)) : Nat) : Int)).first, (lget v1.2.2 (((lget v1.1 (max x2 0)) : Nat) : Int)).last⟩ : bunch)).length : Int)) <|
  asrt (((v2 ++ ((lget (lset v1.2.2 (((lget v1.1 (max x2 0)) : Nat) : Int) (⟨(lget v1.2.2 (((lget v1.1 (max x2 0)) : Nat) : Int)).value, (lget v1.2.2 (((lget v1.1 (max x2 0)) : Nat) : Int)).write, x4, (lget v1.2.2 (((lget v1.1 (max x2 0)) : Nat) : Int)).first, (lget v1.2.2 (((lget v1.1 (max x2 0)) : Nat) : Int)).last⟩ : bunch)) (((lget v1.1 (max x2 0)) : Nat) : Int)).reads)).length : Int) * 8 ≤ 140737488351232) <|
  some (Sum.inl (x3, (v2 ++ ((lget (lset v1.2.2 (((lget v1.1 (max x2 0)) : Nat) : Int) (⟨(lget v1.2.2 (((lget v1.1 (max x2 0)) : Nat) : Int)).value, (lget v1.2.2 (((lget v1.1 (max x2 0)) : Nat) : Int)).write, x4, (lget v1.2.2 (((lget v1.1 (max x2 0)) : Nat) : Int)).first, (lget v1.2.2 (((lget v1.1 (max x2 0)) : Nat) : Int)).last⟩ : bunch)) (((lget v1.1 (max x2 0)) : Nat) : Int)).reads)), (lset (lset v1.2.2 (((lget v1.1 (max x2 0)) : Nat) : Int) (⟨(lget v1.2.2 (((lget v1.1 (max x2 0)) : Nat) : Int)).value, (lget v1.2.2 (((lget v1.1 (max x2 0)) : Nat) : Int)).write, x4, (lget v1.2.2 (((lget v1.1 (max x2 0)) : Nat) : Int)).first, (lget v1.2.2 (((lget v1.1 (max x2 0)) : Nat) : Int)).last⟩ : bunch)) (((lget v1.1 (max x2 0)) : Nat) : Int) (⟨(lget (lset v1.2.2 (((lget v1.1 (max x2 0)) : Nat) : Int) (⟨(lget v1.2.2 (((lget v1.1 (max x2 0)) : Nat) : Int)).value, (lget v1.2.2 (((lget v1.1 (max x2 0)) : Nat) : Int)).write, x4, (lget v1.2.2 (((lget v1.1 (max x2 0)) : Nat) : Int)).first, (lget v1.2.2 (((lget v1.1 (max x2 0)) : Nat) : Int)).last⟩ : bunch)) (((lget v1.1 (max x2 0)) : Nat) : Int)).value, (lget (lset v1.2.2 (((lget v1.1 (max x2 0)) : Nat) : Int) (⟨(lget v1.2.2 (((lget v1.1 (max x2 0)) : Nat) : Int)).value, (lget v1.2.2 (((lget v1.1 (max x2 0)) : Nat) : Int)).write, x4, (lget v1.2.2 (((lget v1.1 (max x2 0)) : Nat) : Int)).first, (lget v1.2.2 (((lget v1.1 (max x2 0)) : Nat) : Int)).last⟩ : bunch)) (((lget v1.1 (max x2 0)) : Nat) : Int)).write, (lget (lset v1.2.2 (((lget v1.1 (max x2 0)) : Nat) : Int) (⟨(lget v1.2.2 (((lget v1.1 (max x2 0)) : Nat) : Int)).value, (lget v1.2.2 (((lget v1.1 (max x2 0)) : Nat) : Int)).write, x4, (lget v1.2.2 (((lget v1.1 (max x2 0)) : Nat) : Int)).first, (lget v1.2.2 (((lget v1.1 (max x2 0)) : Nat) : Int)).last⟩ : bunch)) (((lget v1.1 (max x2 0)) : Nat) : Int)).reads, (lget (lset v1.2.2 (((lget v1.1 (max x2 0)) : Nat) : Int) (⟨(lget v1.2.2 (((lget v1.1 (max x2 0)) : Nat) : Int)).value, (lget v1.2.2 (((lget v1.1 (max x2 0)) : Nat) : Int)).write, x4, (lget v1.2.2 (((lget v1.1 (max x2 0)) : Nat) : Int)).first, (lget v1.2.2 (((lget v1.1 (max x2 0)) : Nat) : Int)).last⟩ : bunch)) (((lget v1.1 (max x2 0)) : Nat) : Int)).first, (lget (lset v1.2.2 (((lget v1.1 (max x2 0)) : Nat) : Int) (⟨(lget v1.2.2 (((lget v1.1 (max x2 0)) : Nat) : Int)).value, (lget v1.2.2 (((lget v1.1 (max x2 0)) : Nat) : Int)).write, x4, (lget v1.2.2 (((lget v1.1 (max x2 0)) : Nat) : Int)).first, (lget v1.2.2 (((lget v1.1 (max x2 0)) : Nat) : Int)).last⟩ : bunch)) (((lget v1.1 (max x2 0)) : Nat) : Int)).last⟩ : bunch))))
 else
  inrO (history_Order_v1_J1 x (v1.2.1, v1.2.2))
def history_Order_v1_L1 (l : List Span) (x : Bool × Fault) (v0 : List Nat × List Int × List bunch) : Option (List Int × Bool × Fault) :=
 loopO (fun y => history_Order_v1_B1 l x y) v0
def history_Order_v1 (l : List Span) : Option (List Int × Bool × Fault) :=
 ob (history_Linear l) fun x =>
 if (!x.1) = true then
  some (([] : List Int), false, x.2)
 else
  ob (history_bunches l ([] : List bunch)) fun x1 =>
  history_Order_v1_L1 l x (x1.1, ([] : List Int), x1.2)

/- tabularyref.IsOrder -/
def R_IsOrder_J1 (v : Unit) : Option Bool :=
 some true
def R_IsOrder_J3 (v1 : Int × Int) (v3 : Int) : Option ((Int × Int) ⊕ Bool) :=
 some (Sum.inl (v3, w64 (v1.2 + 1)))
def R_IsOrder_J2 (l : List Span) (order : List Int) (v1 : Int × Int) (v2 : Unit) : Option ((Int × Int) ⊕ Bool) :=
 if (decide (((lget l (lget order v1.2)).Kind) = 1)) = true then
  R_IsOrder_J3 v1 ((lget l (lget order v1.2)).Value)
 else
  if (!decide (((lget l (lget order v1.2)).Value) = v1.1)) = true then
   some (Sum.inr false)
  else
   R_IsOrder_J3 v1 v1.1
def R_IsOrder_B2 (l : List Span) (order : List Int) (v1 : Int × Int) (v4 : Int) : Option (Int ⊕ ((Int × Int) ⊕ Bool)) :=
 if (decide (v4 < v1.2)) = true then
  asrt (0 ≤ v4 ∧ v4 < (order.length : Int)) <|
  asrt (0 ≤ (lget order v4) ∧ (lget order v4) < (l.length : Int)) <|
  lt (R_SpanAhead (⟨(lget l (lget order v1.2)).Kind, (lget l (lget order v1.2)).Value, (lget l (lget order v1.2)).From, (lget l (lget order v1.2)).To⟩ : Span) (⟨(lget l (lget order v4)).Kind, (lget l (lget order v4)).Value, (lget l (lget order v4)).From, (lget l (lget order v4)).To⟩ : Span)) fun x3 =>
  if x3 = true then
   some (Sum.inr (Sum.inr false))
  else
   some (Sum.inl (w64 (v4 + 1)))
 else
  inrO (R_IsOrder_J2 l order v1 ())
def R_IsOrder_L2 (l : List Span) (order : List Int) (v1 : Int × Int) (v0 : Int) : Option ((Int × Int) ⊕ Bool) :=
 loopO (fun y => R_IsOrder_B2 l order v1 y) v0
def R_IsOrder_B1 (l : List Span) (order x : List Int) (v1 : Int × Int) : Option ((Int × Int) ⊕ Bool) :=
 if (decide (v1.2 < (order.length : Int))) = true then
  asrt (0 ≤ v1.2 ∧ v1.2 < (order.length : Int)) <|
  ob (R_Has x (lget order v1.2)) fun x1 =>
  asrt ((!(!x1)) = true → 0 ≤ v1.2 ∧ v1.2 ≤ (order.length : Int)) <|
  asrt ((!(!x1)) = true → 0 ≤ v1.2 ∧ v1.2 < (order.length : Int)) <|
  ob (if (!(!x1)) = true then (R_Has (ltake order v1.2) (lget order v1.2)) else some default) fun x2 =>
  if ((!x1) || x2) = true then
   some (Sum.inr false)
  else
   asrt (0 ≤ v1.2 ∧ v1.2 < (order.length : Int)) <|
   asrt (0 ≤ (lget order v1.2) ∧ (lget order v1.2) < (l.length : Int)) <|
   R_IsOrder_L2 l order v1 0
 else
  inrO (R_IsOrder_J1 ())
def R_IsOrder_L1 (l : List Span) (order x : List Int) (v0 : Int × Int) : Option Bool :=
 loopO (fun y => R_IsOrder_B1 l order x y) v0
def R_IsOrder (l : List Span) (order : List Int) : Option Bool :=
 ob (R_Counting l) fun x =>
 if (!decide ((order.length : Int) = (x.length : Int))) = true then
  some false
 else
  R_IsOrder_L1 l order x (0, 0)

/- tabularylaw.HistoryOrders -/
def law_HistoryOrders (l : List Span) : Option Bool :=
 ob (law_historyBegun) fun x =>
 if (!x) = true then
  some false
 else
  if (((decide (60 < (l.length : Int))) && (decide ((l.length : Int) < 201))) || (decide (400 < (l.length : Int)))) = true then
   some true
  else
   ob (law_ownSpans_v1 l) fun x1 =>
   ob (history_Linear x1) fun x2 =>
   ob (history_Order_v1 x1) fun x3 =>
   ob (R_SpansFault l) fun x4 =>
   ob (law_sameSpans x1 l) fun x5 =>
   if (((!x5) || (!(decide (x2.2.Code = x4.Code) && (decide (x2.2.At = x4.At) && true)))) || (!(decide (x3.2.2.Code = x4.Code) && (decide (x3.2.2.At = x4.At) && true)))) = true then
    some false
   else
    if (!decide (x4.Code = 0)) = true then
     some (((!x2.1) && (!x3.2.1)) && (decide ((x3.1.length : Int) = 0)))
    else
     ob (R_Clashing l) fun x6 =>
     if ((x2.1 == x6.2.2) || (!(x3.2.1 == x2.1))) = true then
      some false
     else
      if (!x3.2.1) = true then
       some (decide ((x3.1.length : Int) = 0))
      else
       ob (R_IsOrder l x3.1) fun x7 =>
       some x7

end
end G
end Go.Proofs.Ytnibbgjoanbnmaa
