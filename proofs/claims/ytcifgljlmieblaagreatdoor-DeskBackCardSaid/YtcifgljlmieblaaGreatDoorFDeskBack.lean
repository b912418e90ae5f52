/- 'DeskBack' holds: of every input the law returns true, and the input reads behind the call as it did; the package variables are as the program's text lays them (the tied card). No condition besides. -/
import Derived.Test.YtcifgljlmieblaaGreatDoorPAll
import Derived.Test.YtcifgljlmieblaaGreatDoorLayL
namespace Go.Proofs.YtcifgljlmieblaaGreatDoor
open Go Go.Dm Go.ChangeShapes Go.WideShapes Go.ChangeAt Go.RowKit
set_option linter.unusedVariables false
set_option maxRecDepth 100000
namespace FDeskBack
open G
theorem one_le {H : Type} (d : DataW H) : 1 ≤ Rows.uptoBulk d := by
  cases d with
  | lit l => cases l <;> simp [Rows.uptoBulk]
  | nil => simp [Rows.uptoBulk]
  | ptr d => simp [Rows.uptoBulk]
  | slice elems spare => simp [Rows.uptoBulk]
  | agg parts => simp [Rows.uptoBulk]
  | iface t d => simp [Rows.uptoBulk]
  | map entries => simp [Rows.uptoBulk]
  | held h => simp [Rows.uptoBulk]
noncomputable def K : Bk where
  b := fun H d => Rows.uptoBulk d
  all := fun H l => Rows.uptoBulkAll l
  str := fun H s => by simp [Rows.uptoBulk]
  one := fun H d => one_le d
  slice := fun H e s => by simp only [Rows.uptoBulk]; omega
  agg := fun H e => by simp only [Rows.uptoBulk]; omega
  cons := fun H d r => by simp only [Rows.uptoBulkAll]; omega
def ok_Order (x : G.Order) : Prop := (fun n : Int => -9223372036854775808 ≤ n ∧ n ≤ 9223372036854775807) x.Kind ∧ (fun n : Int => -9223372036854775808 ≤ n ∧ n ≤ 9223372036854775807) x.ID ∧ (fun n : Int => -9223372036854775808 ≤ n ∧ n ≤ 9223372036854775807) x.Host ∧ (fun n : Int => -9223372036854775808 ≤ n ∧ n ≤ 9223372036854775807) x.Turn ∧ (fun s : List UInt8 => s.length ≤ 140737488351232) x.Row ∧ True
def sz_Order (x : G.Order) : Nat := ((fun _ : Int => 1) x.Kind + ((fun _ : Int => 1) x.ID + ((fun _ : Int => 1) x.Host + ((fun _ : Int => 1) x.Turn + ((fun s : List UInt8 => s.length + 1) x.Row + (0)))))) + 1
theorem rd_Order : Rz K Tryz.prog 23 (fun x : G.Order => .agg (c_Order x)) ok_Order sz_Order :=
  rz_struct (β := Int × Int × Int × Int × (List UInt8) × Unit) (t := 23) (fl := [(3, 0), (3, 1), (3, 2), (3, 3), (9, 4)]) (fun b => (⟨b.1, b.2.1, b.2.2.1, b.2.2.2.1, b.2.2.2.2.1⟩ : G.Order)) _ _ _ (by kernel_rfl) (rzf_cons (sz := 1) (by kernel_rfl) (Rz.of (rd_i64 (t := 3) (by kernel_rfl))) (rzf_cons (sz := 1) (by kernel_rfl) (Rz.of (rd_i64 (t := 3) (by kernel_rfl))) (rzf_cons (sz := 1) (by kernel_rfl) (Rz.of (rd_i64 (t := 3) (by kernel_rfl))) (rzf_cons (sz := 1) (by kernel_rfl) (Rz.of (rd_i64 (t := 3) (by kernel_rfl))) (rzf_cons (sz := 1) (by kernel_rfl) (rz_str (t := 9) (by kernel_rfl)) rzf_nil (fun _ => rfl)) (fun _ => rfl)) (fun _ => rfl)) (fun _ => rfl)) (fun _ => rfl)) (sz := 5) (by kernel_rfl) (fun _ => rfl) (fun _ => rfl) (fun _ h => by exact h) (fun _ => Nat.le_refl _)
def ok_Act (x : G.Act) : Prop := (fun n : Int => -9223372036854775808 ≤ n ∧ n ≤ 9223372036854775807) x.Kind ∧ ok_Order x.Order ∧ (fun n : Int => -9223372036854775808 ≤ n ∧ n ≤ 9223372036854775807) x.Host ∧ (fun n : Int => -9223372036854775808 ≤ n ∧ n ≤ 9223372036854775807) x.N ∧ (fun s : List UInt8 => s.length ≤ 140737488351232) x.Row ∧ True
def sz_Act (x : G.Act) : Nat := ((fun _ : Int => 1) x.Kind + (sz_Order x.Order + ((fun _ : Int => 1) x.Host + ((fun _ : Int => 1) x.N + ((fun s : List UInt8 => s.length + 1) x.Row + (0)))))) + 1
theorem rd_Act : Rz K Tryz.prog 25 (fun x : G.Act => .agg (c_Act x)) ok_Act sz_Act :=
  rz_struct (β := Int × G.Order × Int × Int × (List UInt8) × Unit) (t := 25) (fl := [(3, 0), (23, 1), (3, 6), (3, 7), (9, 8)]) (fun b => (⟨b.1, b.2.1, b.2.2.1, b.2.2.2.1, b.2.2.2.2.1⟩ : G.Act)) _ _ _ (by kernel_rfl) (rzf_cons (sz := 1) (by kernel_rfl) (Rz.of (rd_i64 (t := 3) (by kernel_rfl))) (rzf_cons (sz := 5) (by kernel_rfl) (rd_Order) (rzf_cons (sz := 1) (by kernel_rfl) (Rz.of (rd_i64 (t := 3) (by kernel_rfl))) (rzf_cons (sz := 1) (by kernel_rfl) (Rz.of (rd_i64 (t := 3) (by kernel_rfl))) (rzf_cons (sz := 1) (by kernel_rfl) (rz_str (t := 9) (by kernel_rfl)) rzf_nil (fun _ => rfl)) (fun _ => rfl)) (fun _ => rfl)) (fun _ => rfl)) (fun _ => rfl)) (sz := 9) (by kernel_rfl) (fun _ => rfl) (fun _ => rfl) (fun _ h => by exact h) (fun _ => Nat.le_refl _)
theorem own : ownKnob Tryz.prog.godebug = none := by kernel_rfl
theorem plainL {w : World} (h : laidMetH Tryz.prog Rows.deskBackRow.laid w) : laidMet Tryz.prog Rows.deskBackRow.laid w := by
  rwa [MakeChecks.laidMetH_plain _ _ _ (by kernel_rfl)] at h
theorem wit (os : Os) (H : Type) (enc : TypeId × Value → H) : ∃ (w : World) (tape : Tape) (i : Input), w.os = os ∧ (w.forCall tape i).Shaped Tryz.prog ∧ i.vars = [] ∧ Input.okWide Tryz.prog (w.forCall tape i) .any w.heap.size 4 i ∧
    (OpenSpec.ofChange Rows.deskBackSpec).preRow enc Tryz.prog Tryz.f4 Rows.deskBackRow.domain false Rows.deskBackRow.laid (w.forCall tape i).memory i.args ∧ ({} : Assume).holds Tryz.prog (lone (Frame.enter Tryz.prog 4 i.args .normal) [] (w.forCall tape i)) := by
  have hok : Input.okWideB Tryz.prog ((World.laidAll Tryz.prog os Rows.deskBackRow.laid).forCall (fun _ _ => 0) ⟨#[], #[.string ⟨#[]⟩, .agg #[.int .i64 0, .int .i64 0, .int .i64 0, .int .i64 0, .int .i64 0, .string ⟨#[]⟩, .int .i64 0, .int .i64 0, .string ⟨#[]⟩]], []⟩) 4 ⟨#[], #[.string ⟨#[]⟩, .agg #[.int .i64 0, .int .i64 0, .int .i64 0, .int .i64 0, .int .i64 0, .string ⟨#[]⟩, .int .i64 0, .int .i64 0, .string ⟨#[]⟩]], []⟩ = true := by kernel_rfl
  refine ⟨World.laidAll Tryz.prog os Rows.deskBackRow.laid, fun _ _ => 0, ⟨#[], #[.string ⟨#[]⟩, .agg #[.int .i64 0, .int .i64 0, .int .i64 0, .int .i64 0, .int .i64 0, .string ⟨#[]⟩, .int .i64 0, .int .i64 0, .string ⟨#[]⟩]], []⟩, World.laidAll_os _ _ _, World.shaped_of_ZipB (by kernel_rfl) (by kernel_rfl), (Input.okWide_of_okWideB (base := 0) hok).1, (Input.okWide_of_okWideB hok).2, ?_, ?_⟩
  · exact OpenSpec.preRow_of_cond (x := ([.lit (.string []), .agg [.lit (.int .i64 0), .agg [.lit (.int .i64 0), .lit (.int .i64 0), .lit (.int .i64 0), .lit (.int .i64 0), .lit (.string [])], .lit (.int .i64 0), .lit (.int .i64 0), .lit (.string [])]], [], [])) 8 (by kernel_rfl) (by kernel_rfl) (fun k hk => by cases hk) (by kernel_rfl)
      (by rw [MakeChecks.laidMetH_plain _ _ _ (by kernel_rfl)]; exact laidMet_laidAll _ (by kernel_rfl) (by kernel_rfl))
  · simp only [Assume.holds]
    exact ⟨by simp, by simp, fun _ => Modest.zero, by simp, by simp⟩
theorem lifted (os : Os) (started : os.Started) (H : Type) (enc : TypeId × Value → H) (F : Stop.Interp) :
    ReturnsInHanded {} Tryz.checked os 4 .any ((OpenSpec.ofChange Rows.deskBackSpec).preRow enc Tryz.prog Tryz.f4 Rows.deskBackRow.domain false Rows.deskBackRow.laid) (((OpenSpec.ofChange Rows.deskBackSpec).at F).post enc Tryz.prog Tryz.f4 false true false false) := by
  refine returnsInHanded_of_row (C := Tryz.checked) (s := OpenSpec.ofChange Rows.deskBackSpec) own started (by kernel_rfl) Tryz.func4 (wit os H enc) ?_
  intro W base args ds gs before hval hW _ _ hz hL hsh _
  have hW' := hW
  obtain ⟨p, q, hA, hV, rfl, _, hn⟩ := hW
  have hV' : DataW.TrodVars enc Tryz.prog W (fun _ => true) [] gs q := hV
  obtain ⟨rfl, rfl⟩ := trodVars_none hV'
  have hp : Tryz.f4.params.toList = [9, 25] := by rw [Tryz.params4]
  have hA' : DataW.TrodAll enc Tryz.prog W 0 (fun _ => true) true [9, 25] args.toList ds p := by rw [← hp]; exact hA
  have hargs : ArgsZ K Tryz.prog [9, 25] _ _ _ := (argsZ_cons (t := 9) (Rz.argC (rz_str (t := 9) (by kernel_rfl)) (by kernel_rfl) (fun _ => rfl)) (argsZ_cons (t := 25) (Rz.argS (rd_Act) (by kernel_rfl) (fun _ => ⟨_, rfl⟩)) argsZ_nil))
  have hz' : (DataW.weightsEach Tryz.prog ([9, 25] ++ []) (ds ++ [])).all (· ≤ reachBytes) = true := by rw [← hp]; exact hz
  have hc := law_step hargs (fun x hx => law_DeskBack_ok (DeskBack_eq x.1 ⟨hx.2.1.1, hx.2.1.2.1.1, hx.2.1.2.1.2.1, hx.2.1.2.1.2.2.1, hx.2.1.2.1.2.2.2.1, hx.2.1.2.2.1, hx.2.1.2.2.2.1, hx.2.1.2.1.2.2.2.2.1, hx.2.1.2.2.2.2.1⟩)) (base := base) (fun j t v h1 h2 => hval j t v (by rw [Tryz.params4]; simpa using h1) h2) hA' hz'
    (lay_of hsh (plainL hL) (by unfold Rows.deskBackRow; simp) (by unfold Rows.deskBackRow; simp) (by unfold Rows.deskBackRow; simp))
  refine hc.mono fun e w' ⟨he, hbl⟩ => ⟨_, he, ?_⟩
  exact law_post (s := Rows.deskBackSpec) (by kernel_rfl) (by kernel_rfl) (tb := 4) (by kernel_rfl) (by kernel_rfl) rfl (by
    match ds, trod_len hA' with
    | [_, _], _ => rfl) hW' hbl
theorem c1 : laidOutB Tryz.prog = true := by kernel_rfl
theorem c2 : mapsRowed Tryz.prog = true := by kernel_rfl
theorem c3 : (Rows.deskBackRow.unfollowed == Tryz.prog.unfollowed 4) = true := by kernel_rfl
theorem c4 : (Rows.deskBackRow.recurses == Tryz.prog.recurses 4) = true := by kernel_rfl
theorem c5 : (Rows.deskBackRow.inPlace == Tryz.prog.inPlace 4) = true := by kernel_rfl
theorem c6 : (Rows.deskBackRow.named == Tryz.prog.varsNamed 4) = true := by kernel_rfl
theorem closed : joinedFacts Tryz.prog 4 Tryz.f4 (OpenSpec.ofChange Rows.deskBackSpec).bare Rows.deskBackRow = true := by
  unfold joinedFacts
  rw [c1, c2, c3, c4, c5, c6]
  kernel_rfl
theorem said : Rows.DeskBackSaid :=
  OpenClaim.holds_of_cond 4 Tryz.f4 rfl rfl rfl rfl rfl rfl rfl ⟨rfl, rfl, rfl, rfl, rfl⟩ rfl rfl rfl rfl rfl (by kernel_rfl) Tryz.func4 closed
    (of_decide_eq_true (by kernel_rfl)) (by unfold Func.isWrapper; first | (rw [if_pos (by decide +kernel)]; kernel_rfl) | (rw [if_neg (by decide +kernel)]; exact ⟨rfl, rfl⟩))
    (fun os started H enc _ F => by rw [OpenClaim.pre_eq_preRow]; exact lifted os started H enc F)
theorem plain (f : FuncId) (fn : Func) (hf : Tryz.pinned.checked.prog.funcNamed "tabulary/tabularylaw.DeskBack" = some f) (hfn : Tryz.pinned.checked.prog.funcs[f]? = some fn) :
    true = Tryz.pinned.checked.prog.looks [] ∧ ∀ (j : Nat) t, fn.params[j]? = some t → Tryz.pinned.checked.prog.wantsStandIn t = false := by
  obtain rfl : f = 4 := Option.some.inj ((show Tryz.prog.funcNamed "tabulary/tabularylaw.DeskBack" = some 4 by kernel_rfl).symm.trans hf) |>.symm
  obtain rfl : fn = Tryz.f4 := (Option.some.inj (Tryz.func4.symm.trans hfn)).symm
  refine ⟨by kernel_rfl, fun j t ht => ?_⟩
  rw [Tryz.params4] at ht
  have hm : t ∈ [9, 25] := by simpa using Array.mem_of_getElem? ht
  simp only [List.mem_cons, List.not_mem_nil, or_false] at hm
  rcases hm with rfl | rfl <;> first | exact (show Tryz.prog.wantsStandIn 9 = false by kernel_rfl)  | exact (show Tryz.prog.wantsStandIn 25 = false by kernel_rfl)
theorem DeskBack_holds : Rows.DeskBackCardSaid :=
  Claim7.holds_tied_plain_at .later [] _ _ _ _ said (fun _ h => by cases h) (by kernel_rfl) (fun _ h => by cases h) deskBack_row_tie rfl ⟨rfl, rfl⟩ (by kernel_rfl) rfl plain (by kernel_rfl)
end FDeskBack
end Go.Proofs.YtcifgljlmieblaaGreatDoor
