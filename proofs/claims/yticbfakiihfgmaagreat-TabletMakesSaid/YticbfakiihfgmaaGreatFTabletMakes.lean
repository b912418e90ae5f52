/- 'TabletMakes' holds: of every input the law returns true, and the input reads behind the call as it did. No condition. -/
import Derived.Test.YticbfakiihfgmaaGreatPAll1
import Derived.Test.YticbfakiihfgmaaGreatEmF
namespace Go.Proofs.YticbfakiihfgmaaGreat
open Go Go.Dm
set_option linter.unusedVariables false
set_option maxRecDepth 100000
namespace FTabletMakes
open G
theorem one_le {H : Type}(d : DataW H) : 1 <= Rows.uptoBulk d := by
  cases d with
  | lit l => cases l <;> simp [Rows.uptoBulk]
  | nil => simp [Rows.uptoBulk]
  | ptr d => simp [Rows.uptoBulk]
  | slice elems spare => simp [Rows.uptoBulk]
  | agg parts => simp [Rows.uptoBulk]
  | iface t d => simp [Rows.uptoBulk]
  | map entries => simp [Rows.uptoBulk]
  | held h => simp [Rows.uptoBulk]
noncomputable def K : Bk where
  b := fun H d => Rows.uptoBulk d
  all := fun H l => Rows.uptoBulkAll l
  str := fun H s => by simp [Rows.uptoBulk]
  one := fun H d => one_le d
  slice := fun H e s => by simp only [Rows.uptoBulk]; omega
  agg := fun H e => by simp only [Rows.uptoBulk]; omega
  cons := fun H d r => by simp only [Rows.uptoBulkAll]; omega
def ok_Disk (x : G.Disk) : Prop := (fun l : List UInt8 => (∀ x ∈ l, (fun _ : UInt8 => True) x) /\ l.length * 1 <= 140737488351232) x.Bytes /\ (fun n : Int => -9223372036854775808 <= n /\ n <= 9223372036854775807) x.Kept /\ True
def sz_Disk (x : G.Disk) : Nat := ((fun l : List UInt8 => (l.map (fun _ : UInt8 => 1)).sum + 1) x.Bytes + ((fun _ : Int => 1) x.Kept + (0))) + 1
theorem rd_Disk : Rz K Tryz.prog 24 (fun x : G.Disk => .agg [.sl 1 (x.Bytes.map zas), .int .i64 x.Kept]) ok_Disk sz_Disk :=
  rz_struct (β := (List UInt8) × Int × Unit) (t := 24) (fl := [(22, 0), (3, 1)]) (fun b => (⟨b.1, b.2.1⟩ : G.Disk)) _ _ _ (by kernel_rfl) (rzf_cons (sz := 1) (by kernel_rfl) (rz_slice (t := 22) (e := 5) (sz := 1) (by' := 1) (by kernel_rfl) (by kernel_rfl) (by decide) (by kernel_rfl) (Rz.of (rd_u8 (t := 5) (by kernel_rfl))) (fun _ => rfl)) (rzf_cons (sz := 1) (by kernel_rfl) (Rz.of (rd_i64 (t := 3) (by kernel_rfl))) rzf_nil (fun _ => rfl)) (fun _ => rfl)) (sz := 2) (by kernel_rfl) (fun _ => rfl) (fun _ => rfl) (fun _ h => by exact h) (fun _ => xae _)
def ok_Tablet (x : G.Tablet) : Prop := ok_Disk x.Log /\ (fun l : List (List UInt8) => (∀ x ∈ l, (fun l : List UInt8 => (∀ x ∈ l, (fun _ : UInt8 => True) x) /\ l.length * 1 <= 140737488351232) x) /\ l.length * 24 <= 140737488351232) x.Files /\ (fun n : Int => -9223372036854775808 <= n /\ n <= 9223372036854775807) x.Done /\ (fun n : Int => -9223372036854775808 <= n /\ n <= 9223372036854775807) x.Since /\ True
def sz_Tablet (x : G.Tablet) : Nat := (sz_Disk x.Log + ((fun l : List (List UInt8) => (l.map (fun l : List UInt8 => (l.map (fun _ : UInt8 => 1)).sum + 1)).sum + 1) x.Files + ((fun _ : Int => 1) x.Done + ((fun _ : Int => 1) x.Since + (0))))) + 1
theorem rd_Tablet : Rz K Tryz.prog 27 (fun x : G.Tablet => .agg [.sl 1 (x.Log.Bytes.map zas), .int .i64 x.Log.Kept, .sl 1 (x.Files.map zaf), .int .i64 x.Done, .int .i64 x.Since]) ok_Tablet sz_Tablet :=
  rz_struct (β := G.Disk × (List (List UInt8)) × Int × Int × Unit) (t := 27) (fl := [(24, 0), (25, 2), (3, 3), (3, 4)]) (fun b => (⟨b.1, b.2.1, b.2.2.1, b.2.2.2.1⟩ : G.Tablet)) _ _ _ (by kernel_rfl) (rzf_cons (sz := 2) (by kernel_rfl) (rd_Disk) (rzf_cons (sz := 1) (by kernel_rfl) (rz_slice (t := 25) (e := 22) (sz := 1) (by' := 24) (by kernel_rfl) (by kernel_rfl) (by decide) (by kernel_rfl) (rz_slice (t := 22) (e := 5) (sz := 1) (by' := 1) (by kernel_rfl) (by kernel_rfl) (by decide) (by kernel_rfl) (Rz.of (rd_u8 (t := 5) (by kernel_rfl))) (fun _ => rfl)) (fun _ => rfl)) (rzf_cons (sz := 1) (by kernel_rfl) (Rz.of (rd_i64 (t := 3) (by kernel_rfl))) (rzf_cons (sz := 1) (by kernel_rfl) (Rz.of (rd_i64 (t := 3) (by kernel_rfl))) rzf_nil (fun _ => rfl)) (fun _ => rfl)) (fun _ => rfl)) (fun _ => rfl)) (sz := 5) (by kernel_rfl) (fun _ => rfl) (fun _ => rfl) (fun _ h => by exact h) (fun _ => xae _)
theorem own : ownKnob Tryz.prog.godebug = none := by kernel_rfl
theorem lifted (os : Os)(started : os.Started)(H : Type)(enc : TypeId × Value -> H) :
    ReturnsInHanded {} Tryz.checked os 6 .any (Rows.tabletMakesSpec.pre6 enc Tryz.prog Tryz.f6 Rows.tabletMakesRow.domain false) (Rows.tabletMakesSpec.post enc Tryz.prog Tryz.f6 false true false false) :=
  law_liftS (K := K) (C := Tryz.checked) own started (by kernel_rfl) Tryz.func6
    (ChangeSpec.witness6 (enc := enc) (C := Tryz.checked) false ⟨#[], #[.agg #[.slice none 0 0, .int .i64 0, .slice none 0 0, .int .i64 0, .int .i64 0], .int .i64 0, .int .i64 0, .int .i64 0, .string ⟨#[]⟩, .string ⟨#[]⟩], []⟩ 8 (by kernel_rfl) (by kernel_rfl) (by kernel_rfl) (by kernel_rfl))
    (by kernel_rfl) (by kernel_rfl) (tb := 4) (by kernel_rfl) (by kernel_rfl) rfl Tryz.params6
    (fun ds h => by
      match ds, h with
      | [_, _, _, _, _, _], _ => rfl)
    (zol (t := 27) (Rz.argS (rd_Tablet) (by kernel_rfl) (fun _ => ⟨_, rfl⟩)) (zol (t := 3) (Rz.argC (Rz.of (rd_i64 (t := 3) (by kernel_rfl))) (by kernel_rfl) (fun _ => rfl)) (zol (t := 3) (Rz.argC (Rz.of (rd_i64 (t := 3) (by kernel_rfl))) (by kernel_rfl) (fun _ => rfl)) (zol (t := 3) (Rz.argC (Rz.of (rd_i64 (t := 3) (by kernel_rfl))) (by kernel_rfl) (fun _ => rfl)) (zol (t := 9) (Rz.argC (rz_str (t := 9) (by kernel_rfl)) (by kernel_rfl) (fun _ => rfl)) (zol (t := 9) (Rz.argC (rz_str (t := 9) (by kernel_rfl)) (by kernel_rfl) (fun _ => rfl)) argsZ_nil))))))
    ((fun x hx => law_TabletMakes_ok (TabletMakes_eq x.1 x.2.1 x.2.2.1 x.2.2.2.1 x.2.2.2.2.1 x.2.2.2.2.2.1 (by have := hx.1.1.1.2; omega) (by have := hx.1.2.1.2; omega) (fun b hb => by have := (hx.1.2.1.1 b hb).2; omega))))
theorem TabletMakes_holds : Rows.TabletMakesSaid :=
  OpenClaim.holds_of_wide 6 Tryz.f6 rfl rfl rfl rfl rfl rfl rfl ⟨rfl, rfl, rfl, rfl, rfl⟩ rfl rfl rfl rfl rfl (by kernel_rfl) Tryz.func6 (by kernel_rfl)
    (xa5 (by kernel_rfl)) (by unfold Func.isWrapper; first | (rw [xac (by decide +kernel)]; kernel_rfl) | (rw [xab (by decide +kernel)]; exact ⟨rfl, rfl⟩))
    (fun os started H enc _ => lifted os started H enc)
end FTabletMakes
end Go.Proofs.YticbfakiihfgmaaGreat
