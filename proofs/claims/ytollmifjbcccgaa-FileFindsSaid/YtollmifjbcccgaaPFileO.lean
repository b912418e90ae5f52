/- Which blocks a row may be in. -/
import Derived.Test.YtollmifjbcccgaaPFileN
namespace Go.Proofs.Ytollmifjbcccgaa
open Go Go.Dm
set_option linter.unusedVariables false
set_option linter.unusedSectionVars false
set_option linter.unusedSimpArgs false
namespace G
/-- from the last block that begins ahead of a row to the first that begins behind it -/
def ftK (rows : List (List UInt8)) (row : List UInt8) : Nat → Nat × Nat
  | 0 => (0, 0)
  | k + 1 => (if Op.bytesLess (lget rows (k : Int)) row = true then k else (ftK rows row k).1, if Op.bytesLess row (lget rows (k : Int)) = true then (ftK rows row k).2 else k + 1)
theorem ftK_le (rows : List (List UInt8)) (row : List UInt8) : ∀ k : Nat, (ftK rows row k).1 ≤ k ∧ (ftK rows row k).2 ≤ k
  | 0 => ⟨Nat.le_refl _, Nat.le_refl _⟩
  | k + 1 => by
    have := ftK_le rows row k
    rw [ftK]
    dsimp only
    constructor
    · split <;> omega
    · split <;> omega
theorem find_L1 (row col : List UInt8) (time : Int) (z : Fault) (o : opened) (rows : List (List UInt8)) (hr : rows.length ≤ 100000) : file_Find_L1 row col time (z, o, 0, 0, rows, (rows.length : Int), 0) = file_Find_J1 row col time (z, o, ((ftK rows row rows.length).1 : Int), ((ftK rows row rows.length).2 : Int)) := by
  have key : ∀ (m k : Nat), rows.length - k = m → k ≤ rows.length → file_Find_L1 row col time (z, o, ((ftK rows row k).1 : Int), ((ftK rows row k).2 : Int), rows, (rows.length : Int), (k : Int)) = file_Find_J1 row col time (z, o, ((ftK rows row rows.length).1 : Int), ((ftK rows row rows.length).2 : Int)) := by
    intro m
    induction m with
    | zero =>
      intro k e hk
      have : k = rows.length := by omega
      subst this
      have hB : file_Find_B1 row col time (z, o, ((ftK rows row rows.length).1 : Int), ((ftK rows row rows.length).2 : Int), rows, (rows.length : Int), (rows.length : Int)) = inrO (file_Find_J1 row col time (z, o, ((ftK rows row rows.length).1 : Int), ((ftK rows row rows.length).2 : Int))) := by
        unfold file_Find_B1
        dsimp only
        rw [if_neg (d_f (by omega))]
      unfold file_Find_L1
      rw [loopO_eq, hB]
      cases file_Find_J1 row col time (z, o, ((ftK rows row rows.length).1 : Int), ((ftK rows row rows.length).2 : Int)) <;> rfl
    | succ m ih =>
      intro k e hk
      have hw : w64 ((k : Int) + 1) = ((k + 1 : Nat) : Int) := by rw [w64_id (by omega) (by omega)]; omega
      refine (loopO_inl ?_).trans (ih (k + 1) (by omega) (by omega))
      unfold file_Find_B1
      dsimp only
      rw [if_pos (d_t (by omega)), asrt_pos (by omega), hw, ftK]
      cases Op.bytesLess (lget rows (k : Int)) row <;> cases Op.bytesLess row (lget rows (k : Int)) <;> rfl
  exact key rows.length 0 (by omega) (by omega)
end G
end Go.Proofs.Ytollmifjbcccgaa
