/-
  No cell of these rows narrows 'for every input' (looked for: loops, veiled, ifaces, maps, wideKeys, modest, calm, conditions, laid).
  DERIVED. THE GIVEN ROWS OF THIS SEAT. 5 by the template 'for every input the law returns true; each argument reads behind the call as it read before'; 0 by the template 'total and deterministic' (their statements: YticbfakiihfgmaaGreatTotals.lean).
  GIVEN WITH THE SEED: the statements are not yours to turn. If you find one false, say at which input.
  Laid BY PROGRAM, IN A SANDBOX (cutbox-rows.mjs): the forced cells as the released guide's own fill.sh prints them over the translation 3427656d2b2f2f9d… (all of the seat's roots in one cut). By AI agents, Wed Nov 11 2026. No macro, syntax, notation, axiom, sorry.
-/
import Derived.Test.YticbfakiihfgmaaGreatChecked
import GoSem.Claim
import GoSem.ClaimJoined
import GoSem.ClaimMapViews
import Derived.JoinedTies
import Derived.KernelRfl
namespace Go.Proofs.YticbfakiihfgmaaGreat
/- THE CELL 'sum', in the pinned program and in every row, IS THE sha256 OF THE DUMP (.gsa) THAT YticbfakiihfgmaaGreatProg.lean LOADS. Nothing in Lean hashes anything: it is a label: what it is worth is what the hold of that sum in a sandbox is worth. -/
noncomputable def Tryz.pinned : Pinned := { name := "yticbfakiihfgmaagreat", sum := "3427656d2b2f2f9dbb577782068694be4ba76081602df5a18f397aeb5fe6d87e", checked := Tryz.checked }
namespace Rows
def none {H : Type} : Left H := { results := [], args := [] }

/-- 'tabularylaw.TabletDoes': WHATEVER THE INPUT: true; the input reads as it did. -/
def tabletDoesSpec : ChangeSpec := { name := "tabletDoes", fn := fun _ => fun
  | [d1, d2, d3, d4] => { results := [.lit (.bool true)], args := [d1, d2, d3, d4] }
  | _ => none }
def tabletDoesRow : OpenClaim := { program := "yticbfakiihfgmaagreat", sum := "3427656d2b2f2f9dbb577782068694be4ba76081602df5a18f397aeb5fe6d87e", func := "tabulary/tabularylaw.TabletDoes", spec := "tabletDoes", unfollowed := true, recurses := true, apart := false }
def TabletDoesSaid : Prop := tabletDoesRow.holds Tryz.pinned (OpenSpec.ofChange tabletDoesSpec)

/-- ITS FALSE NEIGHBOUR: 'it returns false'. Refute it at one input. -/
def tabletDoesWrong : ChangeSpec := { name := "tabletDoes", fn := fun _ => fun
  | [d1, d2, d3, d4] => { results := [.lit (.bool false)], args := [d1, d2, d3, d4] }
  | _ => none }
def TabletDoesWrongFalsely : Prop := tabletDoesRow.holds Tryz.pinned (OpenSpec.ofChange tabletDoesWrong)

/-- 'tabularylaw.TabletHalves': WHATEVER THE INPUT: true; the input reads as it did. -/
def tabletHalvesSpec : ChangeSpec := { name := "tabletHalves", fn := fun _ => fun
  | [d1, d2, d3, d4] => { results := [.lit (.bool true)], args := [d1, d2, d3, d4] }
  | _ => none }
def tabletHalvesRow : OpenClaim := { program := "yticbfakiihfgmaagreat", sum := "3427656d2b2f2f9dbb577782068694be4ba76081602df5a18f397aeb5fe6d87e", func := "tabulary/tabularylaw.TabletHalves", spec := "tabletHalves", unfollowed := true, recurses := true, apart := false }
def TabletHalvesSaid : Prop := tabletHalvesRow.holds Tryz.pinned (OpenSpec.ofChange tabletHalvesSpec)

/-- ITS FALSE NEIGHBOUR: 'it returns false'. Refute it at one input. -/
def tabletHalvesWrong : ChangeSpec := { name := "tabletHalves", fn := fun _ => fun
  | [d1, d2, d3, d4] => { results := [.lit (.bool false)], args := [d1, d2, d3, d4] }
  | _ => none }
def TabletHalvesWrongFalsely : Prop := tabletHalvesRow.holds Tryz.pinned (OpenSpec.ofChange tabletHalvesWrong)

/-- 'tabularylaw.TabletAsks': WHATEVER THE INPUT: true; the input reads as it did. -/
def tabletAsksSpec : ChangeSpec := { name := "tabletAsks", fn := fun _ => fun
  | [d1, d2, d3, d4, d5] => { results := [.lit (.bool true)], args := [d1, d2, d3, d4, d5] }
  | _ => none }
def tabletAsksRow : OpenClaim := { program := "yticbfakiihfgmaagreat", sum := "3427656d2b2f2f9dbb577782068694be4ba76081602df5a18f397aeb5fe6d87e", func := "tabulary/tabularylaw.TabletAsks", spec := "tabletAsks", unfollowed := true, recurses := true, apart := false }
def TabletAsksSaid : Prop := tabletAsksRow.holds Tryz.pinned (OpenSpec.ofChange tabletAsksSpec)

/-- ITS FALSE NEIGHBOUR: 'it returns false'. Refute it at one input. -/
def tabletAsksWrong : ChangeSpec := { name := "tabletAsks", fn := fun _ => fun
  | [d1, d2, d3, d4, d5] => { results := [.lit (.bool false)], args := [d1, d2, d3, d4, d5] }
  | _ => none }
def TabletAsksWrongFalsely : Prop := tabletAsksRow.holds Tryz.pinned (OpenSpec.ofChange tabletAsksWrong)

/-- 'tabularylaw.TabletMakes': WHATEVER THE INPUT: true; the input reads as it did. -/
def tabletMakesSpec : ChangeSpec := { name := "tabletMakes", fn := fun _ => fun
  | [d1, d2, d3, d4, d5, d6] => { results := [.lit (.bool true)], args := [d1, d2, d3, d4, d5, d6] }
  | _ => none }
def tabletMakesRow : OpenClaim := { program := "yticbfakiihfgmaagreat", sum := "3427656d2b2f2f9dbb577782068694be4ba76081602df5a18f397aeb5fe6d87e", func := "tabulary/tabularylaw.TabletMakes", spec := "tabletMakes", unfollowed := true, recurses := true, apart := false }
def TabletMakesSaid : Prop := tabletMakesRow.holds Tryz.pinned (OpenSpec.ofChange tabletMakesSpec)

/-- ITS FALSE NEIGHBOUR: 'it returns false'. Refute it at one input. -/
def tabletMakesWrong : ChangeSpec := { name := "tabletMakes", fn := fun _ => fun
  | [d1, d2, d3, d4, d5, d6] => { results := [.lit (.bool false)], args := [d1, d2, d3, d4, d5, d6] }
  | _ => none }
def TabletMakesWrongFalsely : Prop := tabletMakesRow.holds Tryz.pinned (OpenSpec.ofChange tabletMakesWrong)

/-- 'tabularylaw.TabletKeeps': WHATEVER THE INPUT: true; the input reads as it did. -/
def tabletKeepsSpec : ChangeSpec := { name := "tabletKeeps", fn := fun _ => fun
  | [d1, d2] => { results := [.lit (.bool true)], args := [d1, d2] }
  | _ => none }
def tabletKeepsRow : OpenClaim := { program := "yticbfakiihfgmaagreat", sum := "3427656d2b2f2f9dbb577782068694be4ba76081602df5a18f397aeb5fe6d87e", func := "tabulary/tabularylaw.TabletKeeps", spec := "tabletKeeps", unfollowed := true, recurses := true, apart := false }
def TabletKeepsSaid : Prop := tabletKeepsRow.holds Tryz.pinned (OpenSpec.ofChange tabletKeepsSpec)

/-- ITS FALSE NEIGHBOUR: 'it returns false'. Refute it at one input. -/
def tabletKeepsWrong : ChangeSpec := { name := "tabletKeeps", fn := fun _ => fun
  | [d1, d2] => { results := [.lit (.bool false)], args := [d1, d2] }
  | _ => none }
def TabletKeepsWrongFalsely : Prop := tabletKeepsRow.holds Tryz.pinned (OpenSpec.ofChange tabletKeepsWrong)

/- THE SECOND FORM. 'bulk': how many values and letters a reading holds, each counted each time it is reached (what is shared counts as often as it is met; a slice's spare places count too). A statement '..UptoSaid' is the law's where the arguments, and the package variables that the reading takes, are together of bulk at most 1048576: NARROWER than '..Said'. Prove '..Said' where nothing that the law and all that it calls make is longer than what came in: it says more and counts as full. Else prove '..UptoSaid'. A law counts once. -/
mutual
def uptoBulk {H : Type} : DataW H → Nat
  | .lit (.string bytes) => bytes.length + 1
  | .lit _ => 1
  | .nil => 1
  | .ptr d => uptoBulk d + 1
  | .slice elems spare => uptoBulkAll elems + uptoBulkAll spare + 1
  | .agg parts => uptoBulkAll parts + 1
  | .iface _ d => uptoBulk d + 1
  | .map entries => uptoBulkEntries entries + 1
  | .held _ => 1
def uptoBulkAll {H : Type} : List (DataW H) → Nat
  | [] => 0
  | d :: r => uptoBulk d + uptoBulkAll r
def uptoBulkEntries {H : Type} : List (Lit × DataW H) → Nat
  | [] => 0
  | x :: r => uptoBulkEntry x + uptoBulkEntries r
def uptoBulkEntry {H : Type} : Lit × DataW H → Nat
  | (.string bytes, d) => bytes.length + uptoBulk d + 1
  | (_, d) => uptoBulk d + 1
 end
def uptoSmall : (H : Type) → List (DataW H) → Bool := fun _ ds => decide (uptoBulkAll ds ≤ 1048576)
def OpenSpec.upto (s : _root_.Go.ChangeSpec) : _root_.Go.OpenSpec := { _root_.Go.OpenSpec.ofChange s with cond := some uptoSmall }

/-- 'tabularylaw.TabletDoes', WHERE WHAT IT READS IS OF BULK AT MOST 1048576: true; the input reads as it did. -/
def tabletDoesUptoRow : OpenClaim := { program := "yticbfakiihfgmaagreat", sum := "3427656d2b2f2f9dbb577782068694be4ba76081602df5a18f397aeb5fe6d87e", func := "tabulary/tabularylaw.TabletDoes", spec := "tabletDoes", unfollowed := true, recurses := true, apart := false, narrowed := true }
def TabletDoesUptoSaid : Prop := tabletDoesUptoRow.holds Tryz.pinned (OpenSpec.upto tabletDoesSpec)

/-- 'tabularylaw.TabletHalves', WHERE WHAT IT READS IS OF BULK AT MOST 1048576: true; the input reads as it did. -/
def tabletHalvesUptoRow : OpenClaim := { program := "yticbfakiihfgmaagreat", sum := "3427656d2b2f2f9dbb577782068694be4ba76081602df5a18f397aeb5fe6d87e", func := "tabulary/tabularylaw.TabletHalves", spec := "tabletHalves", unfollowed := true, recurses := true, apart := false, narrowed := true }
def TabletHalvesUptoSaid : Prop := tabletHalvesUptoRow.holds Tryz.pinned (OpenSpec.upto tabletHalvesSpec)

/-- 'tabularylaw.TabletAsks', WHERE WHAT IT READS IS OF BULK AT MOST 1048576: true; the input reads as it did. -/
def tabletAsksUptoRow : OpenClaim := { program := "yticbfakiihfgmaagreat", sum := "3427656d2b2f2f9dbb577782068694be4ba76081602df5a18f397aeb5fe6d87e", func := "tabulary/tabularylaw.TabletAsks", spec := "tabletAsks", unfollowed := true, recurses := true, apart := false, narrowed := true }
def TabletAsksUptoSaid : Prop := tabletAsksUptoRow.holds Tryz.pinned (OpenSpec.upto tabletAsksSpec)

/-- 'tabularylaw.TabletMakes', WHERE WHAT IT READS IS OF BULK AT MOST 1048576: true; the input reads as it did. -/
def tabletMakesUptoRow : OpenClaim := { program := "yticbfakiihfgmaagreat", sum := "3427656d2b2f2f9dbb577782068694be4ba76081602df5a18f397aeb5fe6d87e", func := "tabulary/tabularylaw.TabletMakes", spec := "tabletMakes", unfollowed := true, recurses := true, apart := false, narrowed := true }
def TabletMakesUptoSaid : Prop := tabletMakesUptoRow.holds Tryz.pinned (OpenSpec.upto tabletMakesSpec)

/-- 'tabularylaw.TabletKeeps', WHERE WHAT IT READS IS OF BULK AT MOST 1048576: true; the input reads as it did. -/
def tabletKeepsUptoRow : OpenClaim := { program := "yticbfakiihfgmaagreat", sum := "3427656d2b2f2f9dbb577782068694be4ba76081602df5a18f397aeb5fe6d87e", func := "tabulary/tabularylaw.TabletKeeps", spec := "tabletKeeps", unfollowed := true, recurses := true, apart := false, narrowed := true }
def TabletKeepsUptoSaid : Prop := tabletKeepsUptoRow.holds Tryz.pinned (OpenSpec.upto tabletKeepsSpec)

end Rows
end Go.Proofs.YticbfakiihfgmaaGreat
