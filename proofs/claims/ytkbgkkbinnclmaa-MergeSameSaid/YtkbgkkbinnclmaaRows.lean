/-
  No cell of these rows narrows 'for every input' (looked for: loops, veiled, ifaces, maps, wideKeys, modest, calm, conditions, laid).
  DERIVED. THE GIVEN ROWS OF THIS SEAT. 8 by the template 'for every input the law returns true; each argument reads behind the call as it read before'; 0 by the template 'total and deterministic' (their statements: YtkbgkkbinnclmaaTotals.lean).
  GIVEN WITH THE SEED: the statements are not yours to turn. If you find one false, say at which input.
  Laid BY PROGRAM, IN A SANDBOX (cutbox-rows.mjs): the forced cells as the released guide's own fill.sh prints them over the translation 61b195dabdb67a59… (all of the seat's roots in one cut). By AI agents, Wed Nov 11 2026. No macro, syntax, notation, axiom, sorry.
-/
import Derived.Test.YtkbgkkbinnclmaaChecked
import GoSem.Claim
import GoSem.ClaimJoined
import GoSem.ClaimMapViews
import Derived.JoinedTies
import Derived.KernelRfl
namespace Go.Proofs.Ytkbgkkbinnclmaa
/- THE CELL 'sum', in the pinned program and in every row, IS THE sha256 OF THE DUMP (.gsa) THAT YtkbgkkbinnclmaaProg.lean LOADS. Nothing in Lean hashes anything: it is a label: what it is worth is what the hold of that sum in a sandbox is worth. -/
noncomputable def Try.pinned : Pinned := { name := "ytkbgkkbinnclmaa", sum := "61b195dabdb67a59ab4dcb351e2d6065258c1157035b5d426b065e3d178f6d1b", checked := Try.checked }
namespace Rows
def none {H : Type} : Left H := { results := [], args := [] }

/-- 'tabularylaw.CellAsks': WHATEVER THE INPUT: true; the input reads as it did. -/
def cellAsksSpec : ChangeSpec := { name := "cellAsks", fn := fun _ => fun
  | [d1, d2, d3, d4] => { results := [.lit (.bool true)], args := [d1, d2, d3, d4] }
  | _ => none }
def cellAsksRow : OpenClaim := { program := "ytkbgkkbinnclmaa", sum := "61b195dabdb67a59ab4dcb351e2d6065258c1157035b5d426b065e3d178f6d1b", func := "tabulary/tabularylaw.CellAsks", spec := "cellAsks", unfollowed := true, recurses := true, apart := false }
def CellAsksSaid : Prop := cellAsksRow.holds Try.pinned (OpenSpec.ofChange cellAsksSpec)

/-- ITS FALSE NEIGHBOUR: 'it returns false'. Refute it at one input. -/
def cellAsksWrong : ChangeSpec := { name := "cellAsks", fn := fun _ => fun
  | [d1, d2, d3, d4] => { results := [.lit (.bool false)], args := [d1, d2, d3, d4] }
  | _ => none }
def CellAsksWrongFalsely : Prop := cellAsksRow.holds Try.pinned (OpenSpec.ofChange cellAsksWrong)

/-- 'tabularylaw.CellScans': WHATEVER THE INPUT: true; the input reads as it did. -/
def cellScansSpec : ChangeSpec := { name := "cellScans", fn := fun _ => fun
  | [d1, d2] => { results := [.lit (.bool true)], args := [d1, d2] }
  | _ => none }
def cellScansRow : OpenClaim := { program := "ytkbgkkbinnclmaa", sum := "61b195dabdb67a59ab4dcb351e2d6065258c1157035b5d426b065e3d178f6d1b", func := "tabulary/tabularylaw.CellScans", spec := "cellScans", unfollowed := true, recurses := true, apart := false }
def CellScansSaid : Prop := cellScansRow.holds Try.pinned (OpenSpec.ofChange cellScansSpec)

/-- ITS FALSE NEIGHBOUR: 'it returns false'. Refute it at one input. -/
def cellScansWrong : ChangeSpec := { name := "cellScans", fn := fun _ => fun
  | [d1, d2] => { results := [.lit (.bool false)], args := [d1, d2] }
  | _ => none }
def CellScansWrongFalsely : Prop := cellScansRow.holds Try.pinned (OpenSpec.ofChange cellScansWrong)

/-- 'tabularylaw.MergeCompacts': WHATEVER THE INPUT: true; the input reads as it did. -/
def mergeCompactsSpec : ChangeSpec := { name := "mergeCompacts", fn := fun _ => fun
  | [d1, d2, d3] => { results := [.lit (.bool true)], args := [d1, d2, d3] }
  | _ => none }
def mergeCompactsRow : OpenClaim := { program := "ytkbgkkbinnclmaa", sum := "61b195dabdb67a59ab4dcb351e2d6065258c1157035b5d426b065e3d178f6d1b", func := "tabulary/tabularylaw.MergeCompacts", spec := "mergeCompacts", unfollowed := true, recurses := true, apart := false }
def MergeCompactsSaid : Prop := mergeCompactsRow.holds Try.pinned (OpenSpec.ofChange mergeCompactsSpec)

/-- ITS FALSE NEIGHBOUR: 'it returns false'. Refute it at one input. -/
def mergeCompactsWrong : ChangeSpec := { name := "mergeCompacts", fn := fun _ => fun
  | [d1, d2, d3] => { results := [.lit (.bool false)], args := [d1, d2, d3] }
  | _ => none }
def MergeCompactsWrongFalsely : Prop := mergeCompactsRow.holds Try.pinned (OpenSpec.ofChange mergeCompactsWrong)

/-- 'tabularylaw.MergeGroups': WHATEVER THE INPUT: true; the input reads as it did. -/
def mergeGroupsSpec : ChangeSpec := { name := "mergeGroups", fn := fun _ => fun
  | [d1, d2] => { results := [.lit (.bool true)], args := [d1, d2] }
  | _ => none }
def mergeGroupsRow : OpenClaim := { program := "ytkbgkkbinnclmaa", sum := "61b195dabdb67a59ab4dcb351e2d6065258c1157035b5d426b065e3d178f6d1b", func := "tabulary/tabularylaw.MergeGroups", spec := "mergeGroups", unfollowed := true, recurses := true, apart := false }
def MergeGroupsSaid : Prop := mergeGroupsRow.holds Try.pinned (OpenSpec.ofChange mergeGroupsSpec)

/-- ITS FALSE NEIGHBOUR: 'it returns false'. Refute it at one input. -/
def mergeGroupsWrong : ChangeSpec := { name := "mergeGroups", fn := fun _ => fun
  | [d1, d2] => { results := [.lit (.bool false)], args := [d1, d2] }
  | _ => none }
def MergeGroupsWrongFalsely : Prop := mergeGroupsRow.holds Try.pinned (OpenSpec.ofChange mergeGroupsWrong)

/-- 'tabularylaw.CellWrites': WHATEVER THE INPUT: true; the input reads as it did. -/
def cellWritesSpec : ChangeSpec := { name := "cellWrites", fn := fun _ => fun
  | [d1, d2] => { results := [.lit (.bool true)], args := [d1, d2] }
  | _ => none }
def cellWritesRow : OpenClaim := { program := "ytkbgkkbinnclmaa", sum := "61b195dabdb67a59ab4dcb351e2d6065258c1157035b5d426b065e3d178f6d1b", func := "tabulary/tabularylaw.CellWrites", spec := "cellWrites", unfollowed := true, recurses := true, apart := false }
def CellWritesSaid : Prop := cellWritesRow.holds Try.pinned (OpenSpec.ofChange cellWritesSpec)

/-- ITS FALSE NEIGHBOUR: 'it returns false'. Refute it at one input. -/
def cellWritesWrong : ChangeSpec := { name := "cellWrites", fn := fun _ => fun
  | [d1, d2] => { results := [.lit (.bool false)], args := [d1, d2] }
  | _ => none }
def CellWritesWrongFalsely : Prop := cellWritesRow.holds Try.pinned (OpenSpec.ofChange cellWritesWrong)

/-- 'tabularylaw.MergeJoins': WHATEVER THE INPUT: true; the input reads as it did. -/
def mergeJoinsSpec : ChangeSpec := { name := "mergeJoins", fn := fun _ => fun
  | [d1, d2] => { results := [.lit (.bool true)], args := [d1, d2] }
  | _ => none }
def mergeJoinsRow : OpenClaim := { program := "ytkbgkkbinnclmaa", sum := "61b195dabdb67a59ab4dcb351e2d6065258c1157035b5d426b065e3d178f6d1b", func := "tabulary/tabularylaw.MergeJoins", spec := "mergeJoins", unfollowed := true, recurses := true, apart := false }
def MergeJoinsSaid : Prop := mergeJoinsRow.holds Try.pinned (OpenSpec.ofChange mergeJoinsSpec)

/-- ITS FALSE NEIGHBOUR: 'it returns false'. Refute it at one input. -/
def mergeJoinsWrong : ChangeSpec := { name := "mergeJoins", fn := fun _ => fun
  | [d1, d2] => { results := [.lit (.bool false)], args := [d1, d2] }
  | _ => none }
def MergeJoinsWrongFalsely : Prop := mergeJoinsRow.holds Try.pinned (OpenSpec.ofChange mergeJoinsWrong)

/-- 'tabularylaw.MergeSame': WHATEVER THE INPUT: true; the input reads as it did. -/
def mergeSameSpec : ChangeSpec := { name := "mergeSame", fn := fun _ => fun
  | [d1, d2, d3, d4, d5] => { results := [.lit (.bool true)], args := [d1, d2, d3, d4, d5] }
  | _ => none }
def mergeSameRow : OpenClaim := { program := "ytkbgkkbinnclmaa", sum := "61b195dabdb67a59ab4dcb351e2d6065258c1157035b5d426b065e3d178f6d1b", func := "tabulary/tabularylaw.MergeSame", spec := "mergeSame", unfollowed := true, recurses := true, apart := false }
def MergeSameSaid : Prop := mergeSameRow.holds Try.pinned (OpenSpec.ofChange mergeSameSpec)

/-- ITS FALSE NEIGHBOUR: 'it returns false'. Refute it at one input. -/
def mergeSameWrong : ChangeSpec := { name := "mergeSame", fn := fun _ => fun
  | [d1, d2, d3, d4, d5] => { results := [.lit (.bool false)], args := [d1, d2, d3, d4, d5] }
  | _ => none }
def MergeSameWrongFalsely : Prop := mergeSameRow.holds Try.pinned (OpenSpec.ofChange mergeSameWrong)

/-- 'tabularylaw.CellSorts': WHATEVER THE INPUT: true; the input reads as it did. -/
def cellSortsSpec : ChangeSpec := { name := "cellSorts", fn := fun _ => fun
  | [d] => { results := [.lit (.bool true)], args := [d] }
  | _ => none }
def cellSortsRow : OpenClaim := { program := "ytkbgkkbinnclmaa", sum := "61b195dabdb67a59ab4dcb351e2d6065258c1157035b5d426b065e3d178f6d1b", func := "tabulary/tabularylaw.CellSorts", spec := "cellSorts", unfollowed := true, recurses := true, apart := false }
def CellSortsSaid : Prop := cellSortsRow.holds Try.pinned (OpenSpec.ofChange cellSortsSpec)

/-- ITS FALSE NEIGHBOUR: 'it returns false'. Refute it at one input. -/
def cellSortsWrong : ChangeSpec := { name := "cellSorts", fn := fun _ => fun
  | [d] => { results := [.lit (.bool false)], args := [d] }
  | _ => none }
def CellSortsWrongFalsely : Prop := cellSortsRow.holds Try.pinned (OpenSpec.ofChange cellSortsWrong)

/- THE SECOND FORM. 'bulk': how many values and letters a reading holds, each counted each time it is reached (what is shared counts as often as it is met; a slice's spare places count too). A statement '..UptoSaid' is the law's where the arguments, and the package variables that the reading takes, are together of bulk at most 1048576: NARROWER than '..Said'. Prove '..Said' where nothing that the law and all that it calls make is longer than what came in: it says more and counts as full. Else prove '..UptoSaid'. A law counts once. -/
mutual
def uptoBulk {H : Type} : DataW H → Nat
  | .lit (.string bytes) => bytes.length + 1
  | .lit _ => 1
  | .nil => 1
  | .ptr d => uptoBulk d + 1
  | .slice elems spare => uptoBulkAll elems + uptoBulkAll spare + 1
  | .agg parts => uptoBulkAll parts + 1
  | .iface _ d => uptoBulk d + 1
  | .map entries => uptoBulkEntries entries + 1
  | .held _ => 1
def uptoBulkAll {H : Type} : List (DataW H) → Nat
  | [] => 0
  | d :: r => uptoBulk d + uptoBulkAll r
def uptoBulkEntries {H : Type} : List (Lit × DataW H) → Nat
  | [] => 0
  | x :: r => uptoBulkEntry x + uptoBulkEntries r
def uptoBulkEntry {H : Type} : Lit × DataW H → Nat
  | (.string bytes, d) => bytes.length + uptoBulk d + 1
  | (_, d) => uptoBulk d + 1
 end
def uptoSmall : (H : Type) → List (DataW H) → Bool := fun _ ds => decide (uptoBulkAll ds ≤ 1048576)
def OpenSpec.upto (s : _root_.Go.ChangeSpec) : _root_.Go.OpenSpec := { _root_.Go.OpenSpec.ofChange s with cond := some uptoSmall }

/-- 'tabularylaw.CellAsks', WHERE WHAT IT READS IS OF BULK AT MOST 1048576: true; the input reads as it did. -/
def cellAsksUptoRow : OpenClaim := { program := "ytkbgkkbinnclmaa", sum := "61b195dabdb67a59ab4dcb351e2d6065258c1157035b5d426b065e3d178f6d1b", func := "tabulary/tabularylaw.CellAsks", spec := "cellAsks", unfollowed := true, recurses := true, apart := false, narrowed := true }
def CellAsksUptoSaid : Prop := cellAsksUptoRow.holds Try.pinned (OpenSpec.upto cellAsksSpec)

/-- 'tabularylaw.CellScans', WHERE WHAT IT READS IS OF BULK AT MOST 1048576: true; the input reads as it did. -/
def cellScansUptoRow : OpenClaim := { program := "ytkbgkkbinnclmaa", sum := "61b195dabdb67a59ab4dcb351e2d6065258c1157035b5d426b065e3d178f6d1b", func := "tabulary/tabularylaw.CellScans", spec := "cellScans", unfollowed := true, recurses := true, apart := false, narrowed := true }
def CellScansUptoSaid : Prop := cellScansUptoRow.holds Try.pinned (OpenSpec.upto cellScansSpec)

/-- 'tabularylaw.MergeCompacts', WHERE WHAT IT READS IS OF BULK AT MOST 1048576: true; the input reads as it did. -/
def mergeCompactsUptoRow : OpenClaim := { program := "ytkbgkkbinnclmaa", sum := "61b195dabdb67a59ab4dcb351e2d6065258c1157035b5d426b065e3d178f6d1b", func := "tabulary/tabularylaw.MergeCompacts", spec := "mergeCompacts", unfollowed := true, recurses := true, apart := false, narrowed := true }
def MergeCompactsUptoSaid : Prop := mergeCompactsUptoRow.holds Try.pinned (OpenSpec.upto mergeCompactsSpec)

/-- 'tabularylaw.MergeGroups', WHERE WHAT IT READS IS OF BULK AT MOST 1048576: true; the input reads as it did. -/
def mergeGroupsUptoRow : OpenClaim := { program := "ytkbgkkbinnclmaa", sum := "61b195dabdb67a59ab4dcb351e2d6065258c1157035b5d426b065e3d178f6d1b", func := "tabulary/tabularylaw.MergeGroups", spec := "mergeGroups", unfollowed := true, recurses := true, apart := false, narrowed := true }
def MergeGroupsUptoSaid : Prop := mergeGroupsUptoRow.holds Try.pinned (OpenSpec.upto mergeGroupsSpec)

/-- 'tabularylaw.CellWrites', WHERE WHAT IT READS IS OF BULK AT MOST 1048576: true; the input reads as it did. -/
def cellWritesUptoRow : OpenClaim := { program := "ytkbgkkbinnclmaa", sum := "61b195dabdb67a59ab4dcb351e2d6065258c1157035b5d426b065e3d178f6d1b", func := "tabulary/tabularylaw.CellWrites", spec := "cellWrites", unfollowed := true, recurses := true, apart := false, narrowed := true }
def CellWritesUptoSaid : Prop := cellWritesUptoRow.holds Try.pinned (OpenSpec.upto cellWritesSpec)

/-- 'tabularylaw.MergeJoins', WHERE WHAT IT READS IS OF BULK AT MOST 1048576: true; the input reads as it did. -/
def mergeJoinsUptoRow : OpenClaim := { program := "ytkbgkkbinnclmaa", sum := "61b195dabdb67a59ab4dcb351e2d6065258c1157035b5d426b065e3d178f6d1b", func := "tabulary/tabularylaw.MergeJoins", spec := "mergeJoins", unfollowed := true, recurses := true, apart := false, narrowed := true }
def MergeJoinsUptoSaid : Prop := mergeJoinsUptoRow.holds Try.pinned (OpenSpec.upto mergeJoinsSpec)

/-- 'tabularylaw.MergeSame', WHERE WHAT IT READS IS OF BULK AT MOST 1048576: true; the input reads as it did. -/
def mergeSameUptoRow : OpenClaim := { program := "ytkbgkkbinnclmaa", sum := "61b195dabdb67a59ab4dcb351e2d6065258c1157035b5d426b065e3d178f6d1b", func := "tabulary/tabularylaw.MergeSame", spec := "mergeSame", unfollowed := true, recurses := true, apart := false, narrowed := true }
def MergeSameUptoSaid : Prop := mergeSameUptoRow.holds Try.pinned (OpenSpec.upto mergeSameSpec)

/-- 'tabularylaw.CellSorts', WHERE WHAT IT READS IS OF BULK AT MOST 1048576: true; the input reads as it did. -/
def cellSortsUptoRow : OpenClaim := { program := "ytkbgkkbinnclmaa", sum := "61b195dabdb67a59ab4dcb351e2d6065258c1157035b5d426b065e3d178f6d1b", func := "tabulary/tabularylaw.CellSorts", spec := "cellSorts", unfollowed := true, recurses := true, apart := false, narrowed := true }
def CellSortsUptoSaid : Prop := cellSortsUptoRow.holds Try.pinned (OpenSpec.upto cellSortsSpec)

end Rows
end Go.Proofs.Ytkbgkkbinnclmaa
