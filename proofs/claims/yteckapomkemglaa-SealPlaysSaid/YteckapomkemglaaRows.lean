/-
  No cell of these rows narrows 'for every input' (looked for: loops, veiled, ifaces, maps, wideKeys, modest, calm, conditions, laid).
  DERIVED. THE GIVEN ROWS OF THIS SEAT. 4 by the template 'for every input the law returns true; each argument reads behind the call as it read before'; 0 by the template 'total and deterministic' (their statements: YteckapomkemglaaTotals.lean).
  GIVEN WITH THE SEED: the statements are not yours to turn. If you find one false, say at which input.
  Laid BY PROGRAM, IN A SANDBOX (cutbox-rows.mjs): the forced cells as the released guide's own fill.sh prints them over the translation 0e04effce75fe31f… (all of the seat's roots in one cut). By AI agents, Wed Nov 11 2026. No macro, syntax, notation, axiom, sorry.
-/
import Derived.Test.YteckapomkemglaaChecked
import GoSem.Claim
import GoSem.ClaimJoined
import GoSem.ClaimMapViews
import Derived.JoinedTies
import Derived.KernelRfl
namespace Go.Proofs.Yteckapomkemglaa
/- THE CELL 'sum', in the pinned program and in every row, IS THE sha256 OF THE DUMP (.gsa) THAT YteckapomkemglaaProg.lean LOADS. Nothing in Lean hashes anything: it is a label: what it is worth is what the hold of that sum in a sandbox is worth. -/
noncomputable def Try.pinned : Pinned := { name := "yteckapomkemglaa", sum := "0e04effce75fe31fe6d010b50c450b5e27ccea9e9328c2e64740503f0ee9ad8a", checked := Try.checked }
namespace Rows
def none {H : Type} : Left H := { results := [], args := [] }

/-- 'tabularylaw.SealDoes': WHATEVER THE INPUT: true; the input reads as it did. -/
def sealDoesSpec : ChangeSpec := { name := "sealDoes", fn := fun _ => fun
  | [d1, d2, d3, d4, d5] => { results := [.lit (.bool true)], args := [d1, d2, d3, d4, d5] }
  | _ => none }
def sealDoesRow : OpenClaim := { program := "yteckapomkemglaa", sum := "0e04effce75fe31fe6d010b50c450b5e27ccea9e9328c2e64740503f0ee9ad8a", func := "tabulary/tabularylaw.SealDoes", spec := "sealDoes", unfollowed := true, recurses := true, apart := false }
def SealDoesSaid : Prop := sealDoesRow.holds Try.pinned (OpenSpec.ofChange sealDoesSpec)

/-- ITS FALSE NEIGHBOUR: 'it returns false'. Refute it at one input. -/
def sealDoesWrong : ChangeSpec := { name := "sealDoes", fn := fun _ => fun
  | [d1, d2, d3, d4, d5] => { results := [.lit (.bool false)], args := [d1, d2, d3, d4, d5] }
  | _ => none }
def SealDoesWrongFalsely : Prop := sealDoesRow.holds Try.pinned (OpenSpec.ofChange sealDoesWrong)

/-- 'tabularylaw.SealChooses': WHATEVER THE INPUT: true; the input reads as it did. -/
def sealChoosesSpec : ChangeSpec := { name := "sealChooses", fn := fun _ => fun
  | [d1, d2] => { results := [.lit (.bool true)], args := [d1, d2] }
  | _ => none }
def sealChoosesRow : OpenClaim := { program := "yteckapomkemglaa", sum := "0e04effce75fe31fe6d010b50c450b5e27ccea9e9328c2e64740503f0ee9ad8a", func := "tabulary/tabularylaw.SealChooses", spec := "sealChooses", unfollowed := true, recurses := true, apart := false }
def SealChoosesSaid : Prop := sealChoosesRow.holds Try.pinned (OpenSpec.ofChange sealChoosesSpec)

/-- ITS FALSE NEIGHBOUR: 'it returns false'. Refute it at one input. -/
def sealChoosesWrong : ChangeSpec := { name := "sealChooses", fn := fun _ => fun
  | [d1, d2] => { results := [.lit (.bool false)], args := [d1, d2] }
  | _ => none }
def SealChoosesWrongFalsely : Prop := sealChoosesRow.holds Try.pinned (OpenSpec.ofChange sealChoosesWrong)

/-- 'tabularylaw.SealPlays': WHATEVER THE INPUT: true; the input reads as it did. -/
def sealPlaysSpec : ChangeSpec := { name := "sealPlays", fn := fun _ => fun
  | [d1, d2, d3] => { results := [.lit (.bool true)], args := [d1, d2, d3] }
  | _ => none }
def sealPlaysRow : OpenClaim := { program := "yteckapomkemglaa", sum := "0e04effce75fe31fe6d010b50c450b5e27ccea9e9328c2e64740503f0ee9ad8a", func := "tabulary/tabularylaw.SealPlays", spec := "sealPlays", unfollowed := true, recurses := true, apart := false }
def SealPlaysSaid : Prop := sealPlaysRow.holds Try.pinned (OpenSpec.ofChange sealPlaysSpec)

/-- ITS FALSE NEIGHBOUR: 'it returns false'. Refute it at one input. -/
def sealPlaysWrong : ChangeSpec := { name := "sealPlays", fn := fun _ => fun
  | [d1, d2, d3] => { results := [.lit (.bool false)], args := [d1, d2, d3] }
  | _ => none }
def SealPlaysWrongFalsely : Prop := sealPlaysRow.holds Try.pinned (OpenSpec.ofChange sealPlaysWrong)

/-- 'tabularylaw.SealAgrees': WHATEVER THE INPUT: true; the input reads as it did. -/
def sealAgreesSpec : ChangeSpec := { name := "sealAgrees", fn := fun _ => fun
  | [d1, d2, d3] => { results := [.lit (.bool true)], args := [d1, d2, d3] }
  | _ => none }
def sealAgreesRow : OpenClaim := { program := "yteckapomkemglaa", sum := "0e04effce75fe31fe6d010b50c450b5e27ccea9e9328c2e64740503f0ee9ad8a", func := "tabulary/tabularylaw.SealAgrees", spec := "sealAgrees", unfollowed := true, recurses := true, apart := false }
def SealAgreesSaid : Prop := sealAgreesRow.holds Try.pinned (OpenSpec.ofChange sealAgreesSpec)

/-- ITS FALSE NEIGHBOUR: 'it returns false'. Refute it at one input. -/
def sealAgreesWrong : ChangeSpec := { name := "sealAgrees", fn := fun _ => fun
  | [d1, d2, d3] => { results := [.lit (.bool false)], args := [d1, d2, d3] }
  | _ => none }
def SealAgreesWrongFalsely : Prop := sealAgreesRow.holds Try.pinned (OpenSpec.ofChange sealAgreesWrong)

/- THE SECOND FORM. 'bulk': how many values and letters a reading holds, each counted each time it is reached (what is shared counts as often as it is met; a slice's spare places count too). A statement '..UptoSaid' is the law's where the arguments, and the package variables that the reading takes, are together of bulk at most 1048576: NARROWER than '..Said'. Prove '..Said' where nothing that the law and all that it calls make is longer than what came in: it says more and counts as full. Else prove '..UptoSaid'. A law counts once. -/
mutual
def uptoBulk {H : Type} : DataW H → Nat
  | .lit (.string bytes) => bytes.length + 1
  | .lit _ => 1
  | .nil => 1
  | .ptr d => uptoBulk d + 1
  | .slice elems spare => uptoBulkAll elems + uptoBulkAll spare + 1
  | .agg parts => uptoBulkAll parts + 1
  | .iface _ d => uptoBulk d + 1
  | .map entries => uptoBulkEntries entries + 1
  | .held _ => 1
def uptoBulkAll {H : Type} : List (DataW H) → Nat
  | [] => 0
  | d :: r => uptoBulk d + uptoBulkAll r
def uptoBulkEntries {H : Type} : List (Lit × DataW H) → Nat
  | [] => 0
  | x :: r => uptoBulkEntry x + uptoBulkEntries r
def uptoBulkEntry {H : Type} : Lit × DataW H → Nat
  | (.string bytes, d) => bytes.length + uptoBulk d + 1
  | (_, d) => uptoBulk d + 1
 end
def uptoSmall : (H : Type) → List (DataW H) → Bool := fun _ ds => decide (uptoBulkAll ds ≤ 1048576)
def OpenSpec.upto (s : _root_.Go.ChangeSpec) : _root_.Go.OpenSpec := { _root_.Go.OpenSpec.ofChange s with cond := some uptoSmall }

/-- 'tabularylaw.SealDoes', WHERE WHAT IT READS IS OF BULK AT MOST 1048576: true; the input reads as it did. -/
def sealDoesUptoRow : OpenClaim := { program := "yteckapomkemglaa", sum := "0e04effce75fe31fe6d010b50c450b5e27ccea9e9328c2e64740503f0ee9ad8a", func := "tabulary/tabularylaw.SealDoes", spec := "sealDoes", unfollowed := true, recurses := true, apart := false, narrowed := true }
def SealDoesUptoSaid : Prop := sealDoesUptoRow.holds Try.pinned (OpenSpec.upto sealDoesSpec)

/-- 'tabularylaw.SealChooses', WHERE WHAT IT READS IS OF BULK AT MOST 1048576: true; the input reads as it did. -/
def sealChoosesUptoRow : OpenClaim := { program := "yteckapomkemglaa", sum := "0e04effce75fe31fe6d010b50c450b5e27ccea9e9328c2e64740503f0ee9ad8a", func := "tabulary/tabularylaw.SealChooses", spec := "sealChooses", unfollowed := true, recurses := true, apart := false, narrowed := true }
def SealChoosesUptoSaid : Prop := sealChoosesUptoRow.holds Try.pinned (OpenSpec.upto sealChoosesSpec)

/-- 'tabularylaw.SealPlays', WHERE WHAT IT READS IS OF BULK AT MOST 1048576: true; the input reads as it did. -/
def sealPlaysUptoRow : OpenClaim := { program := "yteckapomkemglaa", sum := "0e04effce75fe31fe6d010b50c450b5e27ccea9e9328c2e64740503f0ee9ad8a", func := "tabulary/tabularylaw.SealPlays", spec := "sealPlays", unfollowed := true, recurses := true, apart := false, narrowed := true }
def SealPlaysUptoSaid : Prop := sealPlaysUptoRow.holds Try.pinned (OpenSpec.upto sealPlaysSpec)

/-- 'tabularylaw.SealAgrees', WHERE WHAT IT READS IS OF BULK AT MOST 1048576: true; the input reads as it did. -/
def sealAgreesUptoRow : OpenClaim := { program := "yteckapomkemglaa", sum := "0e04effce75fe31fe6d010b50c450b5e27ccea9e9328c2e64740503f0ee9ad8a", func := "tabulary/tabularylaw.SealAgrees", spec := "sealAgrees", unfollowed := true, recurses := true, apart := false, narrowed := true }
def SealAgreesUptoSaid : Prop := sealAgreesUptoRow.holds Try.pinned (OpenSpec.upto sealAgreesSpec)

end Rows
end Go.Proofs.Yteckapomkemglaa
