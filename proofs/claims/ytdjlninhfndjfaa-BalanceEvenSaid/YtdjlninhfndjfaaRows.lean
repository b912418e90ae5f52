/-
  No cell of these rows narrows 'for every input' (looked for: loops, veiled, ifaces, maps, wideKeys, modest, calm, conditions, laid).
  DERIVED. THE GIVEN ROWS OF THIS SEAT. 12 by the template 'for every input the law returns true; each argument reads behind the call as it read before'; 0 by the template 'total and deterministic' (their statements: YtdjlninhfndjfaaTotals.lean).
  GIVEN WITH THE SEED: the statements are not yours to turn. If you find one false, say at which input.
  Laid BY PROGRAM, IN A SANDBOX (cutbox-rows.mjs): the forced cells as the released guide's own fill.sh prints them over the translation 5d4a53305a2985a5… (all of the seat's roots in one cut). By AI agents, Wed Nov 11 2026. No macro, syntax, notation, axiom, sorry.
-/
import Derived.Test.YtdjlninhfndjfaaChecked
import GoSem.Claim
import GoSem.ClaimJoined
import GoSem.ClaimMapViews
import Derived.JoinedTies
import Derived.KernelRfl
namespace Go.Proofs.Ytdjlninhfndjfaa
/- THE CELL 'sum', in the pinned program and in every row, IS THE sha256 OF THE DUMP (.gsa) THAT YtdjlninhfndjfaaProg.lean LOADS. Nothing in Lean hashes anything: it is a label: what it is worth is what the hold of that sum in a sandbox is worth. -/
noncomputable def Try.pinned : Pinned := { name := "ytdjlninhfndjfaa", sum := "5d4a53305a2985a58fc9837b7fc94db800fe55a9aadc3ff0eaf4c114e7d8b067", checked := Try.checked }
namespace Rows
def none {H : Type} : Left H := { results := [], args := [] }

/-- 'tabularylaw.PartsDoes': WHATEVER THE INPUT: true; the input reads as it did. -/
def partsDoesSpec : ChangeSpec := { name := "partsDoes", fn := fun _ => fun
  | [d1, d2, d3, d4, d5] => { results := [.lit (.bool true)], args := [d1, d2, d3, d4, d5] }
  | _ => none }
def partsDoesRow : OpenClaim := { program := "ytdjlninhfndjfaa", sum := "5d4a53305a2985a58fc9837b7fc94db800fe55a9aadc3ff0eaf4c114e7d8b067", func := "tabulary/tabularylaw.PartsDoes", spec := "partsDoes", unfollowed := true, recurses := true, apart := false }
def PartsDoesSaid : Prop := partsDoesRow.holds Try.pinned (OpenSpec.ofChange partsDoesSpec)

/-- ITS FALSE NEIGHBOUR: 'it returns false'. Refute it at one input. -/
def partsDoesWrong : ChangeSpec := { name := "partsDoes", fn := fun _ => fun
  | [d1, d2, d3, d4, d5] => { results := [.lit (.bool false)], args := [d1, d2, d3, d4, d5] }
  | _ => none }
def PartsDoesWrongFalsely : Prop := partsDoesRow.holds Try.pinned (OpenSpec.ofChange partsDoesWrong)

/-- 'tabularylaw.PartsFinds': WHATEVER THE INPUT: true; the input reads as it did. -/
def partsFindsSpec : ChangeSpec := { name := "partsFinds", fn := fun _ => fun
  | [d1, d2, d3, d4] => { results := [.lit (.bool true)], args := [d1, d2, d3, d4] }
  | _ => none }
def partsFindsRow : OpenClaim := { program := "ytdjlninhfndjfaa", sum := "5d4a53305a2985a58fc9837b7fc94db800fe55a9aadc3ff0eaf4c114e7d8b067", func := "tabulary/tabularylaw.PartsFinds", spec := "partsFinds", unfollowed := true, recurses := true, apart := false }
def PartsFindsSaid : Prop := partsFindsRow.holds Try.pinned (OpenSpec.ofChange partsFindsSpec)

/-- ITS FALSE NEIGHBOUR: 'it returns false'. Refute it at one input. -/
def partsFindsWrong : ChangeSpec := { name := "partsFinds", fn := fun _ => fun
  | [d1, d2, d3, d4] => { results := [.lit (.bool false)], args := [d1, d2, d3, d4] }
  | _ => none }
def PartsFindsWrongFalsely : Prop := partsFindsRow.holds Try.pinned (OpenSpec.ofChange partsFindsWrong)

/-- 'tabularylaw.PartsTile': WHATEVER THE INPUT: true; the input reads as it did. -/
def partsTileSpec : ChangeSpec := { name := "partsTile", fn := fun _ => fun
  | [d1, d2] => { results := [.lit (.bool true)], args := [d1, d2] }
  | _ => none }
def partsTileRow : OpenClaim := { program := "ytdjlninhfndjfaa", sum := "5d4a53305a2985a58fc9837b7fc94db800fe55a9aadc3ff0eaf4c114e7d8b067", func := "tabulary/tabularylaw.PartsTile", spec := "partsTile", unfollowed := true, recurses := true, apart := false }
def PartsTileSaid : Prop := partsTileRow.holds Try.pinned (OpenSpec.ofChange partsTileSpec)

/-- ITS FALSE NEIGHBOUR: 'it returns false'. Refute it at one input. -/
def partsTileWrong : ChangeSpec := { name := "partsTile", fn := fun _ => fun
  | [d1, d2] => { results := [.lit (.bool false)], args := [d1, d2] }
  | _ => none }
def PartsTileWrongFalsely : Prop := partsTileRow.holds Try.pinned (OpenSpec.ofChange partsTileWrong)

/-- 'tabularylaw.LocateFinds': WHATEVER THE INPUT: true; the input reads as it did. -/
def locateFindsSpec : ChangeSpec := { name := "locateFinds", fn := fun _ => fun
  | [d1, d2] => { results := [.lit (.bool true)], args := [d1, d2] }
  | _ => none }
def locateFindsRow : OpenClaim := { program := "ytdjlninhfndjfaa", sum := "5d4a53305a2985a58fc9837b7fc94db800fe55a9aadc3ff0eaf4c114e7d8b067", func := "tabulary/tabularylaw.LocateFinds", spec := "locateFinds", inPlace := ["slices.overlaps[tabulary/api.Known]"], unfollowed := true, recurses := true, apart := false }
def LocateFindsSaid : Prop := locateFindsRow.holds Try.pinned (OpenSpec.ofChange locateFindsSpec)

/-- ITS FALSE NEIGHBOUR: 'it returns false'. Refute it at one input. -/
def locateFindsWrong : ChangeSpec := { name := "locateFinds", fn := fun _ => fun
  | [d1, d2] => { results := [.lit (.bool false)], args := [d1, d2] }
  | _ => none }
def LocateFindsWrongFalsely : Prop := locateFindsRow.holds Try.pinned (OpenSpec.ofChange locateFindsWrong)

/-- 'tabularylaw.LocateAsks': WHATEVER THE INPUT: true; the input reads as it did. -/
def locateAsksSpec : ChangeSpec := { name := "locateAsks", fn := fun _ => fun
  | [d1, d2, d3, d4, d5] => { results := [.lit (.bool true)], args := [d1, d2, d3, d4, d5] }
  | _ => none }
def locateAsksRow : OpenClaim := { program := "ytdjlninhfndjfaa", sum := "5d4a53305a2985a58fc9837b7fc94db800fe55a9aadc3ff0eaf4c114e7d8b067", func := "tabulary/tabularylaw.LocateAsks", spec := "locateAsks", inPlace := ["slices.overlaps[tabulary/api.Known]"], unfollowed := true, recurses := true, apart := false }
def LocateAsksSaid : Prop := locateAsksRow.holds Try.pinned (OpenSpec.ofChange locateAsksSpec)

/-- ITS FALSE NEIGHBOUR: 'it returns false'. Refute it at one input. -/
def locateAsksWrong : ChangeSpec := { name := "locateAsks", fn := fun _ => fun
  | [d1, d2, d3, d4, d5] => { results := [.lit (.bool false)], args := [d1, d2, d3, d4, d5] }
  | _ => none }
def LocateAsksWrongFalsely : Prop := locateAsksRow.holds Try.pinned (OpenSpec.ofChange locateAsksWrong)

/-- 'tabularylaw.LocateDoes': WHATEVER THE INPUT: true; the input reads as it did. -/
def locateDoesSpec : ChangeSpec := { name := "locateDoes", fn := fun _ => fun
  | [d1, d2, d3] => { results := [.lit (.bool true)], args := [d1, d2, d3] }
  | _ => none }
def locateDoesRow : OpenClaim := { program := "ytdjlninhfndjfaa", sum := "5d4a53305a2985a58fc9837b7fc94db800fe55a9aadc3ff0eaf4c114e7d8b067", func := "tabulary/tabularylaw.LocateDoes", spec := "locateDoes", inPlace := ["slices.overlaps[tabulary/api.Known]"], unfollowed := true, recurses := true, apart := false }
def LocateDoesSaid : Prop := locateDoesRow.holds Try.pinned (OpenSpec.ofChange locateDoesSpec)

/-- ITS FALSE NEIGHBOUR: 'it returns false'. Refute it at one input. -/
def locateDoesWrong : ChangeSpec := { name := "locateDoes", fn := fun _ => fun
  | [d1, d2, d3] => { results := [.lit (.bool false)], args := [d1, d2, d3] }
  | _ => none }
def LocateDoesWrongFalsely : Prop := locateDoesRow.holds Try.pinned (OpenSpec.ofChange locateDoesWrong)

/-- 'tabularylaw.AssignDoes': WHATEVER THE INPUT: true; the input reads as it did. -/
def assignDoesSpec : ChangeSpec := { name := "assignDoes", fn := fun _ => fun
  | [d1, d2] => { results := [.lit (.bool true)], args := [d1, d2] }
  | _ => none }
def assignDoesRow : OpenClaim := { program := "ytdjlninhfndjfaa", sum := "5d4a53305a2985a58fc9837b7fc94db800fe55a9aadc3ff0eaf4c114e7d8b067", func := "tabulary/tabularylaw.AssignDoes", spec := "assignDoes", inPlace := ["slices.overlaps[tabulary/api.Slot]"], unfollowed := true, recurses := true, apart := false }
def AssignDoesSaid : Prop := assignDoesRow.holds Try.pinned (OpenSpec.ofChange assignDoesSpec)

/-- ITS FALSE NEIGHBOUR: 'it returns false'. Refute it at one input. -/
def assignDoesWrong : ChangeSpec := { name := "assignDoes", fn := fun _ => fun
  | [d1, d2] => { results := [.lit (.bool false)], args := [d1, d2] }
  | _ => none }
def AssignDoesWrongFalsely : Prop := assignDoesRow.holds Try.pinned (OpenSpec.ofChange assignDoesWrong)

/-- 'tabularylaw.AssignKeeps': WHATEVER THE INPUT: true; the input reads as it did. -/
def assignKeepsSpec : ChangeSpec := { name := "assignKeeps", fn := fun _ => fun
  | [d1, d2] => { results := [.lit (.bool true)], args := [d1, d2] }
  | _ => none }
def assignKeepsRow : OpenClaim := { program := "ytdjlninhfndjfaa", sum := "5d4a53305a2985a58fc9837b7fc94db800fe55a9aadc3ff0eaf4c114e7d8b067", func := "tabulary/tabularylaw.AssignKeeps", spec := "assignKeeps", inPlace := ["slices.overlaps[tabulary/api.Slot]"], unfollowed := true, recurses := true, apart := false }
def AssignKeepsSaid : Prop := assignKeepsRow.holds Try.pinned (OpenSpec.ofChange assignKeepsSpec)

/-- ITS FALSE NEIGHBOUR: 'it returns false'. Refute it at one input. -/
def assignKeepsWrong : ChangeSpec := { name := "assignKeeps", fn := fun _ => fun
  | [d1, d2] => { results := [.lit (.bool false)], args := [d1, d2] }
  | _ => none }
def AssignKeepsWrongFalsely : Prop := assignKeepsRow.holds Try.pinned (OpenSpec.ofChange assignKeepsWrong)

/-- 'tabularylaw.AssignPlays': WHATEVER THE INPUT: true; the input reads as it did. -/
def assignPlaysSpec : ChangeSpec := { name := "assignPlays", fn := fun _ => fun
  | [d] => { results := [.lit (.bool true)], args := [d] }
  | _ => none }
def assignPlaysRow : OpenClaim := { program := "ytdjlninhfndjfaa", sum := "5d4a53305a2985a58fc9837b7fc94db800fe55a9aadc3ff0eaf4c114e7d8b067", func := "tabulary/tabularylaw.AssignPlays", spec := "assignPlays", inPlace := ["slices.overlaps[tabulary/api.Slot]"], unfollowed := true, recurses := true, apart := false }
def AssignPlaysSaid : Prop := assignPlaysRow.holds Try.pinned (OpenSpec.ofChange assignPlaysSpec)

/-- ITS FALSE NEIGHBOUR: 'it returns false'. Refute it at one input. -/
def assignPlaysWrong : ChangeSpec := { name := "assignPlays", fn := fun _ => fun
  | [d] => { results := [.lit (.bool false)], args := [d] }
  | _ => none }
def AssignPlaysWrongFalsely : Prop := assignPlaysRow.holds Try.pinned (OpenSpec.ofChange assignPlaysWrong)

/-- 'tabularylaw.AssignHeals': WHATEVER THE INPUT: true; the input reads as it did. -/
def assignHealsSpec : ChangeSpec := { name := "assignHeals", fn := fun _ => fun
  | [d] => { results := [.lit (.bool true)], args := [d] }
  | _ => none }
def assignHealsRow : OpenClaim := { program := "ytdjlninhfndjfaa", sum := "5d4a53305a2985a58fc9837b7fc94db800fe55a9aadc3ff0eaf4c114e7d8b067", func := "tabulary/tabularylaw.AssignHeals", spec := "assignHeals", inPlace := ["slices.overlaps[tabulary/api.Slot]"], unfollowed := true, recurses := true, apart := false }
def AssignHealsSaid : Prop := assignHealsRow.holds Try.pinned (OpenSpec.ofChange assignHealsSpec)

/-- ITS FALSE NEIGHBOUR: 'it returns false'. Refute it at one input. -/
def assignHealsWrong : ChangeSpec := { name := "assignHeals", fn := fun _ => fun
  | [d] => { results := [.lit (.bool false)], args := [d] }
  | _ => none }
def AssignHealsWrongFalsely : Prop := assignHealsRow.holds Try.pinned (OpenSpec.ofChange assignHealsWrong)

/-- 'tabularylaw.BalanceMoves': WHATEVER THE INPUT: true; the input reads as it did. -/
def balanceMovesSpec : ChangeSpec := { name := "balanceMoves", fn := fun _ => fun
  | [d1, d2] => { results := [.lit (.bool true)], args := [d1, d2] }
  | _ => none }
def balanceMovesRow : OpenClaim := { program := "ytdjlninhfndjfaa", sum := "5d4a53305a2985a58fc9837b7fc94db800fe55a9aadc3ff0eaf4c114e7d8b067", func := "tabulary/tabularylaw.BalanceMoves", spec := "balanceMoves", inPlace := ["slices.overlaps[tabulary/api.Slot]"], unfollowed := true, recurses := true, apart := false }
def BalanceMovesSaid : Prop := balanceMovesRow.holds Try.pinned (OpenSpec.ofChange balanceMovesSpec)

/-- ITS FALSE NEIGHBOUR: 'it returns false'. Refute it at one input. -/
def balanceMovesWrong : ChangeSpec := { name := "balanceMoves", fn := fun _ => fun
  | [d1, d2] => { results := [.lit (.bool false)], args := [d1, d2] }
  | _ => none }
def BalanceMovesWrongFalsely : Prop := balanceMovesRow.holds Try.pinned (OpenSpec.ofChange balanceMovesWrong)

/-- 'tabularylaw.BalanceEven': WHATEVER THE INPUT: true; the input reads as it did. -/
def balanceEvenSpec : ChangeSpec := { name := "balanceEven", fn := fun _ => fun
  | [d] => { results := [.lit (.bool true)], args := [d] }
  | _ => none }
def balanceEvenRow : OpenClaim := { program := "ytdjlninhfndjfaa", sum := "5d4a53305a2985a58fc9837b7fc94db800fe55a9aadc3ff0eaf4c114e7d8b067", func := "tabulary/tabularylaw.BalanceEven", spec := "balanceEven", inPlace := ["slices.overlaps[tabulary/api.Slot]"], unfollowed := true, recurses := true, apart := false }
def BalanceEvenSaid : Prop := balanceEvenRow.holds Try.pinned (OpenSpec.ofChange balanceEvenSpec)

/-- ITS FALSE NEIGHBOUR: 'it returns false'. Refute it at one input. -/
def balanceEvenWrong : ChangeSpec := { name := "balanceEven", fn := fun _ => fun
  | [d] => { results := [.lit (.bool false)], args := [d] }
  | _ => none }
def BalanceEvenWrongFalsely : Prop := balanceEvenRow.holds Try.pinned (OpenSpec.ofChange balanceEvenWrong)

/- THE SECOND FORM. 'bulk': how many values and letters a reading holds, each counted each time it is reached (what is shared counts as often as it is met; a slice's spare places count too). A statement '..UptoSaid' is the law's where the arguments, and the package variables that the reading takes, are together of bulk at most 1048576: NARROWER than '..Said'. Prove '..Said' where nothing that the law and all that it calls make is longer than what came in: it says more and counts as full. Else prove '..UptoSaid'. A law counts once. -/
mutual
def uptoBulk {H : Type} : DataW H → Nat
  | .lit (.string bytes) => bytes.length + 1
  | .lit _ => 1
  | .nil => 1
  | .ptr d => uptoBulk d + 1
  | .slice elems spare => uptoBulkAll elems + uptoBulkAll spare + 1
  | .agg parts => uptoBulkAll parts + 1
  | .iface _ d => uptoBulk d + 1
  | .map entries => uptoBulkEntries entries + 1
  | .held _ => 1
def uptoBulkAll {H : Type} : List (DataW H) → Nat
  | [] => 0
  | d :: r => uptoBulk d + uptoBulkAll r
def uptoBulkEntries {H : Type} : List (Lit × DataW H) → Nat
  | [] => 0
  | x :: r => uptoBulkEntry x + uptoBulkEntries r
def uptoBulkEntry {H : Type} : Lit × DataW H → Nat
  | (.string bytes, d) => bytes.length + uptoBulk d + 1
  | (_, d) => uptoBulk d + 1
 end
def uptoSmall : (H : Type) → List (DataW H) → Bool := fun _ ds => decide (uptoBulkAll ds ≤ 1048576)
def OpenSpec.upto (s : _root_.Go.ChangeSpec) : _root_.Go.OpenSpec := { _root_.Go.OpenSpec.ofChange s with cond := some uptoSmall }

/-- 'tabularylaw.PartsDoes', WHERE WHAT IT READS IS OF BULK AT MOST 1048576: true; the input reads as it did. -/
def partsDoesUptoRow : OpenClaim := { program := "ytdjlninhfndjfaa", sum := "5d4a53305a2985a58fc9837b7fc94db800fe55a9aadc3ff0eaf4c114e7d8b067", func := "tabulary/tabularylaw.PartsDoes", spec := "partsDoes", unfollowed := true, recurses := true, apart := false, narrowed := true }
def PartsDoesUptoSaid : Prop := partsDoesUptoRow.holds Try.pinned (OpenSpec.upto partsDoesSpec)

/-- 'tabularylaw.PartsFinds', WHERE WHAT IT READS IS OF BULK AT MOST 1048576: true; the input reads as it did. -/
def partsFindsUptoRow : OpenClaim := { program := "ytdjlninhfndjfaa", sum := "5d4a53305a2985a58fc9837b7fc94db800fe55a9aadc3ff0eaf4c114e7d8b067", func := "tabulary/tabularylaw.PartsFinds", spec := "partsFinds", unfollowed := true, recurses := true, apart := false, narrowed := true }
def PartsFindsUptoSaid : Prop := partsFindsUptoRow.holds Try.pinned (OpenSpec.upto partsFindsSpec)

/-- 'tabularylaw.PartsTile', WHERE WHAT IT READS IS OF BULK AT MOST 1048576: true; the input reads as it did. -/
def partsTileUptoRow : OpenClaim := { program := "ytdjlninhfndjfaa", sum := "5d4a53305a2985a58fc9837b7fc94db800fe55a9aadc3ff0eaf4c114e7d8b067", func := "tabulary/tabularylaw.PartsTile", spec := "partsTile", unfollowed := true, recurses := true, apart := false, narrowed := true }
def PartsTileUptoSaid : Prop := partsTileUptoRow.holds Try.pinned (OpenSpec.upto partsTileSpec)

/-- 'tabularylaw.LocateFinds', WHERE WHAT IT READS IS OF BULK AT MOST 1048576: true; the input reads as it did. -/
def locateFindsUptoRow : OpenClaim := { program := "ytdjlninhfndjfaa", sum := "5d4a53305a2985a58fc9837b7fc94db800fe55a9aadc3ff0eaf4c114e7d8b067", func := "tabulary/tabularylaw.LocateFinds", spec := "locateFinds", inPlace := ["slices.overlaps[tabulary/api.Known]"], unfollowed := true, recurses := true, apart := false, narrowed := true }
def LocateFindsUptoSaid : Prop := locateFindsUptoRow.holds Try.pinned (OpenSpec.upto locateFindsSpec)

/-- 'tabularylaw.LocateAsks', WHERE WHAT IT READS IS OF BULK AT MOST 1048576: true; the input reads as it did. -/
def locateAsksUptoRow : OpenClaim := { program := "ytdjlninhfndjfaa", sum := "5d4a53305a2985a58fc9837b7fc94db800fe55a9aadc3ff0eaf4c114e7d8b067", func := "tabulary/tabularylaw.LocateAsks", spec := "locateAsks", inPlace := ["slices.overlaps[tabulary/api.Known]"], unfollowed := true, recurses := true, apart := false, narrowed := true }
def LocateAsksUptoSaid : Prop := locateAsksUptoRow.holds Try.pinned (OpenSpec.upto locateAsksSpec)

/-- 'tabularylaw.LocateDoes', WHERE WHAT IT READS IS OF BULK AT MOST 1048576: true; the input reads as it did. -/
def locateDoesUptoRow : OpenClaim := { program := "ytdjlninhfndjfaa", sum := "5d4a53305a2985a58fc9837b7fc94db800fe55a9aadc3ff0eaf4c114e7d8b067", func := "tabulary/tabularylaw.LocateDoes", spec := "locateDoes", inPlace := ["slices.overlaps[tabulary/api.Known]"], unfollowed := true, recurses := true, apart := false, narrowed := true }
def LocateDoesUptoSaid : Prop := locateDoesUptoRow.holds Try.pinned (OpenSpec.upto locateDoesSpec)

/-- 'tabularylaw.AssignDoes', WHERE WHAT IT READS IS OF BULK AT MOST 1048576: true; the input reads as it did. -/
def assignDoesUptoRow : OpenClaim := { program := "ytdjlninhfndjfaa", sum := "5d4a53305a2985a58fc9837b7fc94db800fe55a9aadc3ff0eaf4c114e7d8b067", func := "tabulary/tabularylaw.AssignDoes", spec := "assignDoes", inPlace := ["slices.overlaps[tabulary/api.Slot]"], unfollowed := true, recurses := true, apart := false, narrowed := true }
def AssignDoesUptoSaid : Prop := assignDoesUptoRow.holds Try.pinned (OpenSpec.upto assignDoesSpec)

/-- 'tabularylaw.AssignKeeps', WHERE WHAT IT READS IS OF BULK AT MOST 1048576: true; the input reads as it did. -/
def assignKeepsUptoRow : OpenClaim := { program := "ytdjlninhfndjfaa", sum := "5d4a53305a2985a58fc9837b7fc94db800fe55a9aadc3ff0eaf4c114e7d8b067", func := "tabulary/tabularylaw.AssignKeeps", spec := "assignKeeps", inPlace := ["slices.overlaps[tabulary/api.Slot]"], unfollowed := true, recurses := true, apart := false, narrowed := true }
def AssignKeepsUptoSaid : Prop := assignKeepsUptoRow.holds Try.pinned (OpenSpec.upto assignKeepsSpec)

/-- 'tabularylaw.AssignPlays', WHERE WHAT IT READS IS OF BULK AT MOST 1048576: true; the input reads as it did. -/
def assignPlaysUptoRow : OpenClaim := { program := "ytdjlninhfndjfaa", sum := "5d4a53305a2985a58fc9837b7fc94db800fe55a9aadc3ff0eaf4c114e7d8b067", func := "tabulary/tabularylaw.AssignPlays", spec := "assignPlays", inPlace := ["slices.overlaps[tabulary/api.Slot]"], unfollowed := true, recurses := true, apart := false, narrowed := true }
def AssignPlaysUptoSaid : Prop := assignPlaysUptoRow.holds Try.pinned (OpenSpec.upto assignPlaysSpec)

/-- 'tabularylaw.AssignHeals', WHERE WHAT IT READS IS OF BULK AT MOST 1048576: true; the input reads as it did. -/
def assignHealsUptoRow : OpenClaim := { program := "ytdjlninhfndjfaa", sum := "5d4a53305a2985a58fc9837b7fc94db800fe55a9aadc3ff0eaf4c114e7d8b067", func := "tabulary/tabularylaw.AssignHeals", spec := "assignHeals", inPlace := ["slices.overlaps[tabulary/api.Slot]"], unfollowed := true, recurses := true, apart := false, narrowed := true }
def AssignHealsUptoSaid : Prop := assignHealsUptoRow.holds Try.pinned (OpenSpec.upto assignHealsSpec)

/-- 'tabularylaw.BalanceMoves', WHERE WHAT IT READS IS OF BULK AT MOST 1048576: true; the input reads as it did. -/
def balanceMovesUptoRow : OpenClaim := { program := "ytdjlninhfndjfaa", sum := "5d4a53305a2985a58fc9837b7fc94db800fe55a9aadc3ff0eaf4c114e7d8b067", func := "tabulary/tabularylaw.BalanceMoves", spec := "balanceMoves", inPlace := ["slices.overlaps[tabulary/api.Slot]"], unfollowed := true, recurses := true, apart := false, narrowed := true }
def BalanceMovesUptoSaid : Prop := balanceMovesUptoRow.holds Try.pinned (OpenSpec.upto balanceMovesSpec)

/-- 'tabularylaw.BalanceEven', WHERE WHAT IT READS IS OF BULK AT MOST 1048576: true; the input reads as it did. -/
def balanceEvenUptoRow : OpenClaim := { program := "ytdjlninhfndjfaa", sum := "5d4a53305a2985a58fc9837b7fc94db800fe55a9aadc3ff0eaf4c114e7d8b067", func := "tabulary/tabularylaw.BalanceEven", spec := "balanceEven", inPlace := ["slices.overlaps[tabulary/api.Slot]"], unfollowed := true, recurses := true, apart := false, narrowed := true }
def BalanceEvenUptoSaid : Prop := balanceEvenUptoRow.holds Try.pinned (OpenSpec.upto balanceEvenSpec)

end Rows
end Go.Proofs.Ytdjlninhfndjfaa
