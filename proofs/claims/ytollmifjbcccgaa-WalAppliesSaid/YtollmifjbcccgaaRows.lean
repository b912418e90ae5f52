/-
  No cell of these rows narrows 'for every input' (looked for: loops, veiled, ifaces, maps, wideKeys, modest, calm, conditions, laid).
  DERIVED. THE GIVEN ROWS OF THIS SEAT. 8 by the template 'for every input the law returns true; each argument reads behind the call as it read before'; 0 by the template 'total and deterministic' (their statements: YtollmifjbcccgaaTotals.lean).
  GIVEN WITH THE SEED: the statements are not yours to turn. If you find one false, say at which input.
  Laid BY PROGRAM, IN A SANDBOX (cutbox-rows.mjs): the forced cells as the released guide's own fill.sh prints them over the translation 30e192a792f66558… (all of the seat's roots in one cut). By AI agents, Wed Nov 11 2026. No macro, syntax, notation, axiom, sorry.
-/
import Derived.Test.YtollmifjbcccgaaChecked
import GoSem.Claim
import GoSem.ClaimJoined
import GoSem.ClaimMapViews
import Derived.JoinedTies
import Derived.KernelRfl
namespace Go.Proofs.Ytollmifjbcccgaa
/- THE CELL 'sum', in the pinned program and in every row, IS THE sha256 OF THE DUMP (.gsa) THAT YtollmifjbcccgaaProg.lean LOADS. Nothing in Lean hashes anything: it is a label: what it is worth is what the hold of that sum in a sandbox is worth. -/
noncomputable def Try.pinned : Pinned := { name := "ytollmifjbcccgaa", sum := "30e192a792f66558a495361c82eb6ae226ec78848ef572da5a80e457f20226e9", checked := Try.checked }
namespace Rows
def none {H : Type} : Left H := { results := [], args := [] }

/-- 'tabularylaw.WalNotes': WHATEVER THE INPUT: true; the input reads as it did. -/
def walNotesSpec : ChangeSpec := { name := "walNotes", fn := fun _ => fun
  | [d1, d2] => { results := [.lit (.bool true)], args := [d1, d2] }
  | _ => none }
def walNotesRow : OpenClaim := { program := "ytollmifjbcccgaa", sum := "30e192a792f66558a495361c82eb6ae226ec78848ef572da5a80e457f20226e9", func := "tabulary/tabularylaw.WalNotes", spec := "walNotes", unfollowed := true, recurses := true, apart := false }
def WalNotesSaid : Prop := walNotesRow.holds Try.pinned (OpenSpec.ofChange walNotesSpec)

/-- ITS FALSE NEIGHBOUR: 'it returns false'. Refute it at one input. -/
def walNotesWrong : ChangeSpec := { name := "walNotes", fn := fun _ => fun
  | [d1, d2] => { results := [.lit (.bool false)], args := [d1, d2] }
  | _ => none }
def WalNotesWrongFalsely : Prop := walNotesRow.holds Try.pinned (OpenSpec.ofChange walNotesWrong)

/-- 'tabularylaw.FileMakes': WHATEVER THE INPUT: true; the input reads as it did. -/
def fileMakesSpec : ChangeSpec := { name := "fileMakes", fn := fun _ => fun
  | [d1, d2] => { results := [.lit (.bool true)], args := [d1, d2] }
  | _ => none }
def fileMakesRow : OpenClaim := { program := "ytollmifjbcccgaa", sum := "30e192a792f66558a495361c82eb6ae226ec78848ef572da5a80e457f20226e9", func := "tabulary/tabularylaw.FileMakes", spec := "fileMakes", unfollowed := true, recurses := true, apart := false }
def FileMakesSaid : Prop := fileMakesRow.holds Try.pinned (OpenSpec.ofChange fileMakesSpec)

/-- ITS FALSE NEIGHBOUR: 'it returns false'. Refute it at one input. -/
def fileMakesWrong : ChangeSpec := { name := "fileMakes", fn := fun _ => fun
  | [d1, d2] => { results := [.lit (.bool false)], args := [d1, d2] }
  | _ => none }
def FileMakesWrongFalsely : Prop := fileMakesRow.holds Try.pinned (OpenSpec.ofChange fileMakesWrong)

/-- 'tabularylaw.FileTorn': WHATEVER THE INPUT: true; the input reads as it did. -/
def fileTornSpec : ChangeSpec := { name := "fileTorn", fn := fun _ => fun
  | [d1, d2, d3, d4] => { results := [.lit (.bool true)], args := [d1, d2, d3, d4] }
  | _ => none }
def fileTornRow : OpenClaim := { program := "ytollmifjbcccgaa", sum := "30e192a792f66558a495361c82eb6ae226ec78848ef572da5a80e457f20226e9", func := "tabulary/tabularylaw.FileTorn", spec := "fileTorn", apart := false }
def FileTornSaid : Prop := fileTornRow.holds Try.pinned (OpenSpec.ofChange fileTornSpec)

/-- ITS FALSE NEIGHBOUR: 'it returns false'. Refute it at one input. -/
def fileTornWrong : ChangeSpec := { name := "fileTorn", fn := fun _ => fun
  | [d1, d2, d3, d4] => { results := [.lit (.bool false)], args := [d1, d2, d3, d4] }
  | _ => none }
def FileTornWrongFalsely : Prop := fileTornRow.holds Try.pinned (OpenSpec.ofChange fileTornWrong)

/-- 'tabularylaw.WalApplies': WHATEVER THE INPUT: true; the input reads as it did. -/
def walAppliesSpec : ChangeSpec := { name := "walApplies", fn := fun _ => fun
  | [d1, d2, d3] => { results := [.lit (.bool true)], args := [d1, d2, d3] }
  | _ => none }
def walAppliesRow : OpenClaim := { program := "ytollmifjbcccgaa", sum := "30e192a792f66558a495361c82eb6ae226ec78848ef572da5a80e457f20226e9", func := "tabulary/tabularylaw.WalApplies", spec := "walApplies", unfollowed := true, recurses := true, apart := false }
def WalAppliesSaid : Prop := walAppliesRow.holds Try.pinned (OpenSpec.ofChange walAppliesSpec)

/-- ITS FALSE NEIGHBOUR: 'it returns false'. Refute it at one input. -/
def walAppliesWrong : ChangeSpec := { name := "walApplies", fn := fun _ => fun
  | [d1, d2, d3] => { results := [.lit (.bool false)], args := [d1, d2, d3] }
  | _ => none }
def WalAppliesWrongFalsely : Prop := walAppliesRow.holds Try.pinned (OpenSpec.ofChange walAppliesWrong)

/-- 'tabularylaw.WalLogs': WHATEVER THE INPUT: true; the input reads as it did. -/
def walLogsSpec : ChangeSpec := { name := "walLogs", fn := fun _ => fun
  | [d1, d2] => { results := [.lit (.bool true)], args := [d1, d2] }
  | _ => none }
def walLogsRow : OpenClaim := { program := "ytollmifjbcccgaa", sum := "30e192a792f66558a495361c82eb6ae226ec78848ef572da5a80e457f20226e9", func := "tabulary/tabularylaw.WalLogs", spec := "walLogs", unfollowed := true, recurses := true, apart := false }
def WalLogsSaid : Prop := walLogsRow.holds Try.pinned (OpenSpec.ofChange walLogsSpec)

/-- ITS FALSE NEIGHBOUR: 'it returns false'. Refute it at one input. -/
def walLogsWrong : ChangeSpec := { name := "walLogs", fn := fun _ => fun
  | [d1, d2] => { results := [.lit (.bool false)], args := [d1, d2] }
  | _ => none }
def WalLogsWrongFalsely : Prop := walLogsRow.holds Try.pinned (OpenSpec.ofChange walLogsWrong)

/-- 'tabularylaw.WalCrash': WHATEVER THE INPUT: true; the input reads as it did. -/
def walCrashSpec : ChangeSpec := { name := "walCrash", fn := fun _ => fun
  | [d1, d2, d3, d4] => { results := [.lit (.bool true)], args := [d1, d2, d3, d4] }
  | _ => none }
def walCrashRow : OpenClaim := { program := "ytollmifjbcccgaa", sum := "30e192a792f66558a495361c82eb6ae226ec78848ef572da5a80e457f20226e9", func := "tabulary/tabularylaw.WalCrash", spec := "walCrash", unfollowed := true, recurses := true, apart := false }
def WalCrashSaid : Prop := walCrashRow.holds Try.pinned (OpenSpec.ofChange walCrashSpec)

/-- ITS FALSE NEIGHBOUR: 'it returns false'. Refute it at one input. -/
def walCrashWrong : ChangeSpec := { name := "walCrash", fn := fun _ => fun
  | [d1, d2, d3, d4] => { results := [.lit (.bool false)], args := [d1, d2, d3, d4] }
  | _ => none }
def WalCrashWrongFalsely : Prop := walCrashRow.holds Try.pinned (OpenSpec.ofChange walCrashWrong)

/-- 'tabularylaw.FileOpens': WHATEVER THE INPUT: true; the input reads as it did. -/
def fileOpensSpec : ChangeSpec := { name := "fileOpens", fn := fun _ => fun
  | [d1, d2, d3, d4] => { results := [.lit (.bool true)], args := [d1, d2, d3, d4] }
  | _ => none }
def fileOpensRow : OpenClaim := { program := "ytollmifjbcccgaa", sum := "30e192a792f66558a495361c82eb6ae226ec78848ef572da5a80e457f20226e9", func := "tabulary/tabularylaw.FileOpens", spec := "fileOpens", unfollowed := true, recurses := true, apart := false }
def FileOpensSaid : Prop := fileOpensRow.holds Try.pinned (OpenSpec.ofChange fileOpensSpec)

/-- ITS FALSE NEIGHBOUR: 'it returns false'. Refute it at one input. -/
def fileOpensWrong : ChangeSpec := { name := "fileOpens", fn := fun _ => fun
  | [d1, d2, d3, d4] => { results := [.lit (.bool false)], args := [d1, d2, d3, d4] }
  | _ => none }
def FileOpensWrongFalsely : Prop := fileOpensRow.holds Try.pinned (OpenSpec.ofChange fileOpensWrong)

/-- 'tabularylaw.FileFinds': WHATEVER THE INPUT: true; the input reads as it did. -/
def fileFindsSpec : ChangeSpec := { name := "fileFinds", fn := fun _ => fun
  | [d1, d2, d3, d4, d5] => { results := [.lit (.bool true)], args := [d1, d2, d3, d4, d5] }
  | _ => none }
def fileFindsRow : OpenClaim := { program := "ytollmifjbcccgaa", sum := "30e192a792f66558a495361c82eb6ae226ec78848ef572da5a80e457f20226e9", func := "tabulary/tabularylaw.FileFinds", spec := "fileFinds", unfollowed := true, recurses := true, apart := false }
def FileFindsSaid : Prop := fileFindsRow.holds Try.pinned (OpenSpec.ofChange fileFindsSpec)

/-- ITS FALSE NEIGHBOUR: 'it returns false'. Refute it at one input. -/
def fileFindsWrong : ChangeSpec := { name := "fileFinds", fn := fun _ => fun
  | [d1, d2, d3, d4, d5] => { results := [.lit (.bool false)], args := [d1, d2, d3, d4, d5] }
  | _ => none }
def FileFindsWrongFalsely : Prop := fileFindsRow.holds Try.pinned (OpenSpec.ofChange fileFindsWrong)

/- THE SECOND FORM. 'bulk': how many values and letters a reading holds, each counted each time it is reached (what is shared counts as often as it is met; a slice's spare places count too). A statement '..UptoSaid' is the law's where the arguments, and the package variables that the reading takes, are together of bulk at most 1048576: NARROWER than '..Said'. Prove '..Said' where nothing that the law and all that it calls make is longer than what came in: it says more and counts as full. Else prove '..UptoSaid'. A law counts once. -/
mutual
def uptoBulk {H : Type} : DataW H → Nat
  | .lit (.string bytes) => bytes.length + 1
  | .lit _ => 1
  | .nil => 1
  | .ptr d => uptoBulk d + 1
  | .slice elems spare => uptoBulkAll elems + uptoBulkAll spare + 1
  | .agg parts => uptoBulkAll parts + 1
  | .iface _ d => uptoBulk d + 1
  | .map entries => uptoBulkEntries entries + 1
  | .held _ => 1
def uptoBulkAll {H : Type} : List (DataW H) → Nat
  | [] => 0
  | d :: r => uptoBulk d + uptoBulkAll r
def uptoBulkEntries {H : Type} : List (Lit × DataW H) → Nat
  | [] => 0
  | x :: r => uptoBulkEntry x + uptoBulkEntries r
def uptoBulkEntry {H : Type} : Lit × DataW H → Nat
  | (.string bytes, d) => bytes.length + uptoBulk d + 1
  | (_, d) => uptoBulk d + 1
 end
def uptoSmall : (H : Type) → List (DataW H) → Bool := fun _ ds => decide (uptoBulkAll ds ≤ 1048576)
def OpenSpec.upto (s : _root_.Go.ChangeSpec) : _root_.Go.OpenSpec := { _root_.Go.OpenSpec.ofChange s with cond := some uptoSmall }

/-- 'tabularylaw.WalNotes', WHERE WHAT IT READS IS OF BULK AT MOST 1048576: true; the input reads as it did. -/
def walNotesUptoRow : OpenClaim := { program := "ytollmifjbcccgaa", sum := "30e192a792f66558a495361c82eb6ae226ec78848ef572da5a80e457f20226e9", func := "tabulary/tabularylaw.WalNotes", spec := "walNotes", unfollowed := true, recurses := true, apart := false, narrowed := true }
def WalNotesUptoSaid : Prop := walNotesUptoRow.holds Try.pinned (OpenSpec.upto walNotesSpec)

/-- 'tabularylaw.FileMakes', WHERE WHAT IT READS IS OF BULK AT MOST 1048576: true; the input reads as it did. -/
def fileMakesUptoRow : OpenClaim := { program := "ytollmifjbcccgaa", sum := "30e192a792f66558a495361c82eb6ae226ec78848ef572da5a80e457f20226e9", func := "tabulary/tabularylaw.FileMakes", spec := "fileMakes", unfollowed := true, recurses := true, apart := false, narrowed := true }
def FileMakesUptoSaid : Prop := fileMakesUptoRow.holds Try.pinned (OpenSpec.upto fileMakesSpec)

/-- 'tabularylaw.FileTorn', WHERE WHAT IT READS IS OF BULK AT MOST 1048576: true; the input reads as it did. -/
def fileTornUptoRow : OpenClaim := { program := "ytollmifjbcccgaa", sum := "30e192a792f66558a495361c82eb6ae226ec78848ef572da5a80e457f20226e9", func := "tabulary/tabularylaw.FileTorn", spec := "fileTorn", apart := false, narrowed := true }
def FileTornUptoSaid : Prop := fileTornUptoRow.holds Try.pinned (OpenSpec.upto fileTornSpec)

/-- 'tabularylaw.WalApplies', WHERE WHAT IT READS IS OF BULK AT MOST 1048576: true; the input reads as it did. -/
def walAppliesUptoRow : OpenClaim := { program := "ytollmifjbcccgaa", sum := "30e192a792f66558a495361c82eb6ae226ec78848ef572da5a80e457f20226e9", func := "tabulary/tabularylaw.WalApplies", spec := "walApplies", unfollowed := true, recurses := true, apart := false, narrowed := true }
def WalAppliesUptoSaid : Prop := walAppliesUptoRow.holds Try.pinned (OpenSpec.upto walAppliesSpec)

/-- 'tabularylaw.WalLogs', WHERE WHAT IT READS IS OF BULK AT MOST 1048576: true; the input reads as it did. -/
def walLogsUptoRow : OpenClaim := { program := "ytollmifjbcccgaa", sum := "30e192a792f66558a495361c82eb6ae226ec78848ef572da5a80e457f20226e9", func := "tabulary/tabularylaw.WalLogs", spec := "walLogs", unfollowed := true, recurses := true, apart := false, narrowed := true }
def WalLogsUptoSaid : Prop := walLogsUptoRow.holds Try.pinned (OpenSpec.upto walLogsSpec)

/-- 'tabularylaw.WalCrash', WHERE WHAT IT READS IS OF BULK AT MOST 1048576: true; the input reads as it did. -/
def walCrashUptoRow : OpenClaim := { program := "ytollmifjbcccgaa", sum := "30e192a792f66558a495361c82eb6ae226ec78848ef572da5a80e457f20226e9", func := "tabulary/tabularylaw.WalCrash", spec := "walCrash", unfollowed := true, recurses := true, apart := false, narrowed := true }
def WalCrashUptoSaid : Prop := walCrashUptoRow.holds Try.pinned (OpenSpec.upto walCrashSpec)

/-- 'tabularylaw.FileOpens', WHERE WHAT IT READS IS OF BULK AT MOST 1048576: true; the input reads as it did. -/
def fileOpensUptoRow : OpenClaim := { program := "ytollmifjbcccgaa", sum := "30e192a792f66558a495361c82eb6ae226ec78848ef572da5a80e457f20226e9", func := "tabulary/tabularylaw.FileOpens", spec := "fileOpens", unfollowed := true, recurses := true, apart := false, narrowed := true }
def FileOpensUptoSaid : Prop := fileOpensUptoRow.holds Try.pinned (OpenSpec.upto fileOpensSpec)

/-- 'tabularylaw.FileFinds', WHERE WHAT IT READS IS OF BULK AT MOST 1048576: true; the input reads as it did. -/
def fileFindsUptoRow : OpenClaim := { program := "ytollmifjbcccgaa", sum := "30e192a792f66558a495361c82eb6ae226ec78848ef572da5a80e457f20226e9", func := "tabulary/tabularylaw.FileFinds", spec := "fileFinds", unfollowed := true, recurses := true, apart := false, narrowed := true }
def FileFindsUptoSaid : Prop := fileFindsUptoRow.holds Try.pinned (OpenSpec.upto fileFindsSpec)

end Rows
end Go.Proofs.Ytollmifjbcccgaa
