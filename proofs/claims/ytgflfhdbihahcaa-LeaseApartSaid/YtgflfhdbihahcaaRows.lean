/-
  No cell of these rows narrows 'for every input' (looked for: loops, veiled, ifaces, maps, wideKeys, modest, calm, conditions, laid).
  DERIVED. THE GIVEN ROWS OF THIS SEAT. 8 by the template 'for every input the law returns true; each argument reads behind the call as it read before'; 0 by the template 'total and deterministic' (their statements: YtgflfhdbihahcaaTotals.lean).
  GIVEN WITH THE SEED: the statements are not yours to turn. If you find one false, say at which input.
  Laid BY PROGRAM, IN A SANDBOX (cutbox-rows.mjs): the forced cells as the released guide's own fill.sh prints them over the translation 7c6650b9272c1e9e… (all of the seat's roots in one cut). By AI agents, Wed Nov 11 2026. No macro, syntax, notation, axiom, sorry.
-/
import Derived.Test.YtgflfhdbihahcaaChecked
import GoSem.Claim
import GoSem.ClaimJoined
import GoSem.ClaimMapViews
import Derived.JoinedTies
import Derived.KernelRfl
namespace Go.Proofs.Ytgflfhdbihahcaa
/- THE CELL 'sum', in the pinned program and in every row, IS THE sha256 OF THE DUMP (.gsa) THAT YtgflfhdbihahcaaProg.lean LOADS. Nothing in Lean hashes anything: it is a label: what it is worth is what the hold of that sum in a sandbox is worth. -/
noncomputable def Try.pinned : Pinned := { name := "ytgflfhdbihahcaa", sum := "7c6650b9272c1e9ebb23c9d7dcbf9c5816717f911bc0bebbb22f834380c56726", checked := Try.checked }
namespace Rows
def none {H : Type} : Left H := { results := [], args := [] }

/-- 'tabularylaw.LeaseFence': WHATEVER THE INPUT: true; the input reads as it did. -/
def leaseFenceSpec : ChangeSpec := { name := "leaseFence", fn := fun _ => fun
  | [d] => { results := [.lit (.bool true)], args := [d] }
  | _ => none }
def leaseFenceRow : OpenClaim := { program := "ytgflfhdbihahcaa", sum := "7c6650b9272c1e9ebb23c9d7dcbf9c5816717f911bc0bebbb22f834380c56726", func := "tabulary/tabularylaw.LeaseFence", spec := "leaseFence", apart := false }
def LeaseFenceSaid : Prop := leaseFenceRow.holds Try.pinned (OpenSpec.ofChange leaseFenceSpec)

/-- ITS FALSE NEIGHBOUR: 'it returns false'. Refute it at one input. -/
def leaseFenceWrong : ChangeSpec := { name := "leaseFence", fn := fun _ => fun
  | [d] => { results := [.lit (.bool false)], args := [d] }
  | _ => none }
def LeaseFenceWrongFalsely : Prop := leaseFenceRow.holds Try.pinned (OpenSpec.ofChange leaseFenceWrong)

/-- 'tabularylaw.LeaseGrants': WHATEVER THE INPUT: true; the input reads as it did. -/
def leaseGrantsSpec : ChangeSpec := { name := "leaseGrants", fn := fun _ => fun
  | [d1, d2, d3, d4, d5] => { results := [.lit (.bool true)], args := [d1, d2, d3, d4, d5] }
  | _ => none }
def leaseGrantsRow : OpenClaim := { program := "ytgflfhdbihahcaa", sum := "7c6650b9272c1e9ebb23c9d7dcbf9c5816717f911bc0bebbb22f834380c56726", func := "tabulary/tabularylaw.LeaseGrants", spec := "leaseGrants", apart := false }
def LeaseGrantsSaid : Prop := leaseGrantsRow.holds Try.pinned (OpenSpec.ofChange leaseGrantsSpec)

/-- ITS FALSE NEIGHBOUR: 'it returns false'. Refute it at one input. -/
def leaseGrantsWrong : ChangeSpec := { name := "leaseGrants", fn := fun _ => fun
  | [d1, d2, d3, d4, d5] => { results := [.lit (.bool false)], args := [d1, d2, d3, d4, d5] }
  | _ => none }
def LeaseGrantsWrongFalsely : Prop := leaseGrantsRow.holds Try.pinned (OpenSpec.ofChange leaseGrantsWrong)

/-- 'tabularylaw.LeasePlays': WHATEVER THE INPUT: true; the input reads as it did. -/
def leasePlaysSpec : ChangeSpec := { name := "leasePlays", fn := fun _ => fun
  | [d1, d2, d3] => { results := [.lit (.bool true)], args := [d1, d2, d3] }
  | _ => none }
def leasePlaysRow : OpenClaim := { program := "ytgflfhdbihahcaa", sum := "7c6650b9272c1e9ebb23c9d7dcbf9c5816717f911bc0bebbb22f834380c56726", func := "tabulary/tabularylaw.LeasePlays", spec := "leasePlays", unfollowed := true, recurses := true, apart := false }
def LeasePlaysSaid : Prop := leasePlaysRow.holds Try.pinned (OpenSpec.ofChange leasePlaysSpec)

/-- ITS FALSE NEIGHBOUR: 'it returns false'. Refute it at one input. -/
def leasePlaysWrong : ChangeSpec := { name := "leasePlays", fn := fun _ => fun
  | [d1, d2, d3] => { results := [.lit (.bool false)], args := [d1, d2, d3] }
  | _ => none }
def LeasePlaysWrongFalsely : Prop := leasePlaysRow.holds Try.pinned (OpenSpec.ofChange leasePlaysWrong)

/-- 'tabularylaw.LeaseApart': WHATEVER THE INPUT: true; the input reads as it did. -/
def leaseApartSpec : ChangeSpec := { name := "leaseApart", fn := fun _ => fun
  | [d1, d2, d3] => { results := [.lit (.bool true)], args := [d1, d2, d3] }
  | _ => none }
def leaseApartRow : OpenClaim := { program := "ytgflfhdbihahcaa", sum := "7c6650b9272c1e9ebb23c9d7dcbf9c5816717f911bc0bebbb22f834380c56726", func := "tabulary/tabularylaw.LeaseApart", spec := "leaseApart", unfollowed := true, recurses := true, apart := false }
def LeaseApartSaid : Prop := leaseApartRow.holds Try.pinned (OpenSpec.ofChange leaseApartSpec)

/-- ITS FALSE NEIGHBOUR: 'it returns false'. Refute it at one input. -/
def leaseApartWrong : ChangeSpec := { name := "leaseApart", fn := fun _ => fun
  | [d1, d2, d3] => { results := [.lit (.bool false)], args := [d1, d2, d3] }
  | _ => none }
def LeaseApartWrongFalsely : Prop := leaseApartRow.holds Try.pinned (OpenSpec.ofChange leaseApartWrong)

/-- 'tabularylaw.SealDoes': WHATEVER THE INPUT: true; the input reads as it did. -/
def sealDoesSpec : ChangeSpec := { name := "sealDoes", fn := fun _ => fun
  | [d1, d2, d3, d4, d5] => { results := [.lit (.bool true)], args := [d1, d2, d3, d4, d5] }
  | _ => none }
def sealDoesRow : OpenClaim := { program := "ytgflfhdbihahcaa", sum := "7c6650b9272c1e9ebb23c9d7dcbf9c5816717f911bc0bebbb22f834380c56726", func := "tabulary/tabularylaw.SealDoes", spec := "sealDoes", unfollowed := true, recurses := true, apart := false }
def SealDoesSaid : Prop := sealDoesRow.holds Try.pinned (OpenSpec.ofChange sealDoesSpec)

/-- ITS FALSE NEIGHBOUR: 'it returns false'. Refute it at one input. -/
def sealDoesWrong : ChangeSpec := { name := "sealDoes", fn := fun _ => fun
  | [d1, d2, d3, d4, d5] => { results := [.lit (.bool false)], args := [d1, d2, d3, d4, d5] }
  | _ => none }
def SealDoesWrongFalsely : Prop := sealDoesRow.holds Try.pinned (OpenSpec.ofChange sealDoesWrong)

/-- 'tabularylaw.SealChooses': WHATEVER THE INPUT: true; the input reads as it did. -/
def sealChoosesSpec : ChangeSpec := { name := "sealChooses", fn := fun _ => fun
  | [d1, d2] => { results := [.lit (.bool true)], args := [d1, d2] }
  | _ => none }
def sealChoosesRow : OpenClaim := { program := "ytgflfhdbihahcaa", sum := "7c6650b9272c1e9ebb23c9d7dcbf9c5816717f911bc0bebbb22f834380c56726", func := "tabulary/tabularylaw.SealChooses", spec := "sealChooses", unfollowed := true, recurses := true, apart := false }
def SealChoosesSaid : Prop := sealChoosesRow.holds Try.pinned (OpenSpec.ofChange sealChoosesSpec)

/-- ITS FALSE NEIGHBOUR: 'it returns false'. Refute it at one input. -/
def sealChoosesWrong : ChangeSpec := { name := "sealChooses", fn := fun _ => fun
  | [d1, d2] => { results := [.lit (.bool false)], args := [d1, d2] }
  | _ => none }
def SealChoosesWrongFalsely : Prop := sealChoosesRow.holds Try.pinned (OpenSpec.ofChange sealChoosesWrong)

/-- 'tabularylaw.SealPlays': WHATEVER THE INPUT: true; the input reads as it did. -/
def sealPlaysSpec : ChangeSpec := { name := "sealPlays", fn := fun _ => fun
  | [d1, d2, d3] => { results := [.lit (.bool true)], args := [d1, d2, d3] }
  | _ => none }
def sealPlaysRow : OpenClaim := { program := "ytgflfhdbihahcaa", sum := "7c6650b9272c1e9ebb23c9d7dcbf9c5816717f911bc0bebbb22f834380c56726", func := "tabulary/tabularylaw.SealPlays", spec := "sealPlays", unfollowed := true, recurses := true, apart := false }
def SealPlaysSaid : Prop := sealPlaysRow.holds Try.pinned (OpenSpec.ofChange sealPlaysSpec)

/-- ITS FALSE NEIGHBOUR: 'it returns false'. Refute it at one input. -/
def sealPlaysWrong : ChangeSpec := { name := "sealPlays", fn := fun _ => fun
  | [d1, d2, d3] => { results := [.lit (.bool false)], args := [d1, d2, d3] }
  | _ => none }
def SealPlaysWrongFalsely : Prop := sealPlaysRow.holds Try.pinned (OpenSpec.ofChange sealPlaysWrong)

/-- 'tabularylaw.SealAgrees': WHATEVER THE INPUT: true; the input reads as it did. -/
def sealAgreesSpec : ChangeSpec := { name := "sealAgrees", fn := fun _ => fun
  | [d1, d2, d3] => { results := [.lit (.bool true)], args := [d1, d2, d3] }
  | _ => none }
def sealAgreesRow : OpenClaim := { program := "ytgflfhdbihahcaa", sum := "7c6650b9272c1e9ebb23c9d7dcbf9c5816717f911bc0bebbb22f834380c56726", func := "tabulary/tabularylaw.SealAgrees", spec := "sealAgrees", unfollowed := true, recurses := true, apart := false }
def SealAgreesSaid : Prop := sealAgreesRow.holds Try.pinned (OpenSpec.ofChange sealAgreesSpec)

/-- ITS FALSE NEIGHBOUR: 'it returns false'. Refute it at one input. -/
def sealAgreesWrong : ChangeSpec := { name := "sealAgrees", fn := fun _ => fun
  | [d1, d2, d3] => { results := [.lit (.bool false)], args := [d1, d2, d3] }
  | _ => none }
def SealAgreesWrongFalsely : Prop := sealAgreesRow.holds Try.pinned (OpenSpec.ofChange sealAgreesWrong)

/- THE SECOND FORM. 'bulk': how many values and letters a reading holds, each counted each time it is reached (what is shared counts as often as it is met; a slice's spare places count too). A statement '..UptoSaid' is the law's where the arguments, and the package variables that the reading takes, are together of bulk at most 1048576: NARROWER than '..Said'. Prove '..Said' where nothing that the law and all that it calls make is longer than what came in: it says more and counts as full. Else prove '..UptoSaid'. A law counts once. -/
mutual
def uptoBulk {H : Type} : DataW H → Nat
  | .lit (.string bytes) => bytes.length + 1
  | .lit _ => 1
  | .nil => 1
  | .ptr d => uptoBulk d + 1
  | .slice elems spare => uptoBulkAll elems + uptoBulkAll spare + 1
  | .agg parts => uptoBulkAll parts + 1
  | .iface _ d => uptoBulk d + 1
  | .map entries => uptoBulkEntries entries + 1
  | .held _ => 1
def uptoBulkAll {H : Type} : List (DataW H) → Nat
  | [] => 0
  | d :: r => uptoBulk d + uptoBulkAll r
def uptoBulkEntries {H : Type} : List (Lit × DataW H) → Nat
  | [] => 0
  | x :: r => uptoBulkEntry x + uptoBulkEntries r
def uptoBulkEntry {H : Type} : Lit × DataW H → Nat
  | (.string bytes, d) => bytes.length + uptoBulk d + 1
  | (_, d) => uptoBulk d + 1
 end
def uptoSmall : (H : Type) → List (DataW H) → Bool := fun _ ds => decide (uptoBulkAll ds ≤ 1048576)
def OpenSpec.upto (s : _root_.Go.ChangeSpec) : _root_.Go.OpenSpec := { _root_.Go.OpenSpec.ofChange s with cond := some uptoSmall }

/-- 'tabularylaw.LeaseFence', WHERE WHAT IT READS IS OF BULK AT MOST 1048576: true; the input reads as it did. -/
def leaseFenceUptoRow : OpenClaim := { program := "ytgflfhdbihahcaa", sum := "7c6650b9272c1e9ebb23c9d7dcbf9c5816717f911bc0bebbb22f834380c56726", func := "tabulary/tabularylaw.LeaseFence", spec := "leaseFence", apart := false, narrowed := true }
def LeaseFenceUptoSaid : Prop := leaseFenceUptoRow.holds Try.pinned (OpenSpec.upto leaseFenceSpec)

/-- 'tabularylaw.LeaseGrants', WHERE WHAT IT READS IS OF BULK AT MOST 1048576: true; the input reads as it did. -/
def leaseGrantsUptoRow : OpenClaim := { program := "ytgflfhdbihahcaa", sum := "7c6650b9272c1e9ebb23c9d7dcbf9c5816717f911bc0bebbb22f834380c56726", func := "tabulary/tabularylaw.LeaseGrants", spec := "leaseGrants", apart := false, narrowed := true }
def LeaseGrantsUptoSaid : Prop := leaseGrantsUptoRow.holds Try.pinned (OpenSpec.upto leaseGrantsSpec)

/-- 'tabularylaw.LeasePlays', WHERE WHAT IT READS IS OF BULK AT MOST 1048576: true; the input reads as it did. -/
def leasePlaysUptoRow : OpenClaim := { program := "ytgflfhdbihahcaa", sum := "7c6650b9272c1e9ebb23c9d7dcbf9c5816717f911bc0bebbb22f834380c56726", func := "tabulary/tabularylaw.LeasePlays", spec := "leasePlays", unfollowed := true, recurses := true, apart := false, narrowed := true }
def LeasePlaysUptoSaid : Prop := leasePlaysUptoRow.holds Try.pinned (OpenSpec.upto leasePlaysSpec)

/-- 'tabularylaw.LeaseApart', WHERE WHAT IT READS IS OF BULK AT MOST 1048576: true; the input reads as it did. -/
def leaseApartUptoRow : OpenClaim := { program := "ytgflfhdbihahcaa", sum := "7c6650b9272c1e9ebb23c9d7dcbf9c5816717f911bc0bebbb22f834380c56726", func := "tabulary/tabularylaw.LeaseApart", spec := "leaseApart", unfollowed := true, recurses := true, apart := false, narrowed := true }
def LeaseApartUptoSaid : Prop := leaseApartUptoRow.holds Try.pinned (OpenSpec.upto leaseApartSpec)

/-- 'tabularylaw.SealDoes', WHERE WHAT IT READS IS OF BULK AT MOST 1048576: true; the input reads as it did. -/
def sealDoesUptoRow : OpenClaim := { program := "ytgflfhdbihahcaa", sum := "7c6650b9272c1e9ebb23c9d7dcbf9c5816717f911bc0bebbb22f834380c56726", func := "tabulary/tabularylaw.SealDoes", spec := "sealDoes", unfollowed := true, recurses := true, apart := false, narrowed := true }
def SealDoesUptoSaid : Prop := sealDoesUptoRow.holds Try.pinned (OpenSpec.upto sealDoesSpec)

/-- 'tabularylaw.SealChooses', WHERE WHAT IT READS IS OF BULK AT MOST 1048576: true; the input reads as it did. -/
def sealChoosesUptoRow : OpenClaim := { program := "ytgflfhdbihahcaa", sum := "7c6650b9272c1e9ebb23c9d7dcbf9c5816717f911bc0bebbb22f834380c56726", func := "tabulary/tabularylaw.SealChooses", spec := "sealChooses", unfollowed := true, recurses := true, apart := false, narrowed := true }
def SealChoosesUptoSaid : Prop := sealChoosesUptoRow.holds Try.pinned (OpenSpec.upto sealChoosesSpec)

/-- 'tabularylaw.SealPlays', WHERE WHAT IT READS IS OF BULK AT MOST 1048576: true; the input reads as it did. -/
def sealPlaysUptoRow : OpenClaim := { program := "ytgflfhdbihahcaa", sum := "7c6650b9272c1e9ebb23c9d7dcbf9c5816717f911bc0bebbb22f834380c56726", func := "tabulary/tabularylaw.SealPlays", spec := "sealPlays", unfollowed := true, recurses := true, apart := false, narrowed := true }
def SealPlaysUptoSaid : Prop := sealPlaysUptoRow.holds Try.pinned (OpenSpec.upto sealPlaysSpec)

/-- 'tabularylaw.SealAgrees', WHERE WHAT IT READS IS OF BULK AT MOST 1048576: true; the input reads as it did. -/
def sealAgreesUptoRow : OpenClaim := { program := "ytgflfhdbihahcaa", sum := "7c6650b9272c1e9ebb23c9d7dcbf9c5816717f911bc0bebbb22f834380c56726", func := "tabulary/tabularylaw.SealAgrees", spec := "sealAgrees", unfollowed := true, recurses := true, apart := false, narrowed := true }
def SealAgreesUptoSaid : Prop := sealAgreesUptoRow.holds Try.pinned (OpenSpec.upto sealAgreesSpec)

end Rows
end Go.Proofs.Ytgflfhdbihahcaa
