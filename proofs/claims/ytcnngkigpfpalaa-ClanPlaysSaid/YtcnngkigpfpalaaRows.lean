/-
  No cell of these rows narrows 'for every input' (looked for: loops, veiled, ifaces, maps, wideKeys, modest, calm, conditions, laid).
  DERIVED. THE GIVEN ROWS OF THIS SEAT. 10 by the template 'for every input the law returns true; each argument reads behind the call as it read before'; 0 by the template 'total and deterministic' (their statements: YtcnngkigpfpalaaTotals.lean).
  GIVEN WITH THE SEED: the statements are not yours to turn. If you find one false, say at which input.
  Laid BY PROGRAM, IN A SANDBOX (cutbox-rows.mjs): the forced cells as the released guide's own fill.sh prints them over the translation 7d3e413a6ce28624… (all of the seat's roots in one cut). By AI agents, Wed Nov 11 2026. No macro, syntax, notation, axiom, sorry.
-/
import Derived.Test.YtcnngkigpfpalaaChecked
import GoSem.Claim
import GoSem.ClaimJoined
import GoSem.ClaimMapViews
import Derived.JoinedTies
import Derived.KernelRfl
namespace Go.Proofs.Ytcnngkigpfpalaa
/- THE CELL 'sum', in the pinned program and in every row, IS THE sha256 OF THE DUMP (.gsa) THAT YtcnngkigpfpalaaProg.lean LOADS. Nothing in Lean hashes anything: it is a label: what it is worth is what the hold of that sum in a sandbox is worth. -/
noncomputable def Try.pinned : Pinned := { name := "ytcnngkigpfpalaa", sum := "7d3e413a6ce28624f355c91427dd394668d22da4004a8f6b6c0bc41dc278d6f9", checked := Try.checked }
namespace Rows
def none {H : Type} : Left H := { results := [], args := [] }

/-- 'tabularylaw.EntryStays': WHATEVER THE INPUT: true; the input reads as it did. -/
def entryStaysSpec : ChangeSpec := { name := "entryStays", fn := fun _ => fun
  | [d1, d2, d3, d4] => { results := [.lit (.bool true)], args := [d1, d2, d3, d4] }
  | _ => none }
def entryStaysRow : OpenClaim := { program := "ytcnngkigpfpalaa", sum := "7d3e413a6ce28624f355c91427dd394668d22da4004a8f6b6c0bc41dc278d6f9", func := "tabulary/tabularylaw.EntryStays", spec := "entryStays", apart := false }
def EntryStaysSaid : Prop := entryStaysRow.holds Try.pinned (OpenSpec.ofChange entryStaysSpec)

/-- ITS FALSE NEIGHBOUR: 'it returns false'. Refute it at one input. -/
def entryStaysWrong : ChangeSpec := { name := "entryStays", fn := fun _ => fun
  | [d1, d2, d3, d4] => { results := [.lit (.bool false)], args := [d1, d2, d3, d4] }
  | _ => none }
def EntryStaysWrongFalsely : Prop := entryStaysRow.holds Try.pinned (OpenSpec.ofChange entryStaysWrong)

/-- 'tabularylaw.EntryOrders': WHATEVER THE INPUT: true; the input reads as it did. -/
def entryOrdersSpec : ChangeSpec := { name := "entryOrders", fn := fun _ => fun
  | [d1, d2, d3] => { results := [.lit (.bool true)], args := [d1, d2, d3] }
  | _ => none }
def entryOrdersRow : OpenClaim := { program := "ytcnngkigpfpalaa", sum := "7d3e413a6ce28624f355c91427dd394668d22da4004a8f6b6c0bc41dc278d6f9", func := "tabulary/tabularylaw.EntryOrders", spec := "entryOrders", apart := false }
def EntryOrdersSaid : Prop := entryOrdersRow.holds Try.pinned (OpenSpec.ofChange entryOrdersSpec)

/-- ITS FALSE NEIGHBOUR: 'it returns false'. Refute it at one input. -/
def entryOrdersWrong : ChangeSpec := { name := "entryOrders", fn := fun _ => fun
  | [d1, d2, d3] => { results := [.lit (.bool false)], args := [d1, d2, d3] }
  | _ => none }
def EntryOrdersWrongFalsely : Prop := entryOrdersRow.holds Try.pinned (OpenSpec.ofChange entryOrdersWrong)

/-- 'tabularylaw.EntryDoes': WHATEVER THE INPUT: true; the input reads as it did. -/
def entryDoesSpec : ChangeSpec := { name := "entryDoes", fn := fun _ => fun
  | [d1, d2, d3, d4] => { results := [.lit (.bool true)], args := [d1, d2, d3, d4] }
  | _ => none }
def entryDoesRow : OpenClaim := { program := "ytcnngkigpfpalaa", sum := "7d3e413a6ce28624f355c91427dd394668d22da4004a8f6b6c0bc41dc278d6f9", func := "tabulary/tabularylaw.EntryDoes", spec := "entryDoes", apart := false }
def EntryDoesSaid : Prop := entryDoesRow.holds Try.pinned (OpenSpec.ofChange entryDoesSpec)

/-- ITS FALSE NEIGHBOUR: 'it returns false'. Refute it at one input. -/
def entryDoesWrong : ChangeSpec := { name := "entryDoes", fn := fun _ => fun
  | [d1, d2, d3, d4] => { results := [.lit (.bool false)], args := [d1, d2, d3, d4] }
  | _ => none }
def EntryDoesWrongFalsely : Prop := entryDoesRow.holds Try.pinned (OpenSpec.ofChange entryDoesWrong)

/-- 'tabularylaw.RaftDoes': WHATEVER THE INPUT: true; the input reads as it did. -/
def raftDoesSpec : ChangeSpec := { name := "raftDoes", fn := fun _ => fun
  | [d1, d2] => { results := [.lit (.bool true)], args := [d1, d2] }
  | _ => none }
def raftDoesRow : OpenClaim := { program := "ytcnngkigpfpalaa", sum := "7d3e413a6ce28624f355c91427dd394668d22da4004a8f6b6c0bc41dc278d6f9", func := "tabulary/tabularylaw.RaftDoes", spec := "raftDoes", unfollowed := true, recurses := true, apart := false }
def RaftDoesSaid : Prop := raftDoesRow.holds Try.pinned (OpenSpec.ofChange raftDoesSpec)

/-- ITS FALSE NEIGHBOUR: 'it returns false'. Refute it at one input. -/
def raftDoesWrong : ChangeSpec := { name := "raftDoes", fn := fun _ => fun
  | [d1, d2] => { results := [.lit (.bool false)], args := [d1, d2] }
  | _ => none }
def RaftDoesWrongFalsely : Prop := raftDoesRow.holds Try.pinned (OpenSpec.ofChange raftDoesWrong)

/-- 'tabularylaw.RaftTakes': WHATEVER THE INPUT: true; the input reads as it did. -/
def raftTakesSpec : ChangeSpec := { name := "raftTakes", fn := fun _ => fun
  | [d1, d2] => { results := [.lit (.bool true)], args := [d1, d2] }
  | _ => none }
def raftTakesRow : OpenClaim := { program := "ytcnngkigpfpalaa", sum := "7d3e413a6ce28624f355c91427dd394668d22da4004a8f6b6c0bc41dc278d6f9", func := "tabulary/tabularylaw.RaftTakes", spec := "raftTakes", unfollowed := true, recurses := true, apart := false }
def RaftTakesSaid : Prop := raftTakesRow.holds Try.pinned (OpenSpec.ofChange raftTakesSpec)

/-- ITS FALSE NEIGHBOUR: 'it returns false'. Refute it at one input. -/
def raftTakesWrong : ChangeSpec := { name := "raftTakes", fn := fun _ => fun
  | [d1, d2] => { results := [.lit (.bool false)], args := [d1, d2] }
  | _ => none }
def RaftTakesWrongFalsely : Prop := raftTakesRow.holds Try.pinned (OpenSpec.ofChange raftTakesWrong)

/-- 'tabularylaw.RaftStays': WHATEVER THE INPUT: true; the input reads as it did. -/
def raftStaysSpec : ChangeSpec := { name := "raftStays", fn := fun _ => fun
  | [d1, d2] => { results := [.lit (.bool true)], args := [d1, d2] }
  | _ => none }
def raftStaysRow : OpenClaim := { program := "ytcnngkigpfpalaa", sum := "7d3e413a6ce28624f355c91427dd394668d22da4004a8f6b6c0bc41dc278d6f9", func := "tabulary/tabularylaw.RaftStays", spec := "raftStays", unfollowed := true, recurses := true, apart := false }
def RaftStaysSaid : Prop := raftStaysRow.holds Try.pinned (OpenSpec.ofChange raftStaysSpec)

/-- ITS FALSE NEIGHBOUR: 'it returns false'. Refute it at one input. -/
def raftStaysWrong : ChangeSpec := { name := "raftStays", fn := fun _ => fun
  | [d1, d2] => { results := [.lit (.bool false)], args := [d1, d2] }
  | _ => none }
def RaftStaysWrongFalsely : Prop := raftStaysRow.holds Try.pinned (OpenSpec.ofChange raftStaysWrong)

/-- 'tabularylaw.ClanPlays': WHATEVER THE INPUT: true; the input reads as it did. -/
def clanPlaysSpec : ChangeSpec := { name := "clanPlays", fn := fun _ => fun
  | [d1, d2, d3] => { results := [.lit (.bool true)], args := [d1, d2, d3] }
  | _ => none }
def clanPlaysRow : OpenClaim := { program := "ytcnngkigpfpalaa", sum := "7d3e413a6ce28624f355c91427dd394668d22da4004a8f6b6c0bc41dc278d6f9", func := "tabulary/tabularylaw.ClanPlays", spec := "clanPlays", unfollowed := true, recurses := true, apart := false }
def ClanPlaysSaid : Prop := clanPlaysRow.holds Try.pinned (OpenSpec.ofChange clanPlaysSpec)

/-- ITS FALSE NEIGHBOUR: 'it returns false'. Refute it at one input. -/
def clanPlaysWrong : ChangeSpec := { name := "clanPlays", fn := fun _ => fun
  | [d1, d2, d3] => { results := [.lit (.bool false)], args := [d1, d2, d3] }
  | _ => none }
def ClanPlaysWrongFalsely : Prop := clanPlaysRow.holds Try.pinned (OpenSpec.ofChange clanPlaysWrong)

/-- 'tabularylaw.ClanGood': WHATEVER THE INPUT: true; the input reads as it did. -/
def clanGoodSpec : ChangeSpec := { name := "clanGood", fn := fun _ => fun
  | [d] => { results := [.lit (.bool true)], args := [d] }
  | _ => none }
def clanGoodRow : OpenClaim := { program := "ytcnngkigpfpalaa", sum := "7d3e413a6ce28624f355c91427dd394668d22da4004a8f6b6c0bc41dc278d6f9", func := "tabulary/tabularylaw.ClanGood", spec := "clanGood", unfollowed := true, recurses := true, apart := false }
def ClanGoodSaid : Prop := clanGoodRow.holds Try.pinned (OpenSpec.ofChange clanGoodSpec)

/-- ITS FALSE NEIGHBOUR: 'it returns false'. Refute it at one input. -/
def clanGoodWrong : ChangeSpec := { name := "clanGood", fn := fun _ => fun
  | [d] => { results := [.lit (.bool false)], args := [d] }
  | _ => none }
def ClanGoodWrongFalsely : Prop := clanGoodRow.holds Try.pinned (OpenSpec.ofChange clanGoodWrong)

/-- 'tabularylaw.ClanAgrees': WHATEVER THE INPUT: true; the input reads as it did. -/
def clanAgreesSpec : ChangeSpec := { name := "clanAgrees", fn := fun _ => fun
  | [d1, d2, d3] => { results := [.lit (.bool true)], args := [d1, d2, d3] }
  | _ => none }
def clanAgreesRow : OpenClaim := { program := "ytcnngkigpfpalaa", sum := "7d3e413a6ce28624f355c91427dd394668d22da4004a8f6b6c0bc41dc278d6f9", func := "tabulary/tabularylaw.ClanAgrees", spec := "clanAgrees", unfollowed := true, recurses := true, apart := false }
def ClanAgreesSaid : Prop := clanAgreesRow.holds Try.pinned (OpenSpec.ofChange clanAgreesSpec)

/-- ITS FALSE NEIGHBOUR: 'it returns false'. Refute it at one input. -/
def clanAgreesWrong : ChangeSpec := { name := "clanAgrees", fn := fun _ => fun
  | [d1, d2, d3] => { results := [.lit (.bool false)], args := [d1, d2, d3] }
  | _ => none }
def ClanAgreesWrongFalsely : Prop := clanAgreesRow.holds Try.pinned (OpenSpec.ofChange clanAgreesWrong)

/-- 'tabularylaw.ClanMoves': WHATEVER THE INPUT: true; the input reads as it did. -/
def clanMovesSpec : ChangeSpec := { name := "clanMoves", fn := fun _ => fun
  | [d1, d2, d3, d4] => { results := [.lit (.bool true)], args := [d1, d2, d3, d4] }
  | _ => none }
def clanMovesRow : OpenClaim := { program := "ytcnngkigpfpalaa", sum := "7d3e413a6ce28624f355c91427dd394668d22da4004a8f6b6c0bc41dc278d6f9", func := "tabulary/tabularylaw.ClanMoves", spec := "clanMoves", unfollowed := true, recurses := true, apart := false }
def ClanMovesSaid : Prop := clanMovesRow.holds Try.pinned (OpenSpec.ofChange clanMovesSpec)

/-- ITS FALSE NEIGHBOUR: 'it returns false'. Refute it at one input. -/
def clanMovesWrong : ChangeSpec := { name := "clanMoves", fn := fun _ => fun
  | [d1, d2, d3, d4] => { results := [.lit (.bool false)], args := [d1, d2, d3, d4] }
  | _ => none }
def ClanMovesWrongFalsely : Prop := clanMovesRow.holds Try.pinned (OpenSpec.ofChange clanMovesWrong)

/- THE SECOND FORM. 'bulk': how many values and letters a reading holds, each counted each time it is reached (what is shared counts as often as it is met; a slice's spare places count too). A statement '..UptoSaid' is the law's where the arguments, and the package variables that the reading takes, are together of bulk at most 1048576: NARROWER than '..Said'. Prove '..Said' where nothing that the law and all that it calls make is longer than what came in: it says more and counts as full. Else prove '..UptoSaid'. A law counts once. -/
mutual
def uptoBulk {H : Type} : DataW H → Nat
  | .lit (.string bytes) => bytes.length + 1
  | .lit _ => 1
  | .nil => 1
  | .ptr d => uptoBulk d + 1
  | .slice elems spare => uptoBulkAll elems + uptoBulkAll spare + 1
  | .agg parts => uptoBulkAll parts + 1
  | .iface _ d => uptoBulk d + 1
  | .map entries => uptoBulkEntries entries + 1
  | .held _ => 1
def uptoBulkAll {H : Type} : List (DataW H) → Nat
  | [] => 0
  | d :: r => uptoBulk d + uptoBulkAll r
def uptoBulkEntries {H : Type} : List (Lit × DataW H) → Nat
  | [] => 0
  | x :: r => uptoBulkEntry x + uptoBulkEntries r
def uptoBulkEntry {H : Type} : Lit × DataW H → Nat
  | (.string bytes, d) => bytes.length + uptoBulk d + 1
  | (_, d) => uptoBulk d + 1
 end
def uptoSmall : (H : Type) → List (DataW H) → Bool := fun _ ds => decide (uptoBulkAll ds ≤ 1048576)
def OpenSpec.upto (s : _root_.Go.ChangeSpec) : _root_.Go.OpenSpec := { _root_.Go.OpenSpec.ofChange s with cond := some uptoSmall }

/-- 'tabularylaw.EntryStays', WHERE WHAT IT READS IS OF BULK AT MOST 1048576: true; the input reads as it did. -/
def entryStaysUptoRow : OpenClaim := { program := "ytcnngkigpfpalaa", sum := "7d3e413a6ce28624f355c91427dd394668d22da4004a8f6b6c0bc41dc278d6f9", func := "tabulary/tabularylaw.EntryStays", spec := "entryStays", apart := false, narrowed := true }
def EntryStaysUptoSaid : Prop := entryStaysUptoRow.holds Try.pinned (OpenSpec.upto entryStaysSpec)

/-- 'tabularylaw.EntryOrders', WHERE WHAT IT READS IS OF BULK AT MOST 1048576: true; the input reads as it did. -/
def entryOrdersUptoRow : OpenClaim := { program := "ytcnngkigpfpalaa", sum := "7d3e413a6ce28624f355c91427dd394668d22da4004a8f6b6c0bc41dc278d6f9", func := "tabulary/tabularylaw.EntryOrders", spec := "entryOrders", apart := false, narrowed := true }
def EntryOrdersUptoSaid : Prop := entryOrdersUptoRow.holds Try.pinned (OpenSpec.upto entryOrdersSpec)

/-- 'tabularylaw.EntryDoes', WHERE WHAT IT READS IS OF BULK AT MOST 1048576: true; the input reads as it did. -/
def entryDoesUptoRow : OpenClaim := { program := "ytcnngkigpfpalaa", sum := "7d3e413a6ce28624f355c91427dd394668d22da4004a8f6b6c0bc41dc278d6f9", func := "tabulary/tabularylaw.EntryDoes", spec := "entryDoes", apart := false, narrowed := true }
def EntryDoesUptoSaid : Prop := entryDoesUptoRow.holds Try.pinned (OpenSpec.upto entryDoesSpec)

/-- 'tabularylaw.RaftDoes', WHERE WHAT IT READS IS OF BULK AT MOST 1048576: true; the input reads as it did. -/
def raftDoesUptoRow : OpenClaim := { program := "ytcnngkigpfpalaa", sum := "7d3e413a6ce28624f355c91427dd394668d22da4004a8f6b6c0bc41dc278d6f9", func := "tabulary/tabularylaw.RaftDoes", spec := "raftDoes", unfollowed := true, recurses := true, apart := false, narrowed := true }
def RaftDoesUptoSaid : Prop := raftDoesUptoRow.holds Try.pinned (OpenSpec.upto raftDoesSpec)

/-- 'tabularylaw.RaftTakes', WHERE WHAT IT READS IS OF BULK AT MOST 1048576: true; the input reads as it did. -/
def raftTakesUptoRow : OpenClaim := { program := "ytcnngkigpfpalaa", sum := "7d3e413a6ce28624f355c91427dd394668d22da4004a8f6b6c0bc41dc278d6f9", func := "tabulary/tabularylaw.RaftTakes", spec := "raftTakes", unfollowed := true, recurses := true, apart := false, narrowed := true }
def RaftTakesUptoSaid : Prop := raftTakesUptoRow.holds Try.pinned (OpenSpec.upto raftTakesSpec)

/-- 'tabularylaw.RaftStays', WHERE WHAT IT READS IS OF BULK AT MOST 1048576: true; the input reads as it did. -/
def raftStaysUptoRow : OpenClaim := { program := "ytcnngkigpfpalaa", sum := "7d3e413a6ce28624f355c91427dd394668d22da4004a8f6b6c0bc41dc278d6f9", func := "tabulary/tabularylaw.RaftStays", spec := "raftStays", unfollowed := true, recurses := true, apart := false, narrowed := true }
def RaftStaysUptoSaid : Prop := raftStaysUptoRow.holds Try.pinned (OpenSpec.upto raftStaysSpec)

/-- 'tabularylaw.ClanPlays', WHERE WHAT IT READS IS OF BULK AT MOST 1048576: true; the input reads as it did. -/
def clanPlaysUptoRow : OpenClaim := { program := "ytcnngkigpfpalaa", sum := "7d3e413a6ce28624f355c91427dd394668d22da4004a8f6b6c0bc41dc278d6f9", func := "tabulary/tabularylaw.ClanPlays", spec := "clanPlays", unfollowed := true, recurses := true, apart := false, narrowed := true }
def ClanPlaysUptoSaid : Prop := clanPlaysUptoRow.holds Try.pinned (OpenSpec.upto clanPlaysSpec)

/-- 'tabularylaw.ClanGood', WHERE WHAT IT READS IS OF BULK AT MOST 1048576: true; the input reads as it did. -/
def clanGoodUptoRow : OpenClaim := { program := "ytcnngkigpfpalaa", sum := "7d3e413a6ce28624f355c91427dd394668d22da4004a8f6b6c0bc41dc278d6f9", func := "tabulary/tabularylaw.ClanGood", spec := "clanGood", unfollowed := true, recurses := true, apart := false, narrowed := true }
def ClanGoodUptoSaid : Prop := clanGoodUptoRow.holds Try.pinned (OpenSpec.upto clanGoodSpec)

/-- 'tabularylaw.ClanAgrees', WHERE WHAT IT READS IS OF BULK AT MOST 1048576: true; the input reads as it did. -/
def clanAgreesUptoRow : OpenClaim := { program := "ytcnngkigpfpalaa", sum := "7d3e413a6ce28624f355c91427dd394668d22da4004a8f6b6c0bc41dc278d6f9", func := "tabulary/tabularylaw.ClanAgrees", spec := "clanAgrees", unfollowed := true, recurses := true, apart := false, narrowed := true }
def ClanAgreesUptoSaid : Prop := clanAgreesUptoRow.holds Try.pinned (OpenSpec.upto clanAgreesSpec)

/-- 'tabularylaw.ClanMoves', WHERE WHAT IT READS IS OF BULK AT MOST 1048576: true; the input reads as it did. -/
def clanMovesUptoRow : OpenClaim := { program := "ytcnngkigpfpalaa", sum := "7d3e413a6ce28624f355c91427dd394668d22da4004a8f6b6c0bc41dc278d6f9", func := "tabulary/tabularylaw.ClanMoves", spec := "clanMoves", unfollowed := true, recurses := true, apart := false, narrowed := true }
def ClanMovesUptoSaid : Prop := clanMovesUptoRow.holds Try.pinned (OpenSpec.upto clanMovesSpec)

end Rows
end Go.Proofs.Ytcnngkigpfpalaa
