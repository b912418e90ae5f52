/-
  No cell of these rows narrows 'for every input' (looked for: loops, veiled, ifaces, maps, wideKeys, modest, calm, conditions, laid).
  DERIVED. THE GIVEN ROWS OF THIS SEAT. 4 by the template 'for every input the law returns true; each argument reads behind the call as it read before'; 0 by the template 'total and deterministic' (their statements: YthiighaapaomcaaTotals.lean).
  GIVEN WITH THE SEED: the statements are not yours to turn. If you find one false, say at which input.
  Laid BY PROGRAM, IN A SANDBOX (cutbox-rows.mjs): the forced cells as the released guide's own fill.sh prints them over the translation 5fce4119e3384e08… (all of the seat's roots in one cut). By AI agents, Wed Nov 11 2026. No macro, syntax, notation, axiom, sorry.
-/
import Derived.Test.YthiighaapaomcaaChecked
import GoSem.Claim
import GoSem.ClaimJoined
import GoSem.ClaimMapViews
import Derived.JoinedTies
import Derived.KernelRfl
namespace Go.Proofs.Ythiighaapaomcaa
/- THE CELL 'sum', in the pinned program and in every row, IS THE sha256 OF THE DUMP (.gsa) THAT YthiighaapaomcaaProg.lean LOADS. Nothing in Lean hashes anything: it is a label: what it is worth is what the hold of that sum in a sandbox is worth. -/
noncomputable def Try.pinned : Pinned := { name := "ythiighaapaomcaa", sum := "5fce4119e3384e088d9d2f2fcef0556d7edcac9370a1a36971067cbd21ae040d", checked := Try.checked }
namespace Rows
def none {H : Type} : Left H := { results := [], args := [] }

/-- 'tabularylaw.ClanPlays': WHATEVER THE INPUT: true; the input reads as it did. -/
def clanPlaysSpec : ChangeSpec := { name := "clanPlays", fn := fun _ => fun
  | [d1, d2, d3] => { results := [.lit (.bool true)], args := [d1, d2, d3] }
  | _ => none }
def clanPlaysRow : OpenClaim := { program := "ythiighaapaomcaa", sum := "5fce4119e3384e088d9d2f2fcef0556d7edcac9370a1a36971067cbd21ae040d", func := "tabulary/tabularylaw.ClanPlays", spec := "clanPlays", unfollowed := true, recurses := true, apart := false }
def ClanPlaysSaid : Prop := clanPlaysRow.holds Try.pinned (OpenSpec.ofChange clanPlaysSpec)

/-- ITS FALSE NEIGHBOUR: 'it returns false'. Refute it at one input. -/
def clanPlaysWrong : ChangeSpec := { name := "clanPlays", fn := fun _ => fun
  | [d1, d2, d3] => { results := [.lit (.bool false)], args := [d1, d2, d3] }
  | _ => none }
def ClanPlaysWrongFalsely : Prop := clanPlaysRow.holds Try.pinned (OpenSpec.ofChange clanPlaysWrong)

/-- 'tabularylaw.ClanGood': WHATEVER THE INPUT: true; the input reads as it did. -/
def clanGoodSpec : ChangeSpec := { name := "clanGood", fn := fun _ => fun
  | [d] => { results := [.lit (.bool true)], args := [d] }
  | _ => none }
def clanGoodRow : OpenClaim := { program := "ythiighaapaomcaa", sum := "5fce4119e3384e088d9d2f2fcef0556d7edcac9370a1a36971067cbd21ae040d", func := "tabulary/tabularylaw.ClanGood", spec := "clanGood", unfollowed := true, recurses := true, apart := false }
def ClanGoodSaid : Prop := clanGoodRow.holds Try.pinned (OpenSpec.ofChange clanGoodSpec)

/-- ITS FALSE NEIGHBOUR: 'it returns false'. Refute it at one input. -/
def clanGoodWrong : ChangeSpec := { name := "clanGood", fn := fun _ => fun
  | [d] => { results := [.lit (.bool false)], args := [d] }
  | _ => none }
def ClanGoodWrongFalsely : Prop := clanGoodRow.holds Try.pinned (OpenSpec.ofChange clanGoodWrong)

/-- 'tabularylaw.ClanAgrees': WHATEVER THE INPUT: true; the input reads as it did. -/
def clanAgreesSpec : ChangeSpec := { name := "clanAgrees", fn := fun _ => fun
  | [d1, d2, d3] => { results := [.lit (.bool true)], args := [d1, d2, d3] }
  | _ => none }
def clanAgreesRow : OpenClaim := { program := "ythiighaapaomcaa", sum := "5fce4119e3384e088d9d2f2fcef0556d7edcac9370a1a36971067cbd21ae040d", func := "tabulary/tabularylaw.ClanAgrees", spec := "clanAgrees", unfollowed := true, recurses := true, apart := false }
def ClanAgreesSaid : Prop := clanAgreesRow.holds Try.pinned (OpenSpec.ofChange clanAgreesSpec)

/-- ITS FALSE NEIGHBOUR: 'it returns false'. Refute it at one input. -/
def clanAgreesWrong : ChangeSpec := { name := "clanAgrees", fn := fun _ => fun
  | [d1, d2, d3] => { results := [.lit (.bool false)], args := [d1, d2, d3] }
  | _ => none }
def ClanAgreesWrongFalsely : Prop := clanAgreesRow.holds Try.pinned (OpenSpec.ofChange clanAgreesWrong)

/-- 'tabularylaw.ClanMoves': WHATEVER THE INPUT: true; the input reads as it did. -/
def clanMovesSpec : ChangeSpec := { name := "clanMoves", fn := fun _ => fun
  | [d1, d2, d3, d4] => { results := [.lit (.bool true)], args := [d1, d2, d3, d4] }
  | _ => none }
def clanMovesRow : OpenClaim := { program := "ythiighaapaomcaa", sum := "5fce4119e3384e088d9d2f2fcef0556d7edcac9370a1a36971067cbd21ae040d", func := "tabulary/tabularylaw.ClanMoves", spec := "clanMoves", unfollowed := true, recurses := true, apart := false }
def ClanMovesSaid : Prop := clanMovesRow.holds Try.pinned (OpenSpec.ofChange clanMovesSpec)

/-- ITS FALSE NEIGHBOUR: 'it returns false'. Refute it at one input. -/
def clanMovesWrong : ChangeSpec := { name := "clanMoves", fn := fun _ => fun
  | [d1, d2, d3, d4] => { results := [.lit (.bool false)], args := [d1, d2, d3, d4] }
  | _ => none }
def ClanMovesWrongFalsely : Prop := clanMovesRow.holds Try.pinned (OpenSpec.ofChange clanMovesWrong)

/- THE SECOND FORM. 'bulk': how many values and letters a reading holds, each counted each time it is reached (what is shared counts as often as it is met; a slice's spare places count too). A statement '..UptoSaid' is the law's where the arguments, and the package variables that the reading takes, are together of bulk at most 1048576: NARROWER than '..Said'. Prove '..Said' where nothing that the law and all that it calls make is longer than what came in: it says more and counts as full. Else prove '..UptoSaid'. A law counts once. -/
mutual
def uptoBulk {H : Type} : DataW H → Nat
  | .lit (.string bytes) => bytes.length + 1
  | .lit _ => 1
  | .nil => 1
  | .ptr d => uptoBulk d + 1
  | .slice elems spare => uptoBulkAll elems + uptoBulkAll spare + 1
  | .agg parts => uptoBulkAll parts + 1
  | .iface _ d => uptoBulk d + 1
  | .map entries => uptoBulkEntries entries + 1
  | .held _ => 1
def uptoBulkAll {H : Type} : List (DataW H) → Nat
  | [] => 0
  | d :: r => uptoBulk d + uptoBulkAll r
def uptoBulkEntries {H : Type} : List (Lit × DataW H) → Nat
  | [] => 0
  | x :: r => uptoBulkEntry x + uptoBulkEntries r
def uptoBulkEntry {H : Type} : Lit × DataW H → Nat
  | (.string bytes, d) => bytes.length + uptoBulk d + 1
  | (_, d) => uptoBulk d + 1
 end
def uptoSmall : (H : Type) → List (DataW H) → Bool := fun _ ds => decide (uptoBulkAll ds ≤ 1048576)
def OpenSpec.upto (s : _root_.Go.ChangeSpec) : _root_.Go.OpenSpec := { _root_.Go.OpenSpec.ofChange s with cond := some uptoSmall }

/-- 'tabularylaw.ClanPlays', WHERE WHAT IT READS IS OF BULK AT MOST 1048576: true; the input reads as it did. -/
def clanPlaysUptoRow : OpenClaim := { program := "ythiighaapaomcaa", sum := "5fce4119e3384e088d9d2f2fcef0556d7edcac9370a1a36971067cbd21ae040d", func := "tabulary/tabularylaw.ClanPlays", spec := "clanPlays", unfollowed := true, recurses := true, apart := false, narrowed := true }
def ClanPlaysUptoSaid : Prop := clanPlaysUptoRow.holds Try.pinned (OpenSpec.upto clanPlaysSpec)

/-- 'tabularylaw.ClanGood', WHERE WHAT IT READS IS OF BULK AT MOST 1048576: true; the input reads as it did. -/
def clanGoodUptoRow : OpenClaim := { program := "ythiighaapaomcaa", sum := "5fce4119e3384e088d9d2f2fcef0556d7edcac9370a1a36971067cbd21ae040d", func := "tabulary/tabularylaw.ClanGood", spec := "clanGood", unfollowed := true, recurses := true, apart := false, narrowed := true }
def ClanGoodUptoSaid : Prop := clanGoodUptoRow.holds Try.pinned (OpenSpec.upto clanGoodSpec)

/-- 'tabularylaw.ClanAgrees', WHERE WHAT IT READS IS OF BULK AT MOST 1048576: true; the input reads as it did. -/
def clanAgreesUptoRow : OpenClaim := { program := "ythiighaapaomcaa", sum := "5fce4119e3384e088d9d2f2fcef0556d7edcac9370a1a36971067cbd21ae040d", func := "tabulary/tabularylaw.ClanAgrees", spec := "clanAgrees", unfollowed := true, recurses := true, apart := false, narrowed := true }
def ClanAgreesUptoSaid : Prop := clanAgreesUptoRow.holds Try.pinned (OpenSpec.upto clanAgreesSpec)

/-- 'tabularylaw.ClanMoves', WHERE WHAT IT READS IS OF BULK AT MOST 1048576: true; the input reads as it did. -/
def clanMovesUptoRow : OpenClaim := { program := "ythiighaapaomcaa", sum := "5fce4119e3384e088d9d2f2fcef0556d7edcac9370a1a36971067cbd21ae040d", func := "tabulary/tabularylaw.ClanMoves", spec := "clanMoves", unfollowed := true, recurses := true, apart := false, narrowed := true }
def ClanMovesUptoSaid : Prop := clanMovesUptoRow.holds Try.pinned (OpenSpec.upto clanMovesSpec)

end Rows
end Go.Proofs.Ythiighaapaomcaa
