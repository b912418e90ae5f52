/- The program's types as plain structures, and how they stand in its memory. Written by a program (dec2.py). -/
import Derived.Test.YteckapomkemglaaFn
namespace Go.Proofs.Yteckapomkemglaa
open Go Go.Dm
set_option linter.unusedVariables false
set_option linter.unusedSimpArgs false
set_option maxRecDepth 100000
namespace G
def e_i64 (n : Int) : AV := .int .i64 n
def e_u8 (b : UInt8) : AV := .int .u8 (b.toNat : Int)
def e_u32 (n : Int) : AV := .int .u32 n
def e_u64 (n : Int) : AV := .int .u64 n
def e_bool (b : Bool) : AV := .bool b
def e_str (l : List UInt8) : AV := .str l
def e_L_str (l : List (List UInt8)) : AV := .sl 1 (l.map e_str)
structure Copy where
  Epoch : Int
  Closed : Bool
  Recs : List (List UInt8)
  Ended : Int
  deriving Inhabited, DecidableEq
def e_Copy (x : Copy) : AV := .agg [.int .i64 x.Epoch, .bool x.Closed, .sl 1 (x.Recs.map e_str), .int .i64 x.Ended]
abbrev c_Copy (x : Copy) : List AV := [.int .i64 x.Epoch, .bool x.Closed, .sl 1 (x.Recs.map e_str), .int .i64 x.Ended]
structure Fault where
  Code : Int
  At : Int
  deriving Inhabited, DecidableEq
def e_Fault (x : Fault) : AV := .agg [.int .i64 x.Code, .int .i64 x.At]
abbrev c_Fault (x : Fault) : List AV := [.int .i64 x.Code, .int .i64 x.At]
def e_L_Copy (l : List Copy) : AV := .sl 4 (l.map e_Copy)
structure Deed where
  Kind : Int
  Who : Int
  N : Int
  deriving Inhabited, DecidableEq
def e_Deed (x : Deed) : AV := .agg [.int .i64 x.Kind, .int .i64 x.Who, .int .i64 x.N]
abbrev c_Deed (x : Deed) : List AV := [.int .i64 x.Kind, .int .i64 x.Who, .int .i64 x.N]
def e_L_Deed (l : List Deed) : AV := .sl 3 (l.map e_Deed)
def e_L_i64 (l : List Int) : AV := .sl 1 (l.map e_i64)
def e_L_L_i64 (l : List (List Int)) : AV := .sl 1 (l.map e_L_i64)
structure Heal where
  Epoch : Int
  Heard : List Int
  Said : List Copy
  Has : Bool
  Recs : List (List UInt8)
  Ends : List Int
  deriving Inhabited, DecidableEq
def e_Heal (x : Heal) : AV := .agg [.int .i64 x.Epoch, .sl 1 (x.Heard.map e_i64), .sl 4 (x.Said.map e_Copy), .bool x.Has, .sl 1 (x.Recs.map e_str), .sl 1 (x.Ends.map e_i64)]
abbrev c_Heal (x : Heal) : List AV := [.int .i64 x.Epoch, .sl 1 (x.Heard.map e_i64), .sl 4 (x.Said.map e_Copy), .bool x.Has, .sl 1 (x.Recs.map e_str), .sl 1 (x.Ends.map e_i64)]
def e_L_Heal (l : List Heal) : AV := .sl 6 (l.map e_Heal)
structure Vault where
  Copies : List Copy
  Wrote : List (List UInt8)
  Took : List (List Int)
  Heals : List Heal
  deriving Inhabited, DecidableEq
def e_Vault (x : Vault) : AV := .agg [.sl 4 (x.Copies.map e_Copy), .sl 1 (x.Wrote.map e_str), .sl 1 (x.Took.map e_L_i64), .sl 6 (x.Heals.map e_Heal)]
abbrev c_Vault (x : Vault) : List AV := [.sl 4 (x.Copies.map e_Copy), .sl 1 (x.Wrote.map e_str), .sl 1 (x.Took.map e_L_i64), .sl 6 (x.Heals.map e_Heal)]
structure vault where
  Vault : Vault
  recs : List (List UInt8)
  deriving Inhabited, DecidableEq
def e_vault (x : vault) : AV := .agg [.sl 4 (x.Vault.Copies.map e_Copy), .sl 1 (x.Vault.Wrote.map e_str), .sl 1 (x.Vault.Took.map e_L_i64), .sl 6 (x.Vault.Heals.map e_Heal), .sl 1 (x.recs.map e_str)]
abbrev c_vault (x : vault) : List AV := [.sl 4 (x.Vault.Copies.map e_Copy), .sl 1 (x.Vault.Wrote.map e_str), .sl 1 (x.Vault.Took.map e_L_i64), .sl 6 (x.Vault.Heals.map e_Heal), .sl 1 (x.recs.map e_str)]
def o_L_i64 (x : List Int) : AV := .own 3 1 (x.map e_i64).length (x.map e_i64)
def o_Heal (x : Heal) : AV := .agg [.int .i64 x.Epoch, .own 3 1 (x.Heard.map e_i64).length (x.Heard.map e_i64), .own 24 4 (x.Said.map e_Copy).length (x.Said.map e_Copy), .bool x.Has, .sl 1 (x.Recs.map e_str), .own 3 1 (x.Ends.map e_i64).length (x.Ends.map e_i64)]
end G
end Go.Proofs.Yteckapomkemglaa
