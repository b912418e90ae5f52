/- The program's types as plain structures, and how they stand in its memory. Written by a program (dec2.py). -/
import Derived.Test.YtkbgkkbinnclmaaFn
namespace Go.Proofs.Ytkbgkkbinnclmaa
open Go Go.Dm
set_option linter.unusedVariables false
set_option linter.unusedSimpArgs false
set_option maxRecDepth 100000
namespace G
def e_i64 (n : Int) : AV := .int .i64 n
def e_u8 (b : UInt8) : AV := .int .u8 (b.toNat : Int)
def e_u32 (n : Int) : AV := .int .u32 n
def e_u64 (n : Int) : AV := .int .u64 n
def e_bool (b : Bool) : AV := .bool b
def e_str (l : List UInt8) : AV := .str l
structure Cell where
  Row : List UInt8
  Col : List UInt8
  Time : Int
  Gone : Bool
  Value : List UInt8
  deriving Inhabited, DecidableEq
def e_Cell (x : Cell) : AV := .agg [.str x.Row, .str x.Col, .int .i64 x.Time, .bool x.Gone, .str x.Value]
abbrev c_Cell (x : Cell) : List AV := [.str x.Row, .str x.Col, .int .i64 x.Time, .bool x.Gone, .str x.Value]
def e_L_Cell (l : List Cell) : AV := .sl 5 (l.map e_Cell)
structure Ask where
  From : List UInt8
  To : List UInt8
  Time : Int
  Many : Int
  deriving Inhabited, DecidableEq
def e_Ask (x : Ask) : AV := .agg [.str x.From, .str x.To, .int .i64 x.Time, .int .i64 x.Many]
abbrev c_Ask (x : Ask) : List AV := [.str x.From, .str x.To, .int .i64 x.Time, .int .i64 x.Many]
structure Fault where
  Code : Int
  At : Int
  deriving Inhabited, DecidableEq
def e_Fault (x : Fault) : AV := .agg [.int .i64 x.Code, .int .i64 x.At]
abbrev c_Fault (x : Fault) : List AV := [.int .i64 x.Code, .int .i64 x.At]
def e_L_L_Cell (l : List (List Cell)) : AV := .sl 1 (l.map e_L_Cell)
def e_L_u8 (l : List UInt8) : AV := .sl 1 (l.map e_u8)
structure Reader where
  b : List UInt8
  bad : Bool
  deriving Inhabited, DecidableEq
def e_Reader (x : Reader) : AV := .agg [.sl 1 (x.b.map e_u8), .bool x.bad]
abbrev c_Reader (x : Reader) : List AV := [.sl 1 (x.b.map e_u8), .bool x.bad]
def e_L_str (l : List (List UInt8)) : AV := .sl 1 (l.map e_str)
def e_L_i64 (l : List Int) : AV := .sl 1 (l.map e_i64)
structure source where
  cells : List Cell
  rank : Int
  deriving Inhabited, DecidableEq
def e_source (x : source) : AV := .agg [.sl 5 (x.cells.map e_Cell), .int .i64 x.rank]
abbrev c_source (x : source) : List AV := [.sl 5 (x.cells.map e_Cell), .int .i64 x.rank]
structure Arr2_3 where
  p0 : Int
  p1 : Int
  deriving Inhabited, DecidableEq
def e_Arr2_3 (x : Arr2_3) : AV := .agg [.int .i64 x.p0, .int .i64 x.p1]
abbrev c_Arr2_3 (x : Arr2_3) : List AV := [.int .i64 x.p0, .int .i64 x.p1]
end G
end Go.Proofs.Ytkbgkkbinnclmaa
