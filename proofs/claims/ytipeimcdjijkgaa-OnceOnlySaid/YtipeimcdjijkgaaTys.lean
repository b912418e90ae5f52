/- The program's types as plain structures, and how they stand in its memory. Written by a program (dec2.py). -/
import Derived.Test.YtipeimcdjijkgaaFn
import Derived.Test.YtipeimcdjijkgaaEm42
namespace Go.Proofs.Ytipeimcdjijkgaa
open Go Go.Dm
set_option linter.unusedVariables false
set_option linter.unusedSimpArgs false
set_option maxRecDepth 100000
namespace G
def e_i64 (n : Int) : AV := .int .i64 n
def e_u8 (b : UInt8) : AV := .int .u8 (b.toNat : Int)
def e_u32 (n : Int) : AV := .int .u32 n
def e_u64 (n : Int) : AV := .int .u64 n
def e_bool (b : Bool) : AV := .bool b
def e_str (l : List UInt8) : AV := .str l
structure Call where
  Client : Int
  Seq : Int
  Kind : Int
  Row : List UInt8
  Value : List UInt8
  Old : List UInt8
  deriving Inhabited, DecidableEq
def e_Call (x : Call) : AV := .agg [.int .i64 x.Client, .int .i64 x.Seq, .int .i64 x.Kind, .str x.Row, .str x.Value, .str x.Old]
abbrev c_Call (x : Call) : List AV := [.int .i64 x.Client, .int .i64 x.Seq, .int .i64 x.Kind, .str x.Row, .str x.Value, .str x.Old]
def e_L_Call (l : List Call) : AV := .sl 6 (l.map e_Call)
structure Pair where
  Row : List UInt8
  Value : List UInt8
  deriving Inhabited, DecidableEq
def e_Pair (x : Pair) : AV := .agg [.str x.Row, .str x.Value]
abbrev c_Pair (x : Pair) : List AV := [.str x.Row, .str x.Value]
def e_L_Pair (l : List Pair) : AV := .sl 2 (l.map e_Pair)
structure Memo where
  Client : Int
  Seq : Int
  Said : List UInt8
  deriving Inhabited, DecidableEq
def e_Memo (x : Memo) : AV := .agg [.int .i64 x.Client, .int .i64 x.Seq, .str x.Said]
abbrev c_Memo (x : Memo) : List AV := [.int .i64 x.Client, .int .i64 x.Seq, .str x.Said]
def e_L_Memo (l : List Memo) : AV := .sl 3 (l.map e_Memo)
structure Ledger where
  Rows : List Pair
  Memos : List Memo
  deriving Inhabited, DecidableEq
def e_Ledger (x : Ledger) : AV := .agg [.sl 2 (x.Rows.map e_Pair), .sl 3 (x.Memos.map e_Memo)]
abbrev c_Ledger (x : Ledger) : List AV := [.sl 2 (x.Rows.map e_Pair), .sl 3 (x.Memos.map e_Memo)]
structure Fault where
  Code : Int
  At : Int
  deriving Inhabited, DecidableEq
def e_Fault (x : Fault) : AV := .agg [.int .i64 x.Code, .int .i64 x.At]
abbrev c_Fault (x : Fault) : List AV := [.int .i64 x.Code, .int .i64 x.At]
structure Span where
  Kind : Int
  Value : Int
  From : Int
  To : Int
  deriving Inhabited, DecidableEq
def e_Span (x : Span) : AV := .agg [.int .i64 x.Kind, .int .i64 x.Value, .int .i64 x.From, .int .i64 x.To]
abbrev c_Span (x : Span) : List AV := [.int .i64 x.Kind, .int .i64 x.Value, .int .i64 x.From, .int .i64 x.To]
def e_L_Span (l : List Span) : AV := .sl 4 (l.map e_Span)
def e_L_i64 (l : List Int) : AV := .sl 1 (l.map e_i64)
structure bunch where
  value : Int
  write : Int
  reads : List Int
  first : Int
  last : Int
  deriving Inhabited, DecidableEq
def e_bunch (x : bunch) : AV := .agg [.int .i64 x.value, .int .i64 x.write, .sl 1 (x.reads.map e_i64), .int .i64 x.first, .int .i64 x.last]
abbrev c_bunch (x : bunch) : List AV := [.int .i64 x.value, .int .i64 x.write, .sl 1 (x.reads.map e_i64), .int .i64 x.first, .int .i64 x.last]
end G
end Go.Proofs.Ytipeimcdjijkgaa
