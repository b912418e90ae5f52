/- The program's types as plain structures, and how they stand in its memory. Written by a program (dec2.py). -/
import Derived.Test.YtiakadlmebbafaaFn
namespace Go.Proofs.Ytiakadlmebbafaa
open Go Go.Dm
set_option linter.unusedVariables false
set_option linter.unusedSimpArgs false
set_option maxRecDepth 100000
namespace G
def e_i64 (n : Int) : AV := .int .i64 n
def e_u8 (b : UInt8) : AV := .int .u8 (b.toNat : Int)
def e_u32 (n : Int) : AV := .int .u32 n
def e_u64 (n : Int) : AV := .int .u64 n
def e_bool (b : Bool) : AV := .bool b
def e_str (l : List UInt8) : AV := .str l
def e_L_i64 (l : List Int) : AV := .sl 1 (l.map e_i64)
def e_L_u8 (l : List UInt8) : AV := .sl 1 (l.map e_u8)
structure Fault where
  Code : Int
  At : Int
  deriving Inhabited, DecidableEq
def e_Fault (x : Fault) : AV := .agg [.int .i64 x.Code, .int .i64 x.At]
def e_L_L_u8 (l : List (List UInt8)) : AV := .sl 1 (l.map e_L_u8)
structure Disk where
  Bytes : List UInt8
  Kept : Int
  deriving Inhabited, DecidableEq
def e_Disk (x : Disk) : AV := .agg [.sl 1 (x.Bytes.map e_u8), .int .i64 x.Kept]
def e_L_str (l : List (List UInt8)) : AV := .sl 1 (l.map e_str)
structure Reader where
  b : List UInt8
  bad : Bool
  deriving Inhabited, DecidableEq
def e_Reader (x : Reader) : AV := .agg [.sl 1 (x.b.map e_u8), .bool x.bad]
end G
end Go.Proofs.Ytiakadlmebbafaa
