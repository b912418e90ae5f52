/- The program's types as plain structures, and how they stand in its memory. Written by a program (dec2.py). -/
import Derived.Test.YtdjlninhfndjfaaFn
import Derived.Test.YtdjlninhfndjfaaEmR
namespace Go.Proofs.Ytdjlninhfndjfaa
open Go Go.Dm
set_option linter.unusedVariables false
set_option linter.unusedSimpArgs false
set_option maxRecDepth 100000
namespace G
def e_i64 (n : Int) : AV := .int .i64 n
def e_u8 (b : UInt8) : AV := .int .u8 (b.toNat : Int)
def e_u32 (n : Int) : AV := .int .u32 n
def e_u64 (n : Int) : AV := .int .u64 n
def e_bool (b : Bool) : AV := .bool b
def e_str (l : List UInt8) : AV := .str l
structure Part where
  From : List UInt8
  To : List UInt8
  ID : Int
  deriving Inhabited, DecidableEq
def e_Part (x : Part) : AV := .agg [.str x.From, .str x.To, .int .i64 x.ID]
abbrev c_Part (x : Part) : List AV := [.str x.From, .str x.To, .int .i64 x.ID]
def e_L_Part (l : List Part) : AV := .sl 3 (l.map e_Part)
structure Fault where
  Code : Int
  At : Int
  deriving Inhabited, DecidableEq
def e_Fault (x : Fault) : AV := .agg [.int .i64 x.Code, .int .i64 x.At]
abbrev c_Fault (x : Fault) : List AV := [.int .i64 x.Code, .int .i64 x.At]
structure PartStep where
  Join : Bool
  At : Int
  Row : List UInt8
  Left : Int
  Right : Int
  deriving Inhabited, DecidableEq
def e_PartStep (x : PartStep) : AV := .agg [.bool x.Join, .int .i64 x.At, .str x.Row, .int .i64 x.Left, .int .i64 x.Right]
abbrev c_PartStep (x : PartStep) : List AV := [.bool x.Join, .int .i64 x.At, .str x.Row, .int .i64 x.Left, .int .i64 x.Right]
def e_L_PartStep (l : List PartStep) : AV := .sl 5 (l.map e_PartStep)
def e_L_str (l : List (List UInt8)) : AV := .sl 1 (l.map e_str)
structure Order where
  Kind : Int
  ID : Int
  Host : Int
  Turn : Int
  Row : List UInt8
  deriving Inhabited, DecidableEq
def e_Order (x : Order) : AV := .agg [.int .i64 x.Kind, .int .i64 x.ID, .int .i64 x.Host, .int .i64 x.Turn, .str x.Row]
abbrev c_Order (x : Order) : List AV := [.int .i64 x.Kind, .int .i64 x.ID, .int .i64 x.Host, .int .i64 x.Turn, .str x.Row]
def e_L_Order (l : List Order) : AV := .sl 5 (l.map e_Order)
structure Host where
  ID : Int
  Epoch : Int
  Alive : Bool
  deriving Inhabited, DecidableEq
def e_Host (x : Host) : AV := .agg [.int .i64 x.ID, .int .i64 x.Epoch, .bool x.Alive]
abbrev c_Host (x : Host) : List AV := [.int .i64 x.ID, .int .i64 x.Epoch, .bool x.Alive]
def e_L_Host (l : List Host) : AV := .sl 3 (l.map e_Host)
structure Slot where
  Part : Part
  State : Int
  Host : Int
  Turn : Int
  deriving Inhabited, DecidableEq
def e_Slot (x : Slot) : AV := .agg [.str x.Part.From, .str x.Part.To, .int .i64 x.Part.ID, .int .i64 x.State, .int .i64 x.Host, .int .i64 x.Turn]
abbrev c_Slot (x : Slot) : List AV := [.str x.Part.From, .str x.Part.To, .int .i64 x.Part.ID, .int .i64 x.State, .int .i64 x.Host, .int .i64 x.Turn]
def e_L_Slot (l : List Slot) : AV := .sl 6 (l.map e_Slot)
structure Board where
  Hosts : List Host
  Slots : List Slot
  Turn : Int
  Next : Int
  deriving Inhabited, DecidableEq
def e_Board (x : Board) : AV := .agg [.sl 3 (x.Hosts.map e_Host), .sl 6 (x.Slots.map e_Slot), .int .i64 x.Turn, .int .i64 x.Next]
abbrev c_Board (x : Board) : List AV := [.sl 3 (x.Hosts.map e_Host), .sl 6 (x.Slots.map e_Slot), .int .i64 x.Turn, .int .i64 x.Next]
def e_L_Board (l : List Board) : AV := .sl 4 (l.map e_Board)
def e_L_Fault (l : List Fault) : AV := .sl 2 (l.map e_Fault)
structure Known where
  Part : Part
  Host : Int
  Turn : Int
  deriving Inhabited, DecidableEq
def e_Known (x : Known) : AV := .agg [.str x.Part.From, .str x.Part.To, .int .i64 x.Part.ID, .int .i64 x.Host, .int .i64 x.Turn]
abbrev c_Known (x : Known) : List AV := [.str x.Part.From, .str x.Part.To, .int .i64 x.Part.ID, .int .i64 x.Host, .int .i64 x.Turn]
def e_L_Known (l : List Known) : AV := .sl 5 (l.map e_Known)
def e_L_i64 (l : List Int) : AV := .sl 1 (l.map e_i64)
def e_L_L_Part (l : List (List Part)) : AV := .sl 1 (l.map e_L_Part)
end G
end Go.Proofs.Ytdjlninhfndjfaa
