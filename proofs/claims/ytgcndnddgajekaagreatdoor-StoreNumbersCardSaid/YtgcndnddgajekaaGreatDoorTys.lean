/- The program's types as plain structures, and how they stand in its memory. Written by a program (dec2.py). -/
import Derived.Test.YtgcndnddgajekaaGreatDoorFn
import Derived.Test.YtgcndnddgajekaaGreatDoorEmP
import Derived.Test.YtgcndnddgajekaaGreatDoorLeafW
import Derived.Test.YtgcndnddgajekaaGreatDoorCmP
namespace Go.Proofs.YtgcndnddgajekaaGreatDoor
open Go Go.Dm
set_option linter.unusedVariables false
set_option linter.unusedSimpArgs false
set_option maxRecDepth 100000
namespace G
def zit (n:Int):AV:=.int .i64 n
def za8 (b:UInt8):AV:=.int .u8 (b.toNat:Int)
def e_u32 (n:Int):AV:=.int .u32 n
def e_u64 (n:Int):AV:=.int .u64 n
def zj3 (b:Bool):AV:=.bool b
def zet (l:B8):AV:=.str l
def zal (l:B8):AV:=.sl 1 (l.map za8)
structure Disk where
  Bytes:B8
  Kept:Int
  deriving Inhabited,DecidableEq
def e_Disk (x:Disk):AV:=.agg [.sl 1 (x.Bytes.map za8),.int .i64 x.Kept]
abbrev c_Disk (x:Disk):List AV:=[.sl 1 (x.Bytes.map za8),.int .i64 x.Kept]
def e_L_L_u8 (l:B9):AV:=.sl 1 (l.map zal)
structure Tablet where
  Log:Disk
  Files:B9
  Done:Int
  Since:Int
  deriving Inhabited,DecidableEq
def e_Tablet (x:Tablet):AV:=.agg [.sl 1 (x.Log.Bytes.map za8),.int .i64 x.Log.Kept,.sl 1 (x.Files.map zal),.int .i64 x.Done,.int .i64 x.Since]
abbrev zdo (x:Tablet):List AV:=[.sl 1 (x.Log.Bytes.map za8),.int .i64 x.Log.Kept,.sl 1 (x.Files.map zal),.int .i64 x.Done,.int .i64 x.Since]
structure Fault where
  Code:Int
  At:Int
  deriving Inhabited,DecidableEq
def e_Fault (x:Fault):AV:=.agg [.int .i64 x.Code,.int .i64 x.At]
abbrev zag (x:Fault):List AV:=[.int .i64 x.Code,.int .i64 x.At]
structure Host where
  ID:Int
  Epoch:Int
  Alive:Bool
  deriving Inhabited,DecidableEq
def e_Host (x:Host):AV:=.agg [.int .i64 x.ID,.int .i64 x.Epoch,.bool x.Alive]
abbrev c_Host (x:Host):List AV:=[.int .i64 x.ID,.int .i64 x.Epoch,.bool x.Alive]
def e_L_Host (l:List Host):AV:=.sl 3 (l.map e_Host)
structure Part where
  From:B8
  To:B8
  ID:Int
  deriving Inhabited,DecidableEq
def e_Part (x:Part):AV:=.agg [.str x.From,.str x.To,.int .i64 x.ID]
abbrev c_Part (x:Part):List AV:=[.str x.From,.str x.To,.int .i64 x.ID]
structure Slot where
  Part:Part
  State:Int
  Host:Int
  Turn:Int
  deriving Inhabited,DecidableEq
def e_Slot (x:Slot):AV:=.agg [.str x.Part.From,.str x.Part.To,.int .i64 x.Part.ID,.int .i64 x.State,.int .i64 x.Host,.int .i64 x.Turn]
abbrev c_Slot (x:Slot):List AV:=[.str x.Part.From,.str x.Part.To,.int .i64 x.Part.ID,.int .i64 x.State,.int .i64 x.Host,.int .i64 x.Turn]
def e_L_Slot (l:List Slot):AV:=.sl 6 (l.map e_Slot)
structure Board where
  Hosts:List Host
  Slots:List Slot
  Turn:Int
  Next:Int
  deriving Inhabited,DecidableEq
def e_Board (x:Board):AV:=.agg [.sl 3 (x.Hosts.map e_Host),.sl 6 (x.Slots.map e_Slot),.int .i64 x.Turn,.int .i64 x.Next]
abbrev c_Board (x:Board):List AV:=[.sl 3 (x.Hosts.map e_Host),.sl 6 (x.Slots.map e_Slot),.int .i64 x.Turn,.int .i64 x.Next]
def e_L_bool (l:List Bool):AV:=.sl 1 (l.map zj3)
structure Serve where
  ID:Int
  Turn:Int
  Part:Part
  Tablet:Tablet
  deriving Inhabited,DecidableEq
def e_Serve (x:Serve):AV:=.agg [.int .i64 x.ID,.int .i64 x.Turn,.str x.Part.From,.str x.Part.To,.int .i64 x.Part.ID,.sl 1 (x.Tablet.Log.Bytes.map za8),.int .i64 x.Tablet.Log.Kept,.sl 1 (x.Tablet.Files.map zal),.int .i64 x.Tablet.Done,.int .i64 x.Tablet.Since]
abbrev c_Serve (x:Serve):List AV:=[.int .i64 x.ID,.int .i64 x.Turn,.str x.Part.From,.str x.Part.To,.int .i64 x.Part.ID,.sl 1 (x.Tablet.Log.Bytes.map za8),.int .i64 x.Tablet.Log.Kept,.sl 1 (x.Tablet.Files.map zal),.int .i64 x.Tablet.Done,.int .i64 x.Tablet.Since]
def e_L_Serve (l:List Serve):AV:=.sl 10 (l.map e_Serve)
def e_L_L_Serve (l:List (List Serve)):AV:=.sl 1 (l.map e_L_Serve)
def e_L_Tablet (l:List Tablet):AV:=.sl 5 (l.map e_Tablet)
def e_L_i64 (l:List Int):AV:=.sl 1 (l.map zit)
structure Post where
  Call:Int
  ID:Int
  Turn:Int
  deriving Inhabited,DecidableEq
def e_Post (x:Post):AV:=.agg [.int .i64 x.Call,.int .i64 x.ID,.int .i64 x.Turn]
abbrev c_Post (x:Post):List AV:=[.int .i64 x.Call,.int .i64 x.ID,.int .i64 x.Turn]
def e_L_Post (l:List Post):AV:=.sl 3 (l.map e_Post)
structure Span where
  Kind:Int
  Value:Int
  From:Int
  To:Int
  deriving Inhabited,DecidableEq
def e_Span (x:Span):AV:=.agg [.int .i64 x.Kind,.int .i64 x.Value,.int .i64 x.From,.int .i64 x.To]
abbrev c_Span (x:Span):List AV:=[.int .i64 x.Kind,.int .i64 x.Value,.int .i64 x.From,.int .i64 x.To]
structure Told where
  Row:B8
  Span:Span
  deriving Inhabited,DecidableEq
def e_Told (x:Told):AV:=.agg [.str x.Row,.int .i64 x.Span.Kind,.int .i64 x.Span.Value,.int .i64 x.Span.From,.int .i64 x.Span.To]
abbrev c_Told (x:Told):List AV:=[.str x.Row,.int .i64 x.Span.Kind,.int .i64 x.Span.Value,.int .i64 x.Span.From,.int .i64 x.Span.To]
def e_L_Told (l:List Told):AV:=.sl 5 (l.map e_Told)
structure Store where
  Board:Board
  Trust:List Bool
  Serves:List (List Serve)
  Tablets:List Tablet
  Fences:List Int
  Posts:List Post
  Told:List Told
  deriving Inhabited,DecidableEq
def e_Store (x:Store):AV:=.agg [.sl 3 (x.Board.Hosts.map e_Host),.sl 6 (x.Board.Slots.map e_Slot),.int .i64 x.Board.Turn,.int .i64 x.Board.Next,.sl 1 (x.Trust.map zj3),.sl 1 (x.Serves.map e_L_Serve),.sl 5 (x.Tablets.map e_Tablet),.sl 1 (x.Fences.map zit),.sl 3 (x.Posts.map e_Post),.sl 5 (x.Told.map e_Told)]
abbrev c_Store (x:Store):List AV:=[.sl 3 (x.Board.Hosts.map e_Host),.sl 6 (x.Board.Slots.map e_Slot),.int .i64 x.Board.Turn,.int .i64 x.Board.Next,.sl 1 (x.Trust.map zj3),.sl 1 (x.Serves.map e_L_Serve),.sl 5 (x.Tablets.map e_Tablet),.sl 1 (x.Fences.map zit),.sl 3 (x.Posts.map e_Post),.sl 5 (x.Told.map e_Told)]
structure Order where
  Kind:Int
  ID:Int
  Host:Int
  Turn:Int
  Row:B8
  deriving Inhabited,DecidableEq
def e_Order (x:Order):AV:=.agg [.int .i64 x.Kind,.int .i64 x.ID,.int .i64 x.Host,.int .i64 x.Turn,.str x.Row]
abbrev c_Order (x:Order):List AV:=[.int .i64 x.Kind,.int .i64 x.ID,.int .i64 x.Host,.int .i64 x.Turn,.str x.Row]
structure Act where
  Kind:Int
  Order:Order
  Host:Int
  N:Int
  Row:B8
  deriving Inhabited,DecidableEq
def e_Act (x:Act):AV:=.agg [.int .i64 x.Kind,.int .i64 x.Order.Kind,.int .i64 x.Order.ID,.int .i64 x.Order.Host,.int .i64 x.Order.Turn,.str x.Order.Row,.int .i64 x.Host,.int .i64 x.N,.str x.Row]
abbrev c_Act (x:Act):List AV:=[.int .i64 x.Kind,.int .i64 x.Order.Kind,.int .i64 x.Order.ID,.int .i64 x.Order.Host,.int .i64 x.Order.Turn,.str x.Order.Row,.int .i64 x.Host,.int .i64 x.N,.str x.Row]
def e_L_Act (l:List Act):AV:=.sl 9 (l.map e_Act)
structure Cell where
  Row:B8
  Col:B8
  Time:Int
  Gone:Bool
  Value:B8
  deriving Inhabited,DecidableEq
abbrev Cs:=List Cell
def zab (x:Cell):AV:=.agg [.str x.Row,.str x.Col,.int .i64 x.Time,.bool x.Gone,.str x.Value]
abbrev zfa (x:Cell):List AV:=[.str x.Row,.str x.Col,.int .i64 x.Time,.bool x.Gone,.str x.Value]
def za1 (l:List Cell):AV:=.sl 5 (l.map zab)
structure Note where
  Seq:Int
  Cells:List Cell
  deriving Inhabited,DecidableEq
def zar (x:Note):AV:=.agg [.int .i64 x.Seq,.sl 5 (x.Cells.map zab)]
abbrev c_Note (x:Note):List AV:=[.int .i64 x.Seq,.sl 5 (x.Cells.map zab)]
def e_L_Note (l:List Note):AV:=.sl 2 (l.map zar)
def e_L_L_Cell (l:List (List Cell)):AV:=.sl 1 (l.map za1)
structure Inside where
  Notes:List Note
  Last:Int
  Mem:List Cell
  Files:List (List Cell)
  All:List Cell
  deriving Inhabited,DecidableEq
def e_Inside (x:Inside):AV:=.agg [.sl 2 (x.Notes.map zar),.int .i64 x.Last,.sl 5 (x.Mem.map zab),.sl 1 (x.Files.map za1),.sl 5 (x.All.map zab)]
abbrev c_Inside (x:Inside):List AV:=[.sl 2 (x.Notes.map zar),.int .i64 x.Last,.sl 5 (x.Mem.map zab),.sl 1 (x.Files.map za1),.sl 5 (x.All.map zab)]
structure world where
  Store:Store
  now:Int
  puts:Int
  deriving Inhabited,DecidableEq
def e_world (x:world):AV:=.agg [.sl 3 (x.Store.Board.Hosts.map e_Host),.sl 6 (x.Store.Board.Slots.map e_Slot),.int .i64 x.Store.Board.Turn,.int .i64 x.Store.Board.Next,.sl 1 (x.Store.Trust.map zj3),.sl 1 (x.Store.Serves.map e_L_Serve),.sl 5 (x.Store.Tablets.map e_Tablet),.sl 1 (x.Store.Fences.map zit),.sl 3 (x.Store.Posts.map e_Post),.sl 5 (x.Store.Told.map e_Told),.int .i64 x.now,.int .i64 x.puts]
abbrev c_world (x:world):List AV:=[.sl 3 (x.Store.Board.Hosts.map e_Host),.sl 6 (x.Store.Board.Slots.map e_Slot),.int .i64 x.Store.Board.Turn,.int .i64 x.Store.Board.Next,.sl 1 (x.Store.Trust.map zj3),.sl 1 (x.Store.Serves.map e_L_Serve),.sl 5 (x.Store.Tablets.map e_Tablet),.sl 1 (x.Store.Fences.map zit),.sl 3 (x.Store.Posts.map e_Post),.sl 5 (x.Store.Told.map e_Told),.int .i64 x.now,.int .i64 x.puts]
structure tab where
  Tablet:Tablet
  notes:List Note
  last:Int
  mem:List Cell
  files:List (List Cell)
  deriving Inhabited,DecidableEq
def e_tab (x:tab):AV:=.agg [.sl 1 (x.Tablet.Log.Bytes.map za8),.int .i64 x.Tablet.Log.Kept,.sl 1 (x.Tablet.Files.map zal),.int .i64 x.Tablet.Done,.int .i64 x.Tablet.Since,.sl 2 (x.notes.map zar),.int .i64 x.last,.sl 5 (x.mem.map zab),.sl 1 (x.files.map za1)]
abbrev c_tab (x:tab):List AV:=[.sl 1 (x.Tablet.Log.Bytes.map za8),.int .i64 x.Tablet.Log.Kept,.sl 1 (x.Tablet.Files.map zal),.int .i64 x.Tablet.Done,.int .i64 x.Tablet.Since,.sl 2 (x.notes.map zar),.int .i64 x.last,.sl 5 (x.mem.map zab),.sl 1 (x.files.map za1)]
def e_L_str (l:B9):AV:=.sl 1 (l.map zet)
structure opened where
  bodies:B9
  rows:B9
  filter:B8
  deriving Inhabited,DecidableEq
def e_opened (x:opened):AV:=.agg [.sl 1 (x.bodies.map zal),.sl 1 (x.rows.map zet),.sl 1 (x.filter.map za8)]
abbrev zl3 (x:opened):List AV:=[.sl 1 (x.bodies.map zal),.sl 1 (x.rows.map zet),.sl 1 (x.filter.map za8)]
structure Arr3_3 where
  p0:Int
  p1:Int
  p2:Int
  deriving Inhabited,DecidableEq
def e_Arr3_3 (x:Arr3_3):AV:=.agg [.int .i64 x.p0,.int .i64 x.p1,.int .i64 x.p2]
abbrev c_Arr3_3 (x:Arr3_3):List AV:=[.int .i64 x.p0,.int .i64 x.p1,.int .i64 x.p2]
structure Reader where
  b:B8
  bad:Bool
  deriving Inhabited,DecidableEq
def e_Reader (x:Reader):AV:=.agg [.sl 1 (x.b.map za8),.bool x.bad]
abbrev zdy (x:Reader):List AV:=[.sl 1 (x.b.map za8),.bool x.bad]
def e_L_Part (l:List Part):AV:=.sl 3 (l.map e_Part)
def e_L_L_Part (l:List (List Part)):AV:=.sl 1 (l.map e_L_Part)
structure source where
  cells:List Cell
  rank:Int
  deriving Inhabited,DecidableEq
def e_source (x:source):AV:=.agg [.sl 5 (x.cells.map zab),.int .i64 x.rank]
abbrev c_source (x:source):List AV:=[.sl 5 (x.cells.map zab),.int .i64 x.rank]
structure Arr2_3 where
  p0:Int
  p1:Int
  deriving Inhabited,DecidableEq
def e_Arr2_3 (x:Arr2_3):AV:=.agg [.int .i64 x.p0,.int .i64 x.p1]
abbrev c_Arr2_3 (x:Arr2_3):List AV:=[.int .i64 x.p0,.int .i64 x.p1]
def o_L_u8 (x:B8):AV:=.own 5 1 (x.map za8).length (x.map za8)
def o_L_i64 (x:List Int):AV:=.own 3 1 (x.map zit).length (x.map zit)
end G
end Go.Proofs.YtgcndnddgajekaaGreatDoor
