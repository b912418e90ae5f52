/- The program's types as plain structures, and how they stand in its memory. Written by a program (dec2.py). -/
import Derived.Test.YticbfakiihfgmaaGreatFn
import Derived.Test.YticbfakiihfgmaaGreatEmP
namespace Go.Proofs.YticbfakiihfgmaaGreat
open Go Go.Dm
set_option linter.unusedVariables false
set_option linter.unusedSimpArgs false
set_option maxRecDepth 100000
namespace G
def zpt (n:Int):AV:=.int .i64 n
def zas (b:UInt8):AV:=.int .u8 (b.toNat:Int)
def e_u32 (n:Int):AV:=.int .u32 n
def e_u64 (n:Int):AV:=.int .u64 n
def e_bool (b:Bool):AV:=.bool b
def ze5 (l:B8):AV:=.str l
def zaf (l:B8):AV:=.sl 1 (l.map zas)
structure Disk where
  Bytes:B8
  Kept:Int
  deriving Inhabited,DecidableEq
def e_Disk (x:Disk):AV:=.agg [.sl 1 (x.Bytes.map zas),.int .i64 x.Kept]
abbrev c_Disk (x:Disk):List AV:=[.sl 1 (x.Bytes.map zas),.int .i64 x.Kept]
def e_L_L_u8 (l:B9):AV:=.sl 1 (l.map zaf)
structure Tablet where
  Log:Disk
  Files:B9
  Done:Int
  Since:Int
  deriving Inhabited,DecidableEq
def e_Tablet (x:Tablet):AV:=.agg [.sl 1 (x.Log.Bytes.map zas),.int .i64 x.Log.Kept,.sl 1 (x.Files.map zaf),.int .i64 x.Done,.int .i64 x.Since]
abbrev zag (x:Tablet):List AV:=[.sl 1 (x.Log.Bytes.map zas),.int .i64 x.Log.Kept,.sl 1 (x.Files.map zaf),.int .i64 x.Done,.int .i64 x.Since]
structure Cell where
  Row:B8
  Col:B8
  Time:Int
  Gone:Bool
  Value:B8
  deriving Inhabited,DecidableEq
abbrev Cs:=List Cell
def zab (x:Cell):AV:=.agg [.str x.Row,.str x.Col,.int .i64 x.Time,.bool x.Gone,.str x.Value]
abbrev zg9 (x:Cell):List AV:=[.str x.Row,.str x.Col,.int .i64 x.Time,.bool x.Gone,.str x.Value]
def zal (l:List Cell):AV:=.sl 5 (l.map zab)
structure Fault where
  Code:Int
  At:Int
  deriving Inhabited,DecidableEq
def e_Fault (x:Fault):AV:=.agg [.int .i64 x.Code,.int .i64 x.At]
abbrev zae (x:Fault):List AV:=[.int .i64 x.Code,.int .i64 x.At]
structure Note where
  Seq:Int
  Cells:List Cell
  deriving Inhabited,DecidableEq
def zar (x:Note):AV:=.agg [.int .i64 x.Seq,.sl 5 (x.Cells.map zab)]
abbrev c_Note (x:Note):List AV:=[.int .i64 x.Seq,.sl 5 (x.Cells.map zab)]
def e_L_Note (l:List Note):AV:=.sl 2 (l.map zar)
def e_L_L_Cell (l:List (List Cell)):AV:=.sl 1 (l.map zal)
structure Inside where
  Notes:List Note
  Last:Int
  Mem:List Cell
  Files:List (List Cell)
  All:List Cell
  deriving Inhabited,DecidableEq
def e_Inside (x:Inside):AV:=.agg [.sl 2 (x.Notes.map zar),.int .i64 x.Last,.sl 5 (x.Mem.map zab),.sl 1 (x.Files.map zal),.sl 5 (x.All.map zab)]
abbrev zeu (x:Inside):List AV:=[.sl 2 (x.Notes.map zar),.int .i64 x.Last,.sl 5 (x.Mem.map zab),.sl 1 (x.Files.map zal),.sl 5 (x.All.map zab)]
structure Ask where
  From:B8
  To:B8
  Time:Int
  Many:Int
  deriving Inhabited,DecidableEq
def e_Ask (x:Ask):AV:=.agg [.str x.From,.str x.To,.int .i64 x.Time,.int .i64 x.Many]
abbrev c_Ask (x:Ask):List AV:=[.str x.From,.str x.To,.int .i64 x.Time,.int .i64 x.Many]
def e_L_str (l:B9):AV:=.sl 1 (l.map ze5)
structure TabletStep where
  Kind:Int
  N:Int
  Size:Int
  At:Int
  Since:Int
  Cells:List Cell
  deriving Inhabited,DecidableEq
def e_TabletStep (x:TabletStep):AV:=.agg [.int .i64 x.Kind,.int .i64 x.N,.int .i64 x.Size,.int .i64 x.At,.int .i64 x.Since,.sl 5 (x.Cells.map zab)]
abbrev c_TabletStep (x:TabletStep):List AV:=[.int .i64 x.Kind,.int .i64 x.N,.int .i64 x.Size,.int .i64 x.At,.int .i64 x.Since,.sl 5 (x.Cells.map zab)]
def e_L_TabletStep (l:List TabletStep):AV:=.sl 6 (l.map e_TabletStep)
structure tab where
  Tablet:Tablet
  notes:List Note
  last:Int
  mem:List Cell
  files:List (List Cell)
  deriving Inhabited,DecidableEq
def e_tab (x:tab):AV:=.agg [.sl 1 (x.Tablet.Log.Bytes.map zas),.int .i64 x.Tablet.Log.Kept,.sl 1 (x.Tablet.Files.map zaf),.int .i64 x.Tablet.Done,.int .i64 x.Tablet.Since,.sl 2 (x.notes.map zar),.int .i64 x.last,.sl 5 (x.mem.map zab),.sl 1 (x.files.map zal)]
abbrev c_tab (x:tab):List AV:=[.sl 1 (x.Tablet.Log.Bytes.map zas),.int .i64 x.Tablet.Log.Kept,.sl 1 (x.Tablet.Files.map zaf),.int .i64 x.Tablet.Done,.int .i64 x.Tablet.Since,.sl 2 (x.notes.map zar),.int .i64 x.last,.sl 5 (x.mem.map zab),.sl 1 (x.files.map zal)]
def e_L_i64 (l:List Int):AV:=.sl 1 (l.map zpt)
def e_L_bool (l:List Bool):AV:=.sl 1 (l.map e_bool)
structure Arr3_3 where
  p0:Int
  p1:Int
  p2:Int
  deriving Inhabited,DecidableEq
def e_Arr3_3 (x:Arr3_3):AV:=.agg [.int .i64 x.p0,.int .i64 x.p1,.int .i64 x.p2]
abbrev c_Arr3_3 (x:Arr3_3):List AV:=[.int .i64 x.p0,.int .i64 x.p1,.int .i64 x.p2]
structure opened where
  bodies:B9
  rows:B9
  filter:B8
  deriving Inhabited,DecidableEq
def e_opened (x:opened):AV:=.agg [.sl 1 (x.bodies.map zaf),.sl 1 (x.rows.map ze5),.sl 1 (x.filter.map zas)]
abbrev zp0 (x:opened):List AV:=[.sl 1 (x.bodies.map zaf),.sl 1 (x.rows.map ze5),.sl 1 (x.filter.map zas)]
structure Reader where
  b:B8
  bad:Bool
  deriving Inhabited,DecidableEq
def e_Reader (x:Reader):AV:=.agg [.sl 1 (x.b.map zas),.bool x.bad]
abbrev ze1 (x:Reader):List AV:=[.sl 1 (x.b.map zas),.bool x.bad]
structure source where
  cells:List Cell
  rank:Int
  deriving Inhabited,DecidableEq
def zat (x:source):AV:=.agg [.sl 5 (x.cells.map zab),.int .i64 x.rank]
abbrev c_source (x:source):List AV:=[.sl 5 (x.cells.map zab),.int .i64 x.rank]
structure Arr2_3 where
  p0:Int
  p1:Int
  deriving Inhabited,DecidableEq
def e_Arr2_3 (x:Arr2_3):AV:=.agg [.int .i64 x.p0,.int .i64 x.p1]
abbrev c_Arr2_3 (x:Arr2_3):List AV:=[.int .i64 x.p0,.int .i64 x.p1]
end G
end Go.Proofs.YticbfakiihfgmaaGreat
