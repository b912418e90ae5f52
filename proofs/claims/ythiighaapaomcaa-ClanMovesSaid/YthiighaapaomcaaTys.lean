/- The program's types as plain structures, and how they stand in its memory. Written by a program (dec2.py). -/
import Derived.Test.YthiighaapaomcaaFn
namespace Go.Proofs.Ythiighaapaomcaa
open Go Go.Dm
set_option linter.unusedVariables false
set_option linter.unusedSimpArgs false
set_option maxRecDepth 100000
namespace G
def e_i64 (n : Int) : AV := .int .i64 n
def e_u8 (b : UInt8) : AV := .int .u8 (b.toNat : Int)
def e_u32 (n : Int) : AV := .int .u32 n
def e_u64 (n : Int) : AV := .int .u64 n
def e_bool (b : Bool) : AV := .bool b
def e_str (l : List UInt8) : AV := .str l
def e_L_str (l : List (List UInt8)) : AV := .sl 1 (l.map e_str)
structure Deed where
  Kind : Int
  Who : Int
  N : Int
  deriving Inhabited, DecidableEq
def e_Deed (x : Deed) : AV := .agg [.int .i64 x.Kind, .int .i64 x.Who, .int .i64 x.N]
abbrev c_Deed (x : Deed) : List AV := [.int .i64 x.Kind, .int .i64 x.Who, .int .i64 x.N]
def e_L_Deed (l : List Deed) : AV := .sl 3 (l.map e_Deed)
structure Entry where
  Term : Int
  Text : List UInt8
  deriving Inhabited, DecidableEq
def e_Entry (x : Entry) : AV := .agg [.int .i64 x.Term, .str x.Text]
abbrev c_Entry (x : Entry) : List AV := [.int .i64 x.Term, .str x.Text]
def e_L_Entry (l : List Entry) : AV := .sl 2 (l.map e_Entry)
def e_L_i64 (l : List Int) : AV := .sl 1 (l.map e_i64)
structure Node where
  N : Int
  ID : Int
  Term : Int
  Vote : Int
  Log : List Entry
  Role : Int
  Commit : Int
  Votes : List Int
  Next : List Int
  Have : List Int
  deriving Inhabited, DecidableEq
def e_Node (x : Node) : AV := .agg [.int .i64 x.N, .int .i64 x.ID, .int .i64 x.Term, .int .i64 x.Vote, .sl 2 (x.Log.map e_Entry), .int .i64 x.Role, .int .i64 x.Commit, .sl 1 (x.Votes.map e_i64), .sl 1 (x.Next.map e_i64), .sl 1 (x.Have.map e_i64)]
abbrev c_Node (x : Node) : List AV := [.int .i64 x.N, .int .i64 x.ID, .int .i64 x.Term, .int .i64 x.Vote, .sl 2 (x.Log.map e_Entry), .int .i64 x.Role, .int .i64 x.Commit, .sl 1 (x.Votes.map e_i64), .sl 1 (x.Next.map e_i64), .sl 1 (x.Have.map e_i64)]
def e_L_Node (l : List Node) : AV := .sl 10 (l.map e_Node)
structure Mail where
  Kind : Int
  From : Int
  To : Int
  Term : Int
  A : Int
  B : Int
  C0 : Int
  Entries : List Entry
  Ok : Bool
  deriving Inhabited, DecidableEq
def e_Mail (x : Mail) : AV := .agg [.int .i64 x.Kind, .int .i64 x.From, .int .i64 x.To, .int .i64 x.Term, .int .i64 x.A, .int .i64 x.B, .int .i64 x.C0, .sl 2 (x.Entries.map e_Entry), .bool x.Ok]
abbrev c_Mail (x : Mail) : List AV := [.int .i64 x.Kind, .int .i64 x.From, .int .i64 x.To, .int .i64 x.Term, .int .i64 x.A, .int .i64 x.B, .int .i64 x.C0, .sl 2 (x.Entries.map e_Entry), .bool x.Ok]
def e_L_Mail (l : List Mail) : AV := .sl 9 (l.map e_Mail)
structure Clan where
  Nodes : List Node
  Way : List Mail
  deriving Inhabited, DecidableEq
def e_Clan (x : Clan) : AV := .agg [.sl 10 (x.Nodes.map e_Node), .sl 9 (x.Way.map e_Mail)]
abbrev c_Clan (x : Clan) : List AV := [.sl 10 (x.Nodes.map e_Node), .sl 9 (x.Way.map e_Mail)]
structure Fault where
  Code : Int
  At : Int
  deriving Inhabited, DecidableEq
def e_Fault (x : Fault) : AV := .agg [.int .i64 x.Code, .int .i64 x.At]
abbrev c_Fault (x : Fault) : List AV := [.int .i64 x.Code, .int .i64 x.At]
structure Game where
  C0 : Clan
  K : Int
  deriving Inhabited, DecidableEq
def e_Game (x : Game) : AV := .agg [.sl 10 (x.C0.Nodes.map e_Node), .sl 9 (x.C0.Way.map e_Mail), .int .i64 x.K]
abbrev c_Game (x : Game) : List AV := [.sl 10 (x.C0.Nodes.map e_Node), .sl 9 (x.C0.Way.map e_Mail), .int .i64 x.K]
def e_L_Game (l : List Game) : AV := .sl 3 (l.map e_Game)
structure goodAt where
  place : Int
  term : Int
  e : Entry
  deriving Inhabited, DecidableEq
def e_goodAt (x : goodAt) : AV := .agg [.int .i64 x.place, .int .i64 x.term, .int .i64 x.e.Term, .str x.e.Text]
abbrev c_goodAt (x : goodAt) : List AV := [.int .i64 x.place, .int .i64 x.term, .int .i64 x.e.Term, .str x.e.Text]
structure game where
  Clan : Clan
  texts : List (List UInt8)
  deriving Inhabited, DecidableEq
def e_game (x : game) : AV := .agg [.sl 10 (x.Clan.Nodes.map e_Node), .sl 9 (x.Clan.Way.map e_Mail), .sl 1 (x.texts.map e_str)]
abbrev c_game (x : game) : List AV := [.sl 10 (x.Clan.Nodes.map e_Node), .sl 9 (x.Clan.Way.map e_Mail), .sl 1 (x.texts.map e_str)]
def o_L_i64 (x : List Int) : AV := .own 3 1 (x.map e_i64).length (x.map e_i64)
end G
end Go.Proofs.Ythiighaapaomcaa
