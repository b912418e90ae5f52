/- The program's types as plain structures, and how they stand in its memory. Written by a program (dec2.py). -/
import Derived.Test.YtnibbgjoanbnmaaFn
import Derived.Test.YtnibbgjoanbnmaaHistW
namespace Go.Proofs.Ytnibbgjoanbnmaa
open Go Go.Dm
set_option linter.unusedVariables false
set_option linter.unusedSimpArgs false
set_option maxRecDepth 100000
section
variable {Q : Exit → Act → World → Prop} {g : Gh} {N : Nat} {k : List It} {s : S}
theorem VALS {i0 : Nat} {o1 o2 o3 o4 : Oper} {c2 c3 : Call} (x d1 d2 d3 d4 b mi j : Nat) (mt ty sz : Nat) {es : List (AV × AV)} {kl : List Nat} {xs : List AV} (hks : es.map (·.2) = kl.map fun i => AV.aptr 100000 i 0) (hlt : ∀ i ∈ kl, i < xs.length) (hm : kl.length * 8 ≤ 140737488351232)
    (hk : ∀ ys : List Nat, ys.Perm kl → Wk ⟨Try.prog, Q, g, N⟩ (flt 99 k) { s with fr := (d4, .row j 0) :: s.fr, rw := (j, ⟨48, 1, 0, 0, 0, false, 1, [100000], ys.map ea⟩) :: s.rw })
    (h1 : o1.op = .load mt (.tmp x) := by rfl) (h1d : o1.dst = some d1 := by rfl) (h1g : o1.guard = none := by rfl) (h2 : o2.op = .call c2 := by rfl) (h2c : c2.callee = .value (.func 40) := by rfl) (h2a : c2.args.toList = [.tmp d1] := by rfl) (h2d : o2.dst = some d2 := by rfl) (h2g : o2.guard = none := by rfl)
    (h3 : o3.op = .call c3 := by rfl) (h3c : c3.callee = .value (.func 39) := by rfl) (h3a : c3.args.toList = [.tmp d2] := by rfl) (h3d : o3.dst = some d3 := by rfl) (h3g : o3.guard = none := by rfl) (h4 : o4.op = .assign (.tmp d3) := by rfl) (h4d : o4.dst = some d4 := by rfl) (h4g : o4.guard = none := by rfl)
    (hx : aget s.fr x = some (.ptr b 0) := by kernel_rfl) (hbx : aget s.bx b = some [.mp mi] := by kernel_rfl) (hpt : (match Ty.τ mt with | some ti => partOf ti [.mp mi] 0 | none => none) = some (.mp mi) := by kernel_rfl) (hes : aget s.mp mi = some es := by kernel_rfl) (hA : aget s.ar 100000 = some ⟨ty, sz, [], xs⟩ := by kernel_rfl)
    (hno : noK s [d1, d2, d3] = true := by kernel_rfl) (hN : Nat.blt d1 N = true ∧ Nat.blt d2 N = true ∧ Nat.blt d3 N = true ∧ Nat.blt d4 N = true := by exact ⟨rfl, rfl, rfl, rfl⟩) (hj : hasKey s.rw j = false := by kernel_rfl) (hjB : Nat.blt j nB = true := by rfl) :
    Wk ⟨Try.prog, Q, g, N⟩ (.code (.region i0 [o1, o2, o3, o4].toArray false) :: k) s := by
  have hb : ∀ {a b : Nat}, Nat.blt a b = true → a < b := fun h => Nat.le_of_ble_eq_true h
  split at hpt
  case h_2 => cases hpt
  rename_i ti hti
  refine Wk_vals (C := ⟨Try.prog, Q, g, N⟩) Ty.ok valsC ⟨_, Try.func40, rfl, rfl⟩ ⟨_, Try.func39, rfl, rfl⟩ h1 h1d h1g h2 h2c h2a h2d h2g h3 h3c h3a h3d h3g h4 h4d h4g hx hbx hti hpt hes hks hA hlt hm hno ⟨hb hN.1, hb hN.2.1, hb hN.2.2.1, hb hN.2.2.2⟩ ?_ (hb hjB) rfl fun ys hp => flt_ok 99 _ (hk ys hp)
  cases hh : aget s.rw j with
  | none => rfl
  | some v => rw [hasKey_some hh] at hj; cases hj
end
namespace G
def e_i64 (n : Int) : AV := .int .i64 n
def e_u8 (b : UInt8) : AV := .int .u8 (b.toNat : Int)
def e_u32 (n : Int) : AV := .int .u32 n
def e_u64 (n : Int) : AV := .int .u64 n
def e_bool (b : Bool) : AV := .bool b
def e_str (l : List UInt8) : AV := .str l
structure Span where
  Kind : Int
  Value : Int
  From : Int
  To : Int
  deriving Inhabited, DecidableEq
def e_Span (x : Span) : AV := .agg [.int .i64 x.Kind, .int .i64 x.Value, .int .i64 x.From, .int .i64 x.To]
abbrev c_Span (x : Span) : List AV := [.int .i64 x.Kind, .int .i64 x.Value, .int .i64 x.From, .int .i64 x.To]
def e_L_Span (l : List Span) : AV := .sl 4 (l.map e_Span)
structure Fault where
  Code : Int
  At : Int
  deriving Inhabited, DecidableEq
def e_Fault (x : Fault) : AV := .agg [.int .i64 x.Code, .int .i64 x.At]
abbrev c_Fault (x : Fault) : List AV := [.int .i64 x.Code, .int .i64 x.At]
def e_L_i64 (l : List Int) : AV := .sl 1 (l.map e_i64)
structure bunch where
  value : Int
  write : Int
  reads : List Int
  first : Int
  last : Int
  deriving Inhabited, DecidableEq
def e_bunch (x : bunch) : AV := .agg [.int .i64 x.value, .int .i64 x.write, .sl 1 (x.reads.map e_i64), .int .i64 x.first, .int .i64 x.last]
abbrev c_bunch (x : bunch) : List AV := [.int .i64 x.value, .int .i64 x.write, .sl 1 (x.reads.map e_i64), .int .i64 x.first, .int .i64 x.last]
def o_L_i64 (x : List Int) : AV := .own 3 1 (x.map e_i64).length (x.map e_i64)
def o_bunch (x : bunch) : AV := .agg [.int .i64 x.value, .int .i64 x.write, .own 3 1 0 (x.reads.map e_i64), .int .i64 x.first, .int .i64 x.last]
end G
end Go.Proofs.Ytnibbgjoanbnmaa
