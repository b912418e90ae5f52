/- Short words for what a program prints: states told as what changes. -/
import Derived.Test.YtipeimcdjijkgaaEm31
import Derived.Test.YtipeimcdjijkgaaEm40
namespace Go.Dm
open Go
set_option linter.unusedVariables false
set_option linter.unusedSimpArgs false
abbrev AV.i (x : Int) : AV := .int .i64 x
abbrev Rw.o (ty : TypeId) (sz ver : Nat) (xs : List AV) : Rw := ⟨ty, sz, ver, 0, 0, false, 0, [], xs⟩
abbrev Rw.z (ty : TypeId) (sz ver : Nat) (xs : List AV) : Rw := ⟨ty, sz, ver, 0, 0, true, 0, [], xs⟩
/-- of old entries those that are named, with new ones in their places -/
def pick {α : Type} (d : α) (new old : List (Nat × α)) : List Nat → List (Nat × α)
  | [] => []
  | i :: is => (i, match aget new i with
    | some v => v
    | none => match aget old i with
      | some v => v
      | none => d) :: pick d new old is
def S.up (s : S) (fs bs rs ms : List Nat) (fr : List (Nat × AV)) (bx : List (Nat × List AV)) (rw : List (Nat × Rw)) (mp : List (Nat × List (AV × AV))) : S :=
  ⟨pick .nils fr s.fr fs, pick [] bx s.bx bs, pick ⟨0, 0, 0, 0, 0, false, 0, [], []⟩ rw s.rw rs, pick [] mp s.mp ms, []⟩
def S.uf (s : S) (fs bs rs : List Nat) (fr : List (Nat × AV)) : S := s.up fs bs rs [] fr [] [] []
end Go.Dm
