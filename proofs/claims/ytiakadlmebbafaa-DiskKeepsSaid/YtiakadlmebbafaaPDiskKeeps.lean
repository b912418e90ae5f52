/- Whatever is done to a disk, what was synced once, and not trimmed, is there. -/
import Derived.Test.YtiakadlmebbafaaPDisk
namespace Go.Proofs.Ytiakadlmebbafaa
open Go Go.Dm
set_option linter.unusedVariables false
set_option linter.unusedSimpArgs false
namespace G
theorem kJ3_bad (v : Disk × List UInt8 × List UInt8 × Int × Int) (i : Nat) (hi : i ≤ 1000) (hv : v.2.2.2.2 = (i : Int)) (d : Disk) (k a : List UInt8) (nx : Int) (e : Disk) (f : Fault) (hf : ¬ f.Code = 0) :
    law_DiskKeeps_J3 v (d, k, a, nx, e, f) = some (.inl (d, k, a, nx, ((i + 1 : Nat) : Int))) := by
  have hw : w64 ((i : Int) + 1) = ((i + 1 : Nat) : Int) := by rw [w64_id (by omega) (by omega)]; omega
  unfold law_DiskKeeps_J3 law_DiskKeeps_J2
  rw [if_pos (n_t hf), hv, hw]
theorem kJ3_ok (v : Disk × List UInt8 × List UInt8 × Int × Int) (i : Nat) (hi : i ≤ 1000) (hv : v.2.2.2.2 = (i : Int)) (d : Disk) (nx : Int) (e : Disk) (he : DGood e) :
    law_DiskKeeps_J3 v (d, e.Bytes.take e.Kept.toNat, e.Bytes, nx, e, ⟨0, 0⟩) = some (.inl (e, e.Bytes.take e.Kept.toNat, e.Bytes, nx, ((i + 1 : Nat) : Int))) := by
  have hw : w64 ((i : Int) + 1) = ((i + 1 : Nat) : Int) := by rw [w64_id (by omega) (by omega)]; omega
  have h0 := he.k0
  have h1 := he.k1
  have hl : ((e.Bytes.take e.Kept.toNat).length : Int) = e.Kept := by simp; omega
  have et : ltake e.Bytes e.Kept = e.Bytes.take e.Kept.toNat := rfl
  unfold law_DiskKeeps_J3 law_DiskKeeps_J2
  rw [if_neg (n_f rfl), hv, hw]
  dsimp only [lt, R_Same]
  rw [asrt_pos (fun _ => by omega), hl, et, if_neg (by simp)]
theorem keeps_loop (parts : List (List UInt8)) (moves : List Int) (hp : parts.length ≤ 100) (hm : moves.length ≤ 200) (hs : ∀ s ∈ parts, s.length ≤ 140737488351232) (hr : ∀ x ∈ moves, -9223372036854775808 ≤ x ∧ x ≤ 9223372036854775807) :
    ∀ (m i nx : Nat) (d : Disk), moves.length - i = m → i ≤ moves.length → nx ≤ parts.length → DGood d → law_DiskKeeps_L1 parts moves (d, d.Bytes.take d.Kept.toNat, d.Bytes, (nx : Int), (i : Int)) = some true
  | 0, i, nx, d, e, hi, hn, hg => by
    refine loopO_inr ?_
    simp only [law_DiskKeeps_B1]
    rw [if_neg (d_f (by omega))]; rfl
  | m + 1, i, nx, d, e, hi, hn, hg => by
    have hlt : i < moves.length := by omega
    have hmv := hr _ (lget_mem moves (i : Int) (by omega))
    have hd := hg.len
    have h0 := hg.k0
    have h1 := hg.k1
    have hkl : ((d.Bytes.take d.Kept.toNat).length : Int) = d.Kept := by simp; omega
    have ih := fun nx' d' hn' hg' => keeps_loop parts moves hp hm hs hr m (i + 1) nx' d' (by omega) (by omega) hn' hg'
    have nxt : ∀ (nx' : Nat) (d' : Disk), nx' ≤ parts.length → DGood d' → law_DiskKeeps_B1 parts moves (d, d.Bytes.take d.Kept.toNat, d.Bytes, (nx : Int), (i : Int)) = some (.inl (d', d'.Bytes.take d'.Kept.toNat, d'.Bytes, (nx' : Int), ((i + 1 : Nat) : Int))) →
      law_DiskKeeps_L1 parts moves (d, d.Bytes.take d.Kept.toNat, d.Bytes, (nx : Int), (i : Int)) = some true := fun nx' d' hn' hg' h => (loopO_inl h).trans (ih nx' d' hn' hg')
    have hw : w64 ((i : Int) + 1) = ((i + 1 : Nat) : Int) := by rw [w64_id (by omega) (by omega)]; omega
    have hwn : w64 ((nx : Int) + 1) = ((nx + 1 : Nat) : Int) := by rw [w64_id (by omega) (by omega)]; omega
    by_cases c1 : lget moves (i : Int) < 0
    · by_cases c2 : (parts.length : Int) ≤ nx
      · refine nxt nx d hn hg ?_
        simp only [law_DiskKeeps_B1, law_DiskKeeps_J2]
        rw [if_pos (d_t (by omega)), asrt_pos (by omega), if_pos (d_t c1), if_pos (d_t c2), hw]
      · have hpl := hs _ (lget_mem parts (nx : Int) (by omega))
        have hap := append_eq hg (lget parts (nx : Int)) (by omega)
        by_cases c3 : 60000 < d.Bytes.length + (lget parts (nx : Int)).length
        · have ea : apS d (lget parts (nx : Int)) = (dE, ⟨9, 0⟩) := by unfold apS; rw [if_pos c3]
          rw [ea] at hap
          refine nxt (nx + 1) d (by omega) hg ?_
          simp only [law_DiskKeeps_B1]
          rw [if_pos (d_t (by omega)), asrt_pos (by omega), if_pos (d_t c1), if_neg (d_f c2), asrt_pos (by omega), hap, ob_some, if_neg (by simp), ob_some, hwn]
          exact kJ3_bad _ i (by omega) rfl _ _ _ _ _ _ (by simp)
        · have ea : apS d (lget parts (nx : Int)) = (⟨d.Bytes ++ lget parts (nx : Int), d.Kept⟩, ⟨0, 0⟩) := by unfold apS; rw [if_neg c3]
          have hg' : DGood ⟨d.Bytes ++ lget parts (nx : Int), d.Kept⟩ := ⟨by simp; omega, h0, by simp; omega⟩
          have et : d.Bytes.take d.Kept.toNat = (d.Bytes ++ lget parts (nx : Int)).take d.Kept.toNat := by rw [List.take_append_of_le_length (by omega)]
          rw [ea] at hap
          refine nxt (nx + 1) ⟨d.Bytes ++ lget parts (nx : Int), d.Kept⟩ (by omega) hg' ?_
          simp only [law_DiskKeeps_B1]
          rw [if_pos (d_t (by omega)), asrt_pos (by omega), if_pos (d_t c1), if_neg (d_f c2), asrt_pos (by omega), hap, ob_some, if_pos (by simp), asrt_pos (by omega), asrt_pos (by simp; omega), ob_some, hwn]
          have := kJ3_ok (d, d.Bytes.take d.Kept.toNat, d.Bytes, (nx : Int), (i : Int)) i (by omega) rfl d ((nx + 1 : Nat) : Int) ⟨d.Bytes ++ lget parts (nx : Int), d.Kept⟩ hg'
          simp only [← et] at this
          rw [this, et]
    · by_cases c2 : lget moves (i : Int) = 0
      · have hg' : DGood ⟨d.Bytes, (d.Bytes.length : Int)⟩ := ⟨hd, by simp, by simp⟩
        refine nxt nx ⟨d.Bytes, (d.Bytes.length : Int)⟩ hn hg' ?_
        simp only [law_DiskKeeps_B1]
        rw [if_pos (d_t (by omega)), asrt_pos (by omega), if_neg (d_f c1), if_pos (d_t c2), sync_eq hg, ob_some, if_pos (by simp)]
        unfold law_ownBytes_v3
        rw [asrt_pos (by omega), ob_some]
        have := kJ3_ok (d, d.Bytes.take d.Kept.toNat, d.Bytes, (nx : Int), (i : Int)) i (by omega) rfl d (nx : Int) ⟨d.Bytes, (d.Bytes.length : Int)⟩ hg'
        have ef : d.Bytes.take ((d.Bytes.length : Int)).toNat = d.Bytes := by simp
        simp only [ef] at this ⊢
        exact this
      · have hcr := crash_eq hg (lget moves (i : Int) - 1)
        have hwm : w64 (lget moves (i : Int) - 1) = lget moves (i : Int) - 1 := w64_id (by omega) (by omega)
        by_cases c3 : lget moves (i : Int) - 1 < 0 ∨ (d.Bytes.length : Int) - d.Kept < lget moves (i : Int) - 1
        · have ea : crS d (lget moves (i : Int) - 1) = (dE, ⟨3, -1⟩) := by unfold crS; rw [if_pos c3]
          rw [ea] at hcr
          refine nxt nx d hn hg ?_
          simp only [law_DiskKeeps_B1]
          rw [if_pos (d_t (by omega)), asrt_pos (by omega), if_neg (d_f c1), if_neg (d_f c2), hwm, hcr, ob_some, if_neg (by simp)]
          exact kJ3_bad _ i (by omega) rfl _ _ _ _ _ _ (by simp)
        · have ea : crS d (lget moves (i : Int) - 1) = (⟨d.Bytes.take (d.Kept + (lget moves (i : Int) - 1)).toNat, d.Kept + (lget moves (i : Int) - 1)⟩, ⟨0, 0⟩) := by unfold crS; rw [if_neg c3]
          rw [ea] at hcr
          obtain ⟨n, hn2⟩ : ∃ n : Nat, d.Kept + (lget moves (i : Int) - 1) = (n : Int) := ⟨(d.Kept + (lget moves (i : Int) - 1)).toNat, by omega⟩
          rw [hn2] at hcr
          have hg' : DGood ⟨d.Bytes.take n, (n : Int)⟩ := ⟨by simp; omega, by simp, by simp; omega⟩
          have hw3 : w64 (w64 (((d.Bytes.take d.Kept.toNat).length : Int) + lget moves (i : Int)) - 1) = (n : Int) := by
            rw [hkl, w64_id (x := d.Kept + lget moves (i : Int)) (by omega) (by omega), w64_id (by omega) (by omega)]; omega
          refine nxt nx ⟨d.Bytes.take n, (n : Int)⟩ hn hg' ?_
          simp only [law_DiskKeeps_B1]
          rw [if_pos (d_t (by omega)), asrt_pos (by omega), if_neg (d_f c1), if_neg (d_f c2), hwm, hcr, ob_some, if_pos (by simp), hw3, asrt_pos (by omega)]
          dsimp only [lt]
          unfold law_ownBytes_v3
          rw [asrt_pos (by simp; omega), ob_some]
          have := kJ3_ok (d, d.Bytes.take d.Kept.toNat, d.Bytes, (nx : Int), (i : Int)) i (by omega) rfl d (nx : Int) ⟨d.Bytes.take n, (n : Int)⟩ hg'
          have ef : (d.Bytes.take n).take n = d.Bytes.take n := by rw [List.take_take, Nat.min_self]
          simp only [Int.toNat_natCast, ef] at this ⊢
          exact this
theorem DiskKeeps_eq (parts : List (List UInt8)) (moves : List Int) (hs : ∀ s ∈ parts, s.length ≤ 140737488351232) (hr : ∀ x ∈ moves, -9223372036854775808 ≤ x ∧ x ≤ 9223372036854775807) : law_DiskKeeps parts moves = some true := by
  unfold law_DiskKeeps
  rw [dbegun, ob_some, if_neg (by decide)]
  by_cases c : 100 < (parts.length : Int) ∨ 200 < (moves.length : Int)
  · rw [if_pos (or_t c)]
  · rw [if_neg (or_f c)]
    exact keeps_loop parts moves (by omega) (by omega) hs hr moves.length 0 0 ⟨[], 0⟩ (by omega) (by omega) (by omega) ⟨by simp, by simp, by simp⟩
end G
end Go.Proofs.Ytiakadlmebbafaa
