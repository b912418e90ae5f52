/- Every function of disks does what the document says. -/
import Derived.Test.YtiakadlmebbafaaPDisk
namespace Go.Proofs.Ytiakadlmebbafaa
open Go Go.Dm
set_option linter.unusedVariables false
set_option linter.unusedSimpArgs false
namespace G
theorem sameDisk_iff (a b : Disk) : R_SameDisk a b = decide (a = b) := by
  unfold R_SameDisk R_Same lt
  obtain ⟨x, k⟩ := a
  obtain ⟨y, j⟩ := b
  by_cases h1 : x = y <;> by_cases h2 : k = j <;> simp [h1, h2]
theorem as0 (d : Disk) (f : Fault) (w0 : Disk) (b : List UInt8) (hb : w0.Bytes.length + b.length ≤ 1000000) (h1 : ¬ f.Code = 0 → d = dE) (h2 : f.Code = 0 → d = ⟨w0.Bytes ++ b, w0.Kept⟩) : law_diskAs d f f w0 b = some true := by
  unfold law_diskAs law_DiskDoes_1_v1 law_ownBytes
  rw [if_neg (by simp)]
  by_cases c : f.Code = 0
  · rw [if_neg (n_f c), asrt_pos (by omega), ob_some, asrt_pos (by simp; omega), ob_some, sameDisk_iff]
    simp [lt, h2 c]
  · rw [if_pos (n_t c), sameDisk_iff]
    simp [lt, h1 c, dE]
theorem as1 (d : Disk) (f : Fault) (w0 : Disk) (h1 : ¬ f.Code = 0 → d = dE) (h2 : f.Code = 0 → d = ⟨w0.Bytes, (w0.Bytes.length : Int)⟩) : law_diskAs_v1 d f f w0 = true := by
  unfold law_diskAs_v1 law_DiskDoes_2
  rw [if_neg (by simp)]
  by_cases c : f.Code = 0
  · rw [if_neg (n_f c)]
    simp [lt, sameDisk_iff, h2 c]
  · rw [if_pos (n_t c)]
    simp [lt, sameDisk_iff, h1 c, dE]
theorem as2 (d : Disk) (f : Fault) (w0 : Disk) (n : Int) (h1 : ¬ f.Code = 0 → d = dE) (h2 : f.Code = 0 → (0 ≤ w64 (w0.Kept + n) ∧ w64 (w0.Kept + n) ≤ (w0.Bytes.length : Int)) ∧ d = ⟨ltake w0.Bytes (w64 (w0.Kept + n)), w64 (w0.Kept + n)⟩) : law_diskAs_v2 d f f w0 n = some true := by
  unfold law_diskAs_v2 law_DiskDoes_3
  rw [if_neg (by simp)]
  by_cases c : f.Code = 0
  · rw [if_neg (n_f c), asrt_pos (h2 c).1, ob_some, sameDisk_iff]
    simp [lt, (h2 c).2]
  · rw [if_pos (n_t c), sameDisk_iff]
    simp [lt, h1 c, dE]
theorem as3 (d : Disk) (f : Fault) (w0 : Disk) (n : Int) (h1 : ¬ f.Code = 0 → d = dE) (h2 : f.Code = 0 → (0 ≤ n ∧ n ≤ (w0.Bytes.length : Int)) ∧ d = ⟨ltake w0.Bytes n, n⟩) : law_diskAs_v3 d f f w0 n = some true := by
  unfold law_diskAs_v3 law_DiskDoes_4
  rw [if_neg (by simp)]
  by_cases c : f.Code = 0
  · rw [if_neg (n_f c), asrt_pos (h2 c).1, ob_some, sameDisk_iff]
    simp [lt, (h2 c).2]
  · rw [if_pos (n_t c), sameDisk_iff]
    simp [lt, h1 c, dE]
theorem as4 (d : Disk) (f : Fault) (w0 : Disk) (n : Int) (h1 : ¬ f.Code = 0 → d = dE) (h2 : f.Code = 0 → (0 ≤ n ∧ n ≤ (w0.Bytes.length : Int)) ∧ d = ⟨ltake w0.Bytes n, n⟩) : law_diskAs_v4 d f f w0 n = some true := as3 d f w0 n h1 h2
theorem ob_if {α β : Type} {c : Bool} {e1 e2 : Option α} {K : α → Option β} {r : Option β} (h1 : c = true → ob e1 K = r) (h2 : c = false → ob e2 K = r) : ob (if c = true then e1 else e2) K = r := by
  cases c with
  | true => rw [if_pos rfl]; exact h1 rfl
  | false => rw [if_neg (by decide)]; exact h2 rfl
theorem ob_flt {α β : Type} {c : Bool} (a b : Fault) (f : Fault → α) (K : α → Option β) : ob (if c = true then lt a fun x => some (f x) else some (f b)) K = K (f (if c = true then a else b)) := by
  cases c <;> rfl
theorem ob_ite {α β : Type} {c : Bool} (p q : α) (K : α → Option β) : ob (if c = true then some p else some q) K = K (if c = true then p else q) := by cases c <;> rfl
theorem ite_fst {α β : Type} {c : Bool} (p q : α × β) : (if c = true then p else q).1 = if c = true then p.1 else q.1 := by cases c <;> rfl
theorem ite_snd {α β : Type} {c : Bool} (p q : α × β) : (if c = true then p else q).2 = if c = true then p.2 else q.2 := by cases c <;> rfl
def trS (d : Disk) (n : Int) : Disk × Fault := if n < 0 ∨ (d.Bytes.length : Int) < n then (dE, ⟨3, -1⟩) else (⟨ltake d.Bytes n, n⟩, ⟨0, 0⟩)
theorem trim_eq {d : Disk} (h : DGood d) (n : Int) : disk_Trim_v1 d n = some (trS d n) := by
  have hl := h.len
  unfold disk_Trim_v1 trS
  rw [dcheck_eq, dF_zero h]
  dsimp only [lt]
  rw [if_neg (by simp)]
  by_cases c : n < 0 ∨ (d.Bytes.length : Int) < n
  · rw [if_pos (or_t c), if_pos c]; rfl
  · obtain ⟨k, rfl⟩ : ∃ k : Nat, n = (k : Int) := ⟨n.toNat, by omega⟩
    rw [if_neg (or_f c), if_neg c, cut_eq d _ (by omega) (by omega), ob_some, ltake_nat]
theorem trim_bad {d : Disk} (h : ¬ (dF d).Code = 0) (n : Int) : disk_Trim_v1 d n = some (dE, dF d) := by
  unfold disk_Trim_v1
  rw [dcheck_eq]
  dsimp only [lt]
  rw [if_pos (n_t h)]; rfl
theorem DiskDoes_eq (d : Disk) (b : List UInt8) (num : Int) : law_DiskDoes d b num = some true := by
  unfold law_DiskDoes law_ownDisk law_ownBytes_v1
  rw [dbegun, ob_some, if_neg (by decide)]
  by_cases c : 100000 < (d.Bytes.length : Int) ∨ 100000 < (b.length : Int)
  · rw [if_pos (or_t c)]
  · rw [if_neg (or_f c), asrt_pos (by omega), ob_some, ob_some]
    have ed : (⟨d.Bytes, d.Kept⟩ : Disk) = d := rfl
    rw [ed]
    dsimp only [lt]
    rw [asrt_pos (by omega), ob_some, dcheck_eq, rdisk_eq, sameDisk_self]
    have hcc : ((!(decide ((dF d).Code = (dF d).Code) && (decide ((dF d).At = (dF d).At) && true))) || (!true)) = false := by simp
    by_cases g : (dF d).Code = 0
    · have hg := dF_good.1 g
      have hl := hg.len
      have h0 := hg.k0
      have h1 := hg.k1
      have hw : w64 ((d.Bytes.length : Int) + (b.length : Int)) = ((d.Bytes.length + b.length : Nat) : Int) := by rw [w64_id (by omega) (by omega)]; omega
      have hw2 : w64 ((d.Bytes.length : Int) - d.Kept) = (d.Bytes.length : Int) - d.Kept := w64_id (by omega) (by omega)
      have e4 : (if ((decide ((dF d).Code = 0)) && (decide (60000 < (w64 ((d.Bytes.length : Int) + (b.length : Int)))))) = true then R_F 9 0 else dF d) = (apS d b).2 := by
        rw [hw, dF_zero hg]
        unfold apS
        by_cases c : 60000 < d.Bytes.length + b.length
        · have : 60000 < ((d.Bytes.length + b.length : Nat) : Int) := by omega
          rw [if_pos c, if_pos (by simp; omega)]; rfl
        · rw [if_neg c, if_neg (by simp; omega)]
      have e6 : (if ((decide ((dF d).Code = 0)) && ((decide (num < 0)) || (decide ((w64 ((d.Bytes.length : Int) - d.Kept)) < num)))) = true then R_F 3 (-1) else dF d) = (crS d num).2 := by
        rw [hw2, dF_zero hg]
        unfold crS
        by_cases c : num < 0 ∨ (d.Bytes.length : Int) - d.Kept < num
        · rw [if_pos c, if_pos (by simpa using c)]; rfl
        · rw [if_neg c, if_neg (by simpa using c)]
      have e7 : (if ((decide ((dF d).Code = 0)) && ((decide (num < 0)) || (decide ((d.Bytes.length : Int) < num)))) = true then R_F 3 (-1) else dF d) = (trS d num).2 := by
        rw [dF_zero hg]
        unfold trS
        by_cases c : num < 0 ∨ (d.Bytes.length : Int) < num
        · rw [if_pos c, if_pos (by simpa using c)]; rfl
        · rw [if_neg c, if_neg (by simpa using c)]
      rw [append_eq hg b (by omega), ob_some, sync_eq hg, ob_some, crash_eq hg, ob_some, trim_eq hg, ob_some, recover_eq hg, ob_some, hcc, if_neg (by decide)]
      simp only [ob_ite, ite_fst, ite_snd, ite_self, e4, e6, e7]
      rw [as0 _ _ d b (by omega) (by unfold apS; split <;> simp) (by unfold apS; split <;> simp), ob_some, if_neg (by decide)]
      rw [dF_zero hg, as1 _ _ d (by simp) (by simp), if_neg (by decide)]
      rw [as2 _ _ d num (by unfold crS; split <;> simp) (by
        unfold crS
        split
        · simp
        · intro _
          rename_i c
          have e : w64 (d.Kept + num) = (((d.Kept + num).toNat : Nat) : Int) := by rw [w64_id (by omega) (by omega)]; omega
          have e2 : (((d.Kept + num).toNat : Nat) : Int) = d.Kept + num := by omega
          rw [e, ltake_nat, e2]
          exact ⟨by omega, rfl⟩), ob_some, if_neg (by decide)]
      rw [as3 _ _ d num (by unfold trS; split <;> simp) (by
        unfold trS
        split
        · simp
        · intro _
          rename_i c
          exact ⟨by omega, rfl⟩), ob_some, if_neg (by decide)]
      rw [if_pos (by simp), unframed_eq _ (by omega), ob_some]
      unfold rcS
      have hole := opn_le d.Bytes.length d.Bytes [] 0
      generalize opn d.Bytes.length d.Bytes [] 0 = o at hole ⊢
      by_cases c2 : 1000 < o.1.length
      · rw [if_pos c2, if_pos (d_t (by simp only; omega)), ob_some]
        dsimp only
        rw [sameBodies_eq _ _ (by simp), ob_some, if_pos (by simp)]
        have e : R_F 2 0 = ⟨2, 0⟩ := rfl
        rw [e, as4 _ _ d _ (fun _ => rfl) (fun h => by simp at h), ob_some]; simp
      · rw [if_neg c2, if_neg (d_f (by simp only; omega)), ob_some]
        dsimp only
        have hol : o.1.length ≤ 1000000 := by omega
        rw [sameBodies_eq _ _ hol, ob_some, if_pos (by simp), as4 _ _ d _ (by simp) (fun _ => ⟨by omega, by rw [ltake_nat]⟩), ob_some]; simp
    · have e : ∀ (x : Bool) (f : Fault), (if ((decide ((dF d).Code = 0)) && x) = true then f else dF d) = dF d := fun x f => by simp [g]
      have hb : (decide ((dF d).Code = 0)) = false := decide_eq_false g
      rw [append_bad g, ob_some, sync_bad g, ob_some, crash_bad g, ob_some, trim_bad g, ob_some, recover_bad g, ob_some, hcc, if_neg (by decide)]
      simp only [ob_ite, ite_fst, ite_snd, ite_self, e]
      rw [as0 _ _ d b (by omega) (fun _ => rfl) (fun h => absurd h g), ob_some, if_neg (by decide)]
      rw [as1 _ _ d (fun _ => rfl) (fun h => absurd h g), if_neg (by decide)]
      rw [as2 _ _ d num (fun _ => rfl) (fun h => absurd h g), ob_some, if_neg (by decide)]
      rw [as3 _ _ d num (fun _ => rfl) (fun h => absurd h g), ob_some, if_neg (by decide)]
      rw [hb, if_neg (by decide), ob_some]
      dsimp only
      rw [sameBodies_eq _ _ (by simp), ob_some, if_pos (by simp), as4 _ _ d _ (fun _ => rfl) (fun h => absurd h g), ob_some]; simp
end G
end Go.Proofs.Ytiakadlmebbafaa
