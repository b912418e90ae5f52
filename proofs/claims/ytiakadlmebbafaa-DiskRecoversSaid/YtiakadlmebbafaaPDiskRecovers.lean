/- Of frames that were appended, Recover tells behind any crash the first ones, and at least those that were synced. -/
import Derived.Test.YtiakadlmebbafaaPDisk
namespace Go.Proofs.Ytiakadlmebbafaa
open Go Go.Dm
set_option linter.unusedVariables false
set_option linter.unusedSimpArgs false
namespace G
theorem encF_app : ∀ (a b : List (List UInt8)), encF (a ++ b) = encF a ++ encF b
  | [], b => by simp [encF, wrAll]
  | x :: a, b => by rw [List.cons_append, encF_cons, encF_cons, encF_app a b, List.append_assoc]
theorem encF_split (l : List (List UInt8)) (k : Nat) : encF l = encF (l.take k) ++ encF (l.drop k) := by rw [← encF_app, List.take_append_drop]
theorem encF_le (l : List (List UInt8)) {a b : Nat} (h : a ≤ b) : (encF (l.take a)).length ≤ (encF (l.take b)).length := by
  have e : l.take a = (l.take b).take a := by rw [List.take_take, Nat.min_eq_left h]
  rw [encF_split (l.take b) a, ← e, List.length_append]; omega
theorem encF_le' (l : List (List UInt8)) (a : Nat) : (encF (l.take a)).length ≤ (encF l).length := by
  rw [encF_split l a, List.length_append]; omega
theorem encF_snoc (l : List (List UInt8)) (i : Nat) (h : i < l.length) : encF (l.take (i + 1)) = encF (l.take i) ++ frame (lget l (i : Int)) := by
  rw [lget_take l i h, encF_app, encF_cons]; simp [encF, wrAll]
theorem wh_ge : ∀ (l : List (List UInt8)) (c k : Nat), k ≤ l.length → (encF (l.take k)).length ≤ c → k ≤ wh l c
  | [], c, k, hk, h => by simp at hk; omega
  | x :: l, c, 0, hk, h => Nat.zero_le _
  | x :: l, c, k + 1, hk, h => by
    rw [List.take_succ_cons, encF_cons, List.length_append, frame_len] at h
    rw [wh, if_pos (by omega)]
    have := wh_ge l (c - (x.length + 6)) k (by simpa using hk) (by omega)
    omega
theorem wh_sz : ∀ (l : List (List UInt8)) (c : Nat), (encF (l.take (wh l c))).length ≤ c
  | [], c => by simp [encF, wrAll]
  | x :: l, c => by
    rw [wh]
    by_cases h : x.length + 6 ≤ c
    · have := wh_sz l (c - (x.length + 6))
      rw [if_pos h, List.take_succ_cons, encF_cons, List.length_append, frame_len]; omega
    · rw [if_neg h]; simp [encF, wrAll]
theorem opn_encF (l : List (List UInt8)) (c : Nat) (hs : ∀ s ∈ l, s.length ≤ 65535) : opn ((encF l).take c).length ((encF l).take c) [] 0 = (l.take (wh l c), (encF (l.take (wh l c))).length) := by
  rw [opn_cut l c _ [] 0 hs (Nat.le_refl _)]; simp
theorem take_enc (l : List (List UInt8)) (c : Nat) : ((encF l).take c).take (encF (l.take (wh l c))).length = encF (l.take (wh l c)) := by
  have := wh_sz l c
  rw [List.take_take, Nat.min_eq_left this]
  conv => lhs; rw [encF_split l (wh l c)]
  rw [List.take_append_of_le_length (Nat.le_refl _), List.take_length]
theorem rec_tail (bodies : List (List UInt8)) (hl : bodies.length ≤ 100) (hs : ∀ s ∈ bodies, s.length ≤ 500) (syn : Nat) (hsyn : syn ≤ bodies.length) (num : Int) (h6 : (encF bodies).length ≤ 60000) (v : Disk)
    (hv : v = ⟨encF bodies, if syn < bodies.length then ((encF (bodies.take syn)).length : Int) else v.Kept⟩) (hg : DGood v) : law_DiskRecovers_J1 bodies (syn : Int) num v = some true := by
  have hs' : ∀ s ∈ bodies, s.length ≤ 65535 := fun s h => by have := hs s h; omega
  have hK := encF_le' bodies syn
  have e1 : (ob (if (decide ((syn : Int) = (bodies.length : Int))) = true then ob (disk_Sync_v1 v) fun x1 => some x1.1 else some v) fun (v1 : Disk) => some v1) = some ⟨encF bodies, ((encF (bodies.take syn)).length : Int)⟩ := by
    by_cases c : syn = bodies.length
    · rw [if_pos (d_t (by omega)), sync_eq hg, ob_some, ob_some]
      have : v.Bytes = encF bodies := by rw [hv]
      rw [this, c, List.take_length]
    · rw [if_neg (d_f (by omega)), ob_some]
      rw [if_pos (by omega)] at hv
      rw [hv]
  have e2 : (if (decide ((syn : Int) = (bodies.length : Int))) = true then ob (disk_Sync_v1 v) fun x1 => some x1.1 else some v) = some ⟨encF bodies, ((encF (bodies.take syn)).length : Int)⟩ := by
    rw [← e1]
    generalize (if (decide ((syn : Int) = (bodies.length : Int))) = true then ob (disk_Sync_v1 v) fun x1 => some x1.1 else some v) = o
    cases o <;> rfl
  have g1 : DGood ⟨encF bodies, ((encF (bodies.take syn)).length : Int)⟩ := ⟨h6, by simp, by simpa using hK⟩
  unfold law_DiskRecovers_J1
  rw [e2, ob_some, crash_eq g1, ob_some]
  unfold crS
  by_cases c : num < 0 ∨ ((encF bodies).length : Int) - ((encF (bodies.take syn)).length : Int) < num
  · rw [if_pos c, if_pos (by simp)]; rfl
  · rw [if_neg c, if_neg (by simp)]
    obtain ⟨n, rfl⟩ : ∃ n : Nat, num = (n : Int) := ⟨num.toNat, by omega⟩
    have ec : ((((encF (bodies.take syn)).length : Int) + (n : Int))).toNat = (encF (bodies.take syn)).length + n := by omega
    have ec2 : (((encF (bodies.take syn)).length : Int) + (n : Int)) = (((encF (bodies.take syn)).length + n : Nat) : Int) := by omega
    simp only [ec, ec2, Int.toNat_natCast]
    generalize hc : (encF (bodies.take syn)).length + n = cc
    have hcL : cc ≤ (encF bodies).length := by omega
    have g2 : DGood ⟨(encF bodies).take cc, (cc : Int)⟩ := ⟨by simp; omega, by simp, by simp; omega⟩
    have hwle := wh_le bodies cc
    have hwge := wh_ge bodies cc syn hsyn (by omega)
    have hlen : (bodies.take (wh bodies cc)).length = wh bodies cc := by simp; omega
    have r1 : rcS ⟨(encF bodies).take cc, (cc : Int)⟩ = (⟨encF (bodies.take (wh bodies cc)), (((encF (bodies.take (wh bodies cc))).length : Nat) : Int)⟩, bodies.take (wh bodies cc), ⟨0, 0⟩) := by
      unfold rcS
      simp only
      rw [opn_encF bodies cc hs', if_neg (by simp only; omega)]
      simp only [take_enc]
    have hs2 : ∀ s ∈ bodies.take (wh bodies cc), s.length ≤ 65535 := fun s h => hs' s (List.mem_of_mem_take h)
    have hG := encF_le' bodies (wh bodies cc)
    have g3 : DGood ⟨encF (bodies.take (wh bodies cc)), (((encF (bodies.take (wh bodies cc))).length : Nat) : Int)⟩ := ⟨by simp only; omega, by simp, by simp⟩
    have r2 : rcS ⟨encF (bodies.take (wh bodies cc)), (((encF (bodies.take (wh bodies cc))).length : Nat) : Int)⟩ = (⟨encF (bodies.take (wh bodies cc)), (((encF (bodies.take (wh bodies cc))).length : Nat) : Int)⟩, bodies.take (wh bodies cc), ⟨0, 0⟩) := by
      generalize bodies.take (wh bodies cc) = l at *
      have hw : wh l (encF l).length = l.length := by
        have h1 := wh_le l (encF l).length
        have h2 := wh_ge l (encF l).length l.length (Nat.le_refl _) (by rw [List.take_length]; exact Nat.le_refl _)
        omega
      have ho := opn_encF l (encF l).length hs2
      rw [List.take_length, hw, List.take_length] at ho
      unfold rcS
      simp only
      rw [ho, if_neg (by simp only; omega)]
      simp only [List.take_length]
    rw [recover_eq g2, ob_some, r1]
    dsimp only
    have hb : (!(((!decide ((0 : Int) = 0)) || (decide (((bodies.take (wh bodies cc)).length : Int) < (syn : Int)))) || (decide ((bodies.length : Int) < ((bodies.take (wh bodies cc)).length : Int))))) = true := by
      rw [hlen]
      have c1 : ¬ ((wh bodies cc : Nat) : Int) < (syn : Int) := by omega
      have c2 : ¬ (bodies.length : Int) < ((wh bodies cc : Nat) : Int) := by omega
      simp [c1, c2]
    have hb2 : (((!decide ((0 : Int) = 0)) || (decide (((bodies.take (wh bodies cc)).length : Int) < (syn : Int)))) || (decide ((bodies.length : Int) < ((bodies.take (wh bodies cc)).length : Int)))) = false := by
      simpa using hb
    have hlen0 : (bodies.take (wh bodies cc)).length ≤ 1000000 := by omega
    have ht : ltake bodies ((bodies.take (wh bodies cc)).length : Int) = bodies.take (wh bodies cc) := by rw [hlen, ltake_nat]
    rw [asrt_pos (fun _ => by rw [hlen]; omega), if_pos hb, ht, sameBodies_eq _ _ hlen0, ob_some, hb2, decide_eq_true rfl, if_neg (by decide), recover_eq g3, ob_some, r2]
    dsimp only
    rw [sameDisk_self]
    dsimp only [lt]
    rw [if_pos (by simp), sameBodies_eq _ _ hlen0, ob_some]
    simp
theorem rec_loop (bodies : List (List UInt8)) (hl : bodies.length ≤ 100) (syn : Nat) (hsyn : syn ≤ bodies.length) (num : Int) : ∀ (m i : Nat), bodies.length - i = m → i ≤ bodies.length → (∀ s ∈ bodies.take i, s.length ≤ 500) → (encF (bodies.take i)).length ≤ 60000 →
    law_DiskRecovers_L1 bodies (syn : Int) num (⟨encF (bodies.take i), if syn < i then ((encF (bodies.take syn)).length : Int) else 0⟩, (i : Int)) = some true
  | m, i, e, hi, hs, h6 => by
    have hle := encF_le bodies (a := syn) (b := i)
    have hg : DGood ⟨encF (bodies.take i), if syn < i then ((encF (bodies.take syn)).length : Int) else 0⟩ := by
      by_cases c : syn < i
      · have := hle (by omega)
        rw [if_pos c]; exact ⟨h6, by simp, by simpa using this⟩
      · rw [if_neg c]; exact ⟨h6, by simp, by simp⟩
    match m, e with
    | 0, e =>
      have : i = bodies.length := by omega
      subst this
      refine loopO_inr ?_
      simp only [law_DiskRecovers_B1]
      rw [if_neg (d_f (by omega))]
      rw [List.take_length] at hs h6 hg ⊢
      rw [rec_tail bodies hl hs syn hsyn num h6 _ ?_ hg]
      · rfl
      · by_cases c : syn < bodies.length
        · simp [c]
        · simp [c]
    | m + 1, e =>
      have hlt : i < bodies.length := by omega
      have hw : w64 ((i : Int) + 1) = ((i + 1 : Nat) : Int) := by rw [w64_id (by omega) (by omega)]; omega
      by_cases c5 : 500 < (lget bodies (i : Int)).length
      · refine loopO_inr ?_
        simp only [law_DiskRecovers_B1]
        rw [if_pos (d_t (by omega)), asrt_pos (by omega), if_pos (d_t (by omega))]
      · have hJ : law_DiskRecovers_B1 bodies (syn : Int) num (⟨encF (bodies.take i), if syn < i then ((encF (bodies.take syn)).length : Int) else 0⟩, (i : Int)) = law_DiskRecovers_J2 bodies (⟨encF (bodies.take i), if syn < i then ((encF (bodies.take syn)).length : Int) else 0⟩, (i : Int)) ⟨encF (bodies.take i), if syn < i + 1 then ((encF (bodies.take syn)).length : Int) else 0⟩ := by
          simp only [law_DiskRecovers_B1]
          rw [if_pos (d_t (by omega)), asrt_pos (by omega), if_neg (d_f (by omega))]
          by_cases c : i = syn
          · subst c
            rw [if_pos (d_t rfl), sync_eq hg, ob_some, if_neg (by simp), if_pos (Nat.lt_succ_self i)]
          · rw [if_neg (d_f (by omega))]
            have : (syn < i) = (syn < i + 1) := by rw [eq_iff_iff]; omega
            simp only [this]
        have hg' : DGood ⟨encF (bodies.take i), if syn < i + 1 then ((encF (bodies.take syn)).length : Int) else 0⟩ := by
          by_cases c : syn < i + 1
          · have := hle (by omega)
            rw [if_pos c]; exact ⟨h6, by simp, by simpa using this⟩
          · rw [if_neg c]; exact ⟨h6, by simp, by simp⟩
        have hfl := frame_len (lget bodies (i : Int))
        have hsn := encF_snoc bodies i hlt
        have hsl := congrArg List.length hsn
        rw [List.length_append, hfl] at hsl
        have hJ2 : law_DiskRecovers_J2 bodies (⟨encF (bodies.take i), if syn < i then ((encF (bodies.take syn)).length : Int) else 0⟩, (i : Int)) ⟨encF (bodies.take i), if syn < i + 1 then ((encF (bodies.take syn)).length : Int) else 0⟩ = if 60000 < (encF (bodies.take (i + 1))).length then some (.inr true) else some (.inl (⟨encF (bodies.take (i + 1)), if syn < i + 1 then ((encF (bodies.take syn)).length : Int) else 0⟩, ((i + 1 : Nat) : Int))) := by
          unfold law_DiskRecovers_J2
          rw [asrt_pos (by simp only; omega)]
          dsimp only
          rw [framed_eq1 _ (by omega), ob_some, append_eq hg' _ (by omega), ob_some]
          unfold apS
          by_cases c : 60000 < (encF (bodies.take (i + 1))).length
          · have c' : 60000 < (encF (bodies.take i)).length + (frame (lget bodies (i : Int))).length := by omega
            rw [if_pos c, if_pos c', if_pos (by simp)]; rfl
          · have c' : ¬ 60000 < (encF (bodies.take i)).length + (frame (lget bodies (i : Int))).length := by omega
            rw [if_neg c, if_neg c', if_neg (by simp), hw, hsn]
        by_cases c : 60000 < (encF (bodies.take (i + 1))).length
        · rw [if_pos c] at hJ2
          exact loopO_inr (hJ.trans hJ2)
        · rw [if_neg c] at hJ2
          refine (loopO_inl (hJ.trans hJ2)).trans (rec_loop bodies hl syn hsyn num m (i + 1) (by omega) (by omega) (fun s h => ?_) (by omega))
          rw [lget_take bodies i hlt, List.mem_append] at h
          rcases h with h | h
          · exact hs s h
          · simp only [List.mem_singleton] at h
            rw [h]; omega
theorem DiskRecovers_eq (bodies : List (List UInt8)) (synced num : Int) : law_DiskRecovers bodies synced num = some true := by
  unfold law_DiskRecovers
  rw [dbegun, ob_some, if_neg (by decide)]
  by_cases c : (100 < (bodies.length : Int) ∨ synced < 0) ∨ (bodies.length : Int) < synced
  · rw [if_pos (by simpa using c)]
  · rw [if_neg (by simpa using c)]
    obtain ⟨syn, rfl⟩ : ∃ k : Nat, synced = (k : Int) := ⟨synced.toNat, by omega⟩
    have := rec_loop bodies (by omega) syn (by omega) num bodies.length 0 (by omega) (by omega) (by simp) (by simp [encF, wrAll])
    have h0 : ((0 : Nat) : Int) = 0 := rfl
    rw [h0] at this
    simpa [encF, wrAll] using this
end G
end Go.Proofs.Ytiakadlmebbafaa
