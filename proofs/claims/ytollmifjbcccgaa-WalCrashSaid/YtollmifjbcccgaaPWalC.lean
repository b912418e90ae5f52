/- Notes that were logged one behind the other: what a log tells of them, and of its beginnings. -/
import Derived.Test.YtollmifjbcccgaaPWalB
namespace Go.Proofs.Ytollmifjbcccgaa
open Go Go.Dm
set_option linter.unusedVariables false
set_option linter.unusedSimpArgs false
namespace G
theorem encN_len' {n : Note} (h : NGood n) : (encN n).length ≤ 7000 := by
  have h1 := h.lo
  have h2 := h.hi
  have h3 := h.len
  have h5 := num_len5 (n := n.Seq.toNat) (by omega)
  have h6 := encC_len n.Cells h.cells.code
  unfold encN
  rw [List.length_append]; omega
theorem readS_enc {l : List Cell} (hg : Good l) (hl : l.length ≤ 20) : readS (encC l) = (l, ⟨0, 0⟩) := by
  have h6 := encC_len l hg.code
  have := rdAll_wrAll (f := rdC) (w := wrC) (fun x => R_CellCode x = 0) (fun x r h => rdC_wrC h r) (fun x h => (wrC_len h).2) l (encC l).length [] hg.code (Nat.le_refl _)
  have e : rdAll rdC (encC l).length (encC l) [] = .inl l := by simpa [encC] using this
  unfold readS
  rw [if_neg (by omega), e]
  unfold rcS
  dsimp only
  rw [hg.f]
  rfl
theorem noteS_enc {n : Note} (h : NGood n) : noteS (encN n) = (n, ⟨0, 0⟩) := by
  have hl := encN_len' h
  have h1 := h.lo
  have h2 := h.hi
  have e : ((n.Seq.toNat : Nat) : Int) = n.Seq := by omega
  unfold noteS
  rw [if_neg (by omega)]
  unfold encN
  rw [rdN_num (by omega)]
  dsimp only
  rw [readS_enc h.cells h.len, e, if_pos rfl, note_eta]
  unfold noteR
  rw [h.f, if_pos rfl]
/-- numbers one behind the other -/
def seqs (a : Int) (ns : List Note) : Prop := ∀ k : Nat, k < ns.length → (lget ns (k : Int)).Seq = a + k
def encL (ns : List Note) : List UInt8 := encF (ns.map encN)
theorem encL_cons (n : Note) (l : List Note) : encL (n :: l) = frame (encN n) ++ encL l := by unfold encL; rw [List.map_cons, encF_cons]
theorem encL_app : ∀ (l m : List Note), encL (l ++ m) = encL l ++ encL m
  | [], m => by simp [encL, encF, wrAll]
  | n :: l, m => by rw [List.cons_append, encL_cons, encL_cons, encL_app l m, List.append_assoc]
theorem encL_one (n : Note) : encL [n] = frame (encN n) := by rw [encL_cons]; simp [encL, encF, wrAll]
theorem seqs_take {a : Int} {ns : List Note} (h : seqs a ns) (w : Nat) : seqs a (ns.take w) := by
  intro k hk
  rw [List.length_take] at hk
  have e : lget (ns.take w) (k : Int) = lget ns (k : Int) := by
    have := lget_ltake ns (w : Int) (k : Int) (by omega)
    rwa [ltake_nat] at this
  rw [e]; exact h k (by omega)
theorem seqs_snoc {a : Int} {ns : List Note} (h : seqs a ns) {n : Note} (hn : n.Seq = a + ns.length) : seqs a (ns ++ [n]) := by
  intro k hk
  rw [List.length_append, List.length_singleton] at hk
  by_cases c : k < ns.length
  · rw [lget_app_l _ _ _ (by omega)]; exact h k c
  · have : k = ns.length := by omega
    subst this
    rw [lget_app_r _ _ _ (by omega), Int.sub_self]
    exact hn
theorem nts_run (a : Int) : ∀ (ms acc : List Note) (g : Nat), (∀ n ∈ acc ++ ms, NGood n) → seqs a (acc ++ ms) → nts acc g (ms.map encN) = (acc ++ ms, g + (encL ms).length)
  | [], acc, g, _, _ => by simp [nts, encL, encF, wrAll]
  | m :: ms, acc, g, hg, hs => by
    have hm := hg m (by simp)
    have hx : nxt acc m := by
      by_cases c : acc.length = 0
      · exact .inl c
      · right
        have h1 := hs acc.length (by simp)
        have h2 := hs (acc.length - 1) (by simp; omega)
        rw [lget_app_r _ _ _ (by omega), Int.sub_self] at h1
        rw [lget_app_l _ _ _ (by omega)] at h2
        have e : ((acc.length - 1 : Nat) : Int) = (acc.length : Int) - 1 := by omega
        rw [e] at h2
        have h1 : m.Seq = a + acc.length := h1
        unfold lastN
        rw [h2, h1]; omega
    rw [List.map_cons, nts, noteS_enc hm, if_pos ⟨rfl, hx⟩]
    dsimp only
    rw [nts_run a ms (acc ++ [m]) _ (by simpa using hg) (by simpa using hs), encL_cons, List.length_append, frame_len]
    simp; omega
theorem wh_ge : ∀ (l : List (List UInt8)) (c s : Nat), s ≤ l.length → (encF (l.take s)).length ≤ c → s ≤ wh l c
  | _, _, 0, _, _ => Nat.zero_le _
  | [], _, s + 1, h, _ => by simp at h
  | x :: l, c, s + 1, h, hc => by
    rw [List.take_succ_cons, encF_cons, List.length_append, frame_len] at hc
    rw [wh, if_pos (by omega)]
    have := wh_ge l (c - (x.length + 6)) s (by simpa using h) (by omega)
    omega
theorem wh_size : ∀ (l : List (List UInt8)) (c : Nat), (encF (l.take (wh l c))).length ≤ c
  | [], c => by simp [encF, wrAll]
  | x :: l, c => by
    rw [wh]
    split
    · rw [List.take_succ_cons, encF_cons, List.length_append, frame_len]
      have := wh_size l (c - (x.length + 6)); omega
    · simp [encF, wrAll]
theorem encF_take (l : List (List UInt8)) (w : Nat) : (encF l).take (encF (l.take w)).length = encF (l.take w) := by
  have e : encF l = encF (l.take w) ++ encF (l.drop w) := by
    unfold encF wrAll
    rw [← List.flatMap_append, List.take_append_drop]
  rw [e, List.take_left']; rfl
theorem encF_take_le (l : List (List UInt8)) (w : Nat) : (encF (l.take w)).length ≤ (encF l).length := by
  have e : encF l = encF (l.take w) ++ encF (l.drop w) := by
    unfold encF wrAll
    rw [← List.flatMap_append, List.take_append_drop]
  rw [e, List.length_append]; omega
/-- what a cut log tells -/
theorem logd_cut {a : Int} {ns : List Note} (hg : ∀ n ∈ ns, NGood n) (hs : seqs a ns) (c : Nat) :
    logd ((encL ns).take c) = (ns.take (wh (ns.map encN) c), (encL (ns.take (wh (ns.map encN) c))).length) := by
  have hl : ∀ s ∈ ns.map encN, s.length ≤ 65535 := by
    intro s h
    obtain ⟨n, hn, rfl⟩ := List.mem_map.1 h
    have := encN_len' (hg n hn)
    omega
  have e := opn_cut (ns.map encN) c ((encL ns).take c).length [] 0 hl (Nat.le_refl _)
  unfold logd bodies
  have e2 : (opn ((encL ns).take c).length ((encL ns).take c) [] 0).1 = (ns.take (wh (ns.map encN) c)).map encN := by
    have : opn ((encL ns).take c).length ((encL ns).take c) [] 0 = _ := e
    rw [this, List.nil_append, List.map_take]
  rw [e2, nts_run a _ [] 0 (fun n hn => hg n (List.mem_of_mem_take (by simpa using hn))) (by rw [List.nil_append]; exact seqs_take hs _)]
  simp
theorem logd_enc {a : Int} {ns : List Note} (hg : ∀ n ∈ ns, NGood n) (hs : seqs a ns) : logd (encL ns) = (ns, (encL ns).length) := by
  have h := logd_cut hg hs (encL ns).length
  have hw : wh (ns.map encN) (encL ns).length = ns.length := by
    have h1 := wh_le (ns.map encN) (encL ns).length
    have h2 := wh_ge (ns.map encN) (encL ns).length ns.length (by simp) (by unfold encL; exact encF_take_le _ _)
    rw [List.length_map] at h1; omega
  rw [List.take_length, hw, List.take_length] at h
  exact h
end G
end Go.Proofs.Ytollmifjbcccgaa
