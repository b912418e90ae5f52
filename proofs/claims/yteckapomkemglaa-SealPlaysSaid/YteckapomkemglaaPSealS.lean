/- A vault's deeds keep what recoveries need to agree. -/
import Derived.Test.YteckapomkemglaaPSealI
namespace Go.Proofs.Yteckapomkemglaa
open Go Go.Dm
set_option linter.unusedVariables false
set_option linter.unusedSimpArgs false
set_option linter.unusedSectionVars false
namespace G
/-- a place of a list -/
def In {α : Type} (l : List α) (j : Int) : Prop := 0 ≤ j ∧ j < (l.length : Int)
theorem In.mem {α : Type} [Inhabited α] {l : List α} {j : Int} (h : In l j) : lget l j ∈ l := mem_at h
theorem in_lset {α : Type} {l : List α} {n j : Int} {x : α} : In (lset l n x) j ↔ In l j := by unfold In; rw [lset_length]
theorem lget_lset {α : Type} [Inhabited α] {l : List α} {n : Int} (h : In l n) {j : Int} (hj : In l j) (x : α) : lget (lset l n x) j = if j = n then x else lget l j := by
  obtain ⟨a, rfl⟩ : ∃ k : Nat, n = (k : Int) := ⟨n.toNat, by have := h.1; omega⟩
  obtain ⟨b, rfl⟩ : ∃ k : Nat, j = (k : Int) := ⟨j.toNat, by have := hj.1; omega⟩
  have ha : a < l.length := by have := h.2; omega
  have hb : b < l.length := by have := hj.2; omega
  by_cases e : b = a
  · subst e; rw [if_pos rfl]; simp [lget, lset, List.getD, ha]
  · rw [if_neg (by omega)]
    simp [lget, lset, List.getD, List.getElem?_set, show ¬ a = b from fun h => e h.symm]
theorem mem_lset_self {α : Type} {l : List α} {n : Int} (h : In l n) (x : α) : x ∈ lset l n x := by
  unfold lset; exact List.mem_set (by have := h.1; have := h.2; omega) x
theorem mem_lset_ne {α : Type} [Inhabited α] {l : List α} {n : Int} (h : In l n) {x y : α} (hy : y ∈ l) (hne : y ≠ lget l n) : y ∈ lset l n x := by
  obtain ⟨k, hk, rfl⟩ := mem_lget.1 hy
  have hkn : (k : Int) ≠ n := fun e => hne (by rw [e])
  have hin : In l (k : Int) := ⟨by omega, by omega⟩
  have := lget_lset h hin x
  rw [if_neg hkn] at this
  rw [← this]
  exact (in_lset.2 hin).mem
theorem map_lset {α β : Type} [Inhabited α] {l : List α} {n : Int} (h : In l n) (f : α → β) {x : α} (hx : f x = f (lget l n)) : (lset l n x).map f = l.map f := by
  obtain ⟨a, rfl⟩ : ∃ k : Nat, n = (k : Int) := ⟨n.toNat, by have := h.1; omega⟩
  have ha : a < l.length := by have := h.2; omega
  unfold lset
  apply List.ext_getElem?
  intro i
  rw [List.getElem?_map, List.getElem?_map]
  rw [List.getElem?_set]
  simp only [Int.toNat_natCast]
  by_cases e : a = i
  · subst e
    rw [if_pos rfl, if_pos ha, List.getElem?_eq_getElem ha]
    simp only [Option.map_some]
    rw [hx]; simp [lget, List.getD, ha]
  · rw [if_neg e]
theorem inj_map {α β : Type} {f : α → β} : ∀ {l : List α}, (l.map f).Nodup → ∀ {a b : α}, a ∈ l → b ∈ l → f a = f b → a = b
  | x :: l, hn, a, b, ha, hb, e => by
    rw [List.map_cons, List.nodup_cons] at hn
    rcases List.mem_cons.1 ha with h1 | h1 <;> rcases List.mem_cons.1 hb with h2 | h2
    · rw [h1, h2]
    · subst h1; exact absurd (List.mem_map.2 ⟨b, h2, e.symm⟩) hn.1
    · subst h2; exact absurd (List.mem_map.2 ⟨a, h1, e⟩) hn.1
    · exact inj_map hn.2 h1 h2 e
/-- no more than n of them -/
theorem few : ∀ (n : Nat) (l : List Int), l.Nodup → (∀ j ∈ l, 0 ≤ j ∧ j < (n : Int)) → l.length ≤ n
  | 0, l, _, h => by
    cases l with
    | nil => simp
    | cons a l => have := h a (by simp); omega
  | n + 1, l, hn, h => by
    by_cases c : (n : Int) ∈ l
    · have h1 := few n (l.erase (n : Int)) (hn.erase _) (fun j hj => by
        have h2 := h j (List.mem_of_mem_erase hj)
        have : j ≠ (n : Int) := fun e => by subst e; exact hn.not_mem_erase hj
        omega)
      rw [List.length_erase_of_mem c] at h1
      omega
    · have := few n l hn (fun j hj => by
        have h2 := h j hj
        have : j ≠ (n : Int) := fun e => c (e ▸ hj)
        omega)
      omega
/-- of two parts that have most each, some one is in both -/
theorem meet {n : Nat} {a b : List Int} (ha : a.Nodup) (hb : b.Nodup) (h1 : ∀ j ∈ a, 0 ≤ j ∧ j < (n : Int)) (h2 : ∀ j ∈ b, 0 ≤ j ∧ j < (n : Int)) (ma : n < 2 * a.length) (mb : n < 2 * b.length) : ∃ j, j ∈ a ∧ j ∈ b := by
  apply Classical.byContradiction
  intro hn
  have hd : ∀ x ∈ a, ∀ y ∈ b, x ≠ y := fun x hx y hy e => hn ⟨x, hx, e ▸ hy⟩
  have := few n (a ++ b) (List.nodup_append.2 ⟨ha, hb, hd⟩) (fun j hj => by
    rcases List.mem_append.1 hj with h | h
    · exact h1 j h
    · exact h2 j h)
  rw [List.length_append] at this
  omega
theorem onceS_mem {l : List Int} {n j : Int} : j ∈ onceS l n ↔ j ∈ l ∨ j = n := by
  unfold onceS
  split
  · rename_i h
    constructor
    · exact .inl
    · rintro (h1 | h1)
      · exact h1
      · subst h1; exact h
  · simp
theorem onceS_nodup {l : List Int} {n : Int} (h : l.Nodup) : (onceS l n).Nodup := by
  unfold onceS
  split
  · exact h
  · rename_i hn
    exact List.nodup_append.2 ⟨h, by simp, fun x hx y hy e => by simp at hy; subst hy; subst e; exact hn hx⟩
theorem onceS_le (l : List Int) (n : Int) : l.length ≤ (onceS l n).length := by unfold onceS; split <;> simp
/-- some recovery of that epoch has chosen that -/
def Val (v : Vault) (e : Int) (r : List (List UInt8)) : Prop := ∃ g ∈ v.Heals, g.Epoch = e ∧ g.Has = true ∧ g.Recs = r
/-- the same, and most have ended in it -/
def Fin (v : Vault) (e : Int) (r : List (List UInt8)) : Prop := ∃ g ∈ v.Heals, g.Epoch = e ∧ g.Has = true ∧ g.Recs = r ∧ v.Copies.length < 2 * g.Ends.length
structure CG (v : Vault) (c : Copy) : Prop where
  op : c.Closed = false → c.Epoch ≤ 1 ∧ c.Ended = 0
  e0 : 0 ≤ c.Ended
  ee : c.Ended ≤ c.Epoch
  pr : c.Ended = 0 → c.Recs <+: v.Wrote
  vl : 0 < c.Ended → Val v c.Ended c.Recs
/-- what a recovery has heard of one -/
structure SG (v : Vault) (e : Int) (j : Int) (s : Copy) : Prop where
  ij : In v.Copies j
  cl : (lget v.Copies j).Closed = true
  ep : e ≤ (lget v.Copies j).Epoch
  e0 : 0 ≤ s.Ended
  el : s.Ended < e
  pr : s.Ended = 0 → s.Recs <+: v.Wrote ∧ ∀ p, In v.Took p → j ∈ lget v.Took p → p < (s.Recs.length : Int)
  vl : 0 < s.Ended → Val v s.Ended s.Recs
/-- of what is longer than this most will never take anything -/
def MQ (v : Vault) (r : List (List UInt8)) : Prop := ∃ Q : List Int, Q.Nodup ∧ v.Copies.length < 2 * Q.length ∧ ∀ j ∈ Q, In v.Copies j ∧ (lget v.Copies j).Closed = true ∧ ∀ p, In v.Took p → j ∈ lget v.Took p → p < (r.length : Int)
structure HG (v : Vault) (h : Heal) : Prop where
  e2 : 2 ≤ h.Epoch
  hn : h.Heard.Nodup
  en : h.Ends.Nodup
  ln : h.Said.length = h.Heard.length
  sg : ∀ x ∈ h.Heard.zip h.Said, SG v h.Epoch x.1 x.2
  ed : ∀ j ∈ h.Ends, In v.Copies j ∧ h.Epoch ≤ (lget v.Copies j).Ended
  pr : h.Has = true → h.Recs <+: v.Wrote
  mj : h.Has = true → v.Copies.length < 2 * h.Heard.length
  mq : h.Has = true → MQ v h.Recs
  ch : h.Has = true → ∃ e, (∀ s ∈ h.Said, s.Ended ≤ e) ∧ (e = 0 ∨ (0 < e ∧ e < h.Epoch ∧ Val v e h.Recs))
structure SI (v : Vault) : Prop where
  tk : v.Took.length = v.Wrote.length
  tr : ∀ p, In v.Took p → (lget v.Took p).Nodup ∧ ∀ j ∈ lget v.Took p, In v.Copies j ∧ ((lget v.Copies j).Ended = 0 → p < ((lget v.Copies j).Recs.length : Int))
  cp : ∀ j, In v.Copies j → CG v (lget v.Copies j)
  hl : ∀ h ∈ v.Heals, HG v h
  ds : (v.Heals.map fun h => h.Epoch).Nodup
  kk : ∀ a ∈ v.Heals, ∀ b ∈ v.Heals, a.Epoch < b.Epoch → ∀ x ∈ b.Heard.zip b.Said, x.1 ∈ a.Ends → a.Epoch ≤ x.2.Ended
/-- what comes of a vault -/
structure Ev (v w : Vault) : Prop where
  cn : w.Copies.length = v.Copies.length
  wr : v.Wrote <+: w.Wrote
  vl : ∀ e r, Val v e r → Val w e r
  fn : ∀ e r, Fin v e r → Fin w e r
  cp : ∀ j, In v.Copies j → (lget v.Copies j).Epoch ≤ (lget w.Copies j).Epoch ∧ ((lget v.Copies j).Closed = true → (lget w.Copies j).Closed = true) ∧ (lget v.Copies j).Ended ≤ (lget w.Copies j).Ended
  tk : ∀ p j, In w.Took p → j ∈ lget w.Took p → In v.Copies j → (lget v.Copies j).Closed = true → In v.Took p ∧ j ∈ lget v.Took p
theorem Ev.refl (v : Vault) : Ev v v := ⟨rfl, List.prefix_refl _, fun _ _ h => h, fun _ _ h => h, fun j _ => ⟨Int.le_refl _, fun h => h, Int.le_refl _⟩, fun p j h1 h2 _ _ => ⟨h1, h2⟩⟩
theorem Ev.i {v w : Vault} (h : Ev v w) {j : Int} : In w.Copies j ↔ In v.Copies j := by unfold In; rw [h.cn]
theorem Ev.trans {u v w : Vault} (h1 : Ev u v) (h2 : Ev v w) : Ev u w := by
  refine ⟨by rw [h2.cn, h1.cn], h1.wr.trans h2.wr, fun e r h => h2.vl e r (h1.vl e r h), fun e r h => h2.fn e r (h1.fn e r h), fun j hj => ?_, fun p j a b c d => ?_⟩
  · obtain ⟨a1, a2, a3⟩ := h1.cp j hj
    obtain ⟨b1, b2, b3⟩ := h2.cp j (h1.i.2 hj)
    exact ⟨by omega, fun h => b2 (a2 h), by omega⟩
  · obtain ⟨x, y⟩ := h2.tk p j a b (h1.i.2 c) ((h1.cp j c).2.1 d)
    exact h1.tk p j x y c d
theorem CG.ev {v w : Vault} {c : Copy} (h : CG v c) (e : Ev v w) : CG w c := ⟨h.op, h.e0, h.ee, fun h0 => (h.pr h0).trans e.wr, fun h0 => e.vl _ _ (h.vl h0)⟩
theorem SG.ev {v w : Vault} {ep j : Int} {s : Copy} (h : SG v ep j s) (e : Ev v w) : SG w ep j s := by
  obtain ⟨a1, a2, a3⟩ := e.cp j h.ij
  refine ⟨e.i.2 h.ij, a2 h.cl, by have := h.ep; omega, h.e0, h.el, fun h0 => ⟨(h.pr h0).1.trans e.wr, fun p hp hj => ?_⟩, fun h0 => e.vl _ _ (h.vl h0)⟩
  obtain ⟨x, y⟩ := e.tk p j hp hj h.ij h.cl
  exact (h.pr h0).2 p x y
theorem MQ.ev {v w : Vault} {r : List (List UInt8)} (h : MQ v r) (e : Ev v w) : MQ w r := by
  obtain ⟨Q, h1, h2, h3⟩ := h
  refine ⟨Q, h1, by rw [e.cn]; exact h2, fun j hj => ?_⟩
  obtain ⟨a, b, c⟩ := h3 j hj
  refine ⟨e.i.2 a, (e.cp j a).2.1 b, fun p hp hjp => ?_⟩
  obtain ⟨x, y⟩ := e.tk p j hp hjp a b
  exact c p x y
theorem HG.ev {v w : Vault} {h : Heal} (g : HG v h) (e : Ev v w) : HG w h := by
  refine ⟨g.e2, g.hn, g.en, g.ln, fun x hx => (g.sg x hx).ev e, fun j hj => ?_, fun h0 => (g.pr h0).trans e.wr, fun h0 => by rw [e.cn]; exact g.mj h0, fun h0 => (g.mq h0).ev e, fun h0 => ?_⟩
  · obtain ⟨a, b⟩ := g.ed j hj
    have := (e.cp j a).2.2
    exact ⟨e.i.2 a, by omega⟩
  · obtain ⟨ee, a, b⟩ := g.ch h0
    refine ⟨ee, a, ?_⟩
    rcases b with b | ⟨b1, b2, b3⟩
    · exact .inl b
    · exact .inr ⟨b1, b2, e.vl _ _ b3⟩
end G
end Go.Proofs.Yteckapomkemglaa
