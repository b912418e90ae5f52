/- Each deed keeps what recoveries need to agree. -/
import Derived.Test.YteckapomkemglaaPSealS
namespace Go.Proofs.Yteckapomkemglaa
open Go Go.Dm
set_option linter.unusedVariables false
set_option linter.unusedSimpArgs false
set_option linter.unusedSectionVars false
namespace G
theorem lget_app {α : Type} [Inhabited α] {l m : List α} {p : Int} (h : In l p) : lget (l ++ m) p = lget l p := by
  obtain ⟨a, rfl⟩ : ∃ k : Nat, p = (k : Int) := ⟨p.toNat, by have := h.1; omega⟩
  have ha : a < l.length := by have := h.2; omega
  simp [lget, List.getD, List.getElem?_append_left ha]
theorem lget_last {α : Type} [Inhabited α] {l : List α} {x : α} {p : Int} (h : p = (l.length : Int)) : lget (l ++ [x]) p = x := by
  subst h; simp [lget, List.getD]
theorem in_app1 {α : Type} {l : List α} {x : α} {p : Int} (h : In (l ++ [x]) p) : In l p ∨ p = (l.length : Int) := by
  obtain ⟨a, b⟩ := h
  rw [List.length_append, List.length_singleton] at b
  unfold In
  omega
theorem set_copy {v : Vault} (h : SI v) {n : Int} (hn : In v.Copies n) {c : Copy} (h1 : (lget v.Copies n).Epoch ≤ c.Epoch) (h2 : (lget v.Copies n).Closed = true → c.Closed = true) (h3 : (lget v.Copies n).Ended ≤ c.Ended) (hc : CG v c)
    (hl : c.Ended = 0 → (lget v.Copies n).Recs.length ≤ c.Recs.length) : Ev v ⟨lset v.Copies n c, v.Wrote, v.Took, v.Heals⟩ ∧ SI ⟨lset v.Copies n c, v.Wrote, v.Took, v.Heals⟩ := by
  have hev : Ev v ⟨lset v.Copies n c, v.Wrote, v.Took, v.Heals⟩ := by
    refine ⟨by simp [lset_length], List.prefix_refl _, fun e r h => h, fun e r h => ?_, fun j hj => ?_, fun p j a b _ _ => ⟨a, b⟩⟩
    · obtain ⟨g, a, b, c1, d, e1⟩ := h
      exact ⟨g, a, b, c1, d, by show (lset v.Copies n c).length < _; rw [lset_length]; exact e1⟩
    · show _ ≤ (lget (lset v.Copies n c) j).Epoch ∧ (_ → (lget (lset v.Copies n c) j).Closed = true) ∧ _ ≤ (lget (lset v.Copies n c) j).Ended
      rw [lget_lset hn hj]
      split
      · rename_i e; subst e; exact ⟨h1, h2, h3⟩
      · exact ⟨Int.le_refl _, fun h => h, Int.le_refl _⟩
  refine ⟨hev, h.tk, fun p hp => ⟨(h.tr p hp).1, fun j hj => ?_⟩, fun j hj => ?_, fun g hg => (h.hl g hg).ev hev, h.ds, h.kk⟩
  · obtain ⟨a, b⟩ := (h.tr p hp).2 j hj
    refine ⟨in_lset.2 a, ?_⟩
    show (lget (lset v.Copies n c) j).Ended = 0 → p < ((lget (lset v.Copies n c) j).Recs.length : Int)
    rw [lget_lset hn a]
    split
    · rename_i e
      subst e
      intro h0
      have := hl h0
      have h5 := (h.cp j a).e0
      have := b (by omega)
      omega
    · exact b
  · have hj : In v.Copies j := in_lset.1 hj
    show CG _ (lget (lset v.Copies n c) j)
    rw [lget_lset hn hj]
    split
    · exact hc.ev hev
    · exact (h.cp j hj).ev hev
theorem set_took {v : Vault} (h : SI v) {n j : Int} (hn : In v.Took n) (hj : In v.Copies j) (ho : (lget v.Copies j).Closed = false) (hl : n < ((lget v.Copies j).Recs.length : Int)) :
    Ev v ⟨v.Copies, v.Wrote, lset v.Took n (onceS (lget v.Took n) j), v.Heals⟩ ∧ SI ⟨v.Copies, v.Wrote, lset v.Took n (onceS (lget v.Took n) j), v.Heals⟩ := by
  have hev : Ev v ⟨v.Copies, v.Wrote, lset v.Took n (onceS (lget v.Took n) j), v.Heals⟩ := by
    refine ⟨rfl, List.prefix_refl _, fun e r h => h, fun e r h => h, fun j hj => ⟨Int.le_refl _, fun h => h, Int.le_refl _⟩, fun p i a b c d => ?_⟩
    have a : In v.Took p := in_lset.1 a
    refine ⟨a, ?_⟩
    have b : i ∈ lget (lset v.Took n (onceS (lget v.Took n) j)) p := b
    rw [lget_lset hn a] at b
    split at b
    · rename_i e
      subst e
      rcases onceS_mem.1 b with q | q
      · exact q
      · subst q; rw [ho] at d; cases d
    · exact b
  refine ⟨hev, by show (lset _ _ _).length = _; rw [lset_length]; exact h.tk, fun p hp => ?_, fun j hj => (h.cp j hj).ev hev, fun g hg => (h.hl g hg).ev hev, h.ds, h.kk⟩
  replace hp : In v.Took p := in_lset.1 hp
  show (lget (lset v.Took n (onceS (lget v.Took n) j)) p).Nodup ∧ ∀ i ∈ lget (lset v.Took n (onceS (lget v.Took n) j)) p, _
  rw [lget_lset hn hp]
  split
  · rename_i e
    subst e
    refine ⟨onceS_nodup (h.tr p hp).1, fun i hi => ?_⟩
    rcases onceS_mem.1 hi with q | q
    · exact (h.tr p hp).2 i q
    · subst q; exact ⟨hj, fun _ => hl⟩
  · exact h.tr p hp
theorem set_heal {v : Vault} (h : SI v) {n : Int} (hn : In v.Heals n) {g : Heal} (he : g.Epoch = (lget v.Heals n).Epoch) (hg : HG v g) (hh : (lget v.Heals n).Has = true → g.Has = true ∧ g.Recs = (lget v.Heals n).Recs ∧ (lget v.Heals n).Ends.length ≤ g.Ends.length)
    (ka : ∀ b ∈ v.Heals, g.Epoch < b.Epoch → ∀ x ∈ b.Heard.zip b.Said, x.1 ∈ g.Ends → g.Epoch ≤ x.2.Ended)
    (kb : ∀ a ∈ v.Heals, a.Epoch < g.Epoch → ∀ x ∈ g.Heard.zip g.Said, x.1 ∈ a.Ends → a.Epoch ≤ x.2.Ended) :
    Ev v ⟨v.Copies, v.Wrote, v.Took, lset v.Heals n g⟩ ∧ SI ⟨v.Copies, v.Wrote, v.Took, lset v.Heals n g⟩ := by
  have hev : Ev v ⟨v.Copies, v.Wrote, v.Took, lset v.Heals n g⟩ := by
    refine ⟨rfl, List.prefix_refl _, fun e r q => ?_, fun e r q => ?_, fun j hj => ⟨Int.le_refl _, fun h => h, Int.le_refl _⟩, fun p j a b _ _ => ⟨a, b⟩⟩
    · obtain ⟨x, a, b, c, d⟩ := q
      by_cases e1 : x = lget v.Heals n
      · subst e1
        obtain ⟨u1, u2, u3⟩ := hh c
        exact ⟨g, mem_lset_self hn g, by rw [he, b], u1, by rw [u2, d]⟩
      · exact ⟨x, mem_lset_ne hn a e1, b, c, d⟩
    · obtain ⟨x, a, b, c, d, m⟩ := q
      by_cases e1 : x = lget v.Heals n
      · subst e1
        obtain ⟨u1, u2, u3⟩ := hh c
        exact ⟨g, mem_lset_self hn g, by rw [he, b], u1, by rw [u2, d], by show v.Copies.length < _; omega⟩
      · exact ⟨x, mem_lset_ne hn a e1, b, c, d, m⟩
  refine ⟨hev, h.tk, h.tr, fun j hj => (h.cp j hj).ev hev, fun x hx => ?_, ?_, fun a ha b hb => ?_⟩
  · rcases lset_mem hx with q | q
    · exact (h.hl x q).ev hev
    · subst q; exact hg.ev hev
  · show ((lset v.Heals n g).map _).Nodup
    rw [map_lset hn _ he]; exact h.ds
  · rcases lset_mem ha with qa | qa <;> rcases lset_mem hb with qb | qb
    · exact h.kk a qa b qb
    · subst qb; exact kb a qa
    · subst qa; exact ka b qb
    · subst qa; subst qb; intro hlt; omega
theorem si_0 {recs : List (List UInt8)} {v : Vault} (h : SI v) : Ev v (st0 recs v).2 ∧ SI (st0 recs v).2 := by
  unfold st0
  split
  · exact ⟨.refl v, h⟩
  · generalize lget recs (v.Wrote.length : Int) = r
    have hev : Ev v ⟨v.Copies, v.Wrote ++ [r], v.Took ++ [[]], v.Heals⟩ := by
      refine ⟨rfl, List.prefix_append _ _, fun e r h => h, fun e r h => h, fun j hj => ⟨Int.le_refl _, fun h => h, Int.le_refl _⟩, fun p i a b c d => ?_⟩
      rcases in_app1 a with q | q
      · have b : i ∈ lget (v.Took ++ [[]]) p := b
        rw [lget_app q] at b; exact ⟨q, b⟩
      · have b : i ∈ lget (v.Took ++ [[]]) p := b
        rw [lget_last q] at b; cases b
    refine ⟨hev, by show (v.Took ++ [[]]).length = (v.Wrote ++ [r]).length; simp [h.tk], fun p hp => ?_, fun j hj => (h.cp j hj).ev hev, fun g hg => (h.hl g hg).ev hev, h.ds, h.kk⟩
    show (lget (v.Took ++ [[]]) p).Nodup ∧ ∀ i ∈ lget (v.Took ++ [[]]) p, _
    rcases in_app1 hp with q | q
    · rw [lget_app q]; exact h.tr p q
    · rw [lget_last q]; exact ⟨List.nodup_nil, fun i hi => by cases hi⟩
theorem lget_take {α : Type} [Inhabited α] {l : List α} {k : Nat} (h : k < l.length) : l.take k ++ [lget l (k : Int)] = l.take (k + 1) := by
  rw [List.take_add_one]; simp [lget, List.getD, List.getElem?_eq_getElem h]
theorem si_1 {v : Vault} {d : Deed} (h : SI v) (hw : In v.Copies d.Who) : Ev v (st1 v d).2 ∧ SI (st1 v d).2 := by
  unfold st1
  split
  · exact ⟨.refl v, h⟩
  rename_i hN
  split
  case isFalse => exact ⟨.refl v, h⟩
  rename_i hf
  obtain ⟨a1, a2, a3, a4, -⟩ := apF_0 hf
  have hc := h.cp _ hw
  have ho := hc.op a2
  have hpr := hc.pr ho.2
  have hap : (apR (lget v.Copies d.Who) d.N (lget v.Wrote d.N)) <+: v.Wrote ∧ (lget v.Copies d.Who).Recs.length ≤ (apR (lget v.Copies d.Who) d.N (lget v.Wrote d.N)).length ∧ d.N < ((apR (lget v.Copies d.Who) d.N (lget v.Wrote d.N)).length : Int) := by
    unfold apR
    split
    · rename_i e
      refine ⟨?_, by simp, by rw [List.length_append, List.length_singleton]; omega⟩
      have h1 : (lget v.Copies d.Who).Recs = v.Wrote.take (lget v.Copies d.Who).Recs.length := List.prefix_iff_eq_take.1 hpr
      rw [e]
      have hlt : (lget v.Copies d.Who).Recs.length < v.Wrote.length := by omega
      have h2 := lget_take hlt
      rw [← h1] at h2
      rw [h2]; exact List.take_prefix _ _
    · exact ⟨hpr, Nat.le_refl _, by omega⟩
  have hcc : apC (lget v.Copies d.Who) 1 d.N (lget v.Wrote d.N) = ⟨1, false, apR (lget v.Copies d.Who) d.N (lget v.Wrote d.N), 0⟩ := by unfold apC; rw [if_neg (by simp [hf])]
  rw [hcc]
  obtain ⟨e1, s1⟩ := set_copy h hw (c := ⟨1, false, apR (lget v.Copies d.Who) d.N (lget v.Wrote d.N), 0⟩) ho.1 (by rw [a2]; intro q; cases q) (by rw [ho.2]; exact Int.le_refl _) ⟨fun _ => ⟨Int.le_refl _, rfl⟩, Int.le_refl _, (by decide : (0 : Int) ≤ 1), fun _ => hap.1, fun q => absurd (show (0 : Int) < 0 from q) (by decide)⟩ (fun _ => hap.2.1)
  have hself : lget (lset v.Copies d.Who (⟨1, false, apR (lget v.Copies d.Who) d.N (lget v.Wrote d.N), 0⟩ : Copy)) d.Who = ⟨1, false, apR (lget v.Copies d.Who) d.N (lget v.Wrote d.N), 0⟩ := by rw [lget_lset hw hw, if_pos rfl]
  obtain ⟨e2, s2⟩ := set_took s1 (n := d.N) (j := d.Who) (by have := h.tk; unfold In; show _ ∧ d.N < (v.Took.length : Int); omega) (in_lset.2 hw) (by show (lget (lset v.Copies _ _) _).Closed = false; rw [hself]) (by show d.N < ((lget (lset v.Copies _ _) _).Recs.length : Int); rw [hself]; exact hap.2.2)
  exact ⟨e1.trans e2, s2⟩
theorem si_2 {v : Vault} {d : Deed} (h : SI v) : Ev v (st2 v d).2 ∧ SI (st2 v d).2 := by
  unfold st2
  split
  · exact ⟨.refl v, h⟩
  rename_i hN
  split
  · exact ⟨.refl v, h⟩
  rename_i hany
  split
  · exact ⟨.refl v, h⟩
  have hev : Ev v ⟨v.Copies, v.Wrote, v.Took, v.Heals ++ [⟨d.N, [], [], false, [], []⟩]⟩ := by
    refine ⟨rfl, List.prefix_refl _, fun e r q => ?_, fun e r q => ?_, fun j hj => ⟨Int.le_refl _, fun h => h, Int.le_refl _⟩, fun p j a b _ _ => ⟨a, b⟩⟩
    · obtain ⟨x, a, b⟩ := q; exact ⟨x, List.mem_append_left _ a, b⟩
    · obtain ⟨x, a, b⟩ := q; exact ⟨x, List.mem_append_left _ a, b⟩
  refine ⟨hev, h.tk, h.tr, fun j hj => (h.cp j hj).ev hev, fun x hx => ?_, ?_, fun a ha b hb hlt x hx hxa => ?_⟩
  · rcases List.mem_append.1 hx with q | q
    · exact (h.hl x q).ev hev
    · rw [List.mem_singleton] at q; subst q
      exact ⟨by show 2 ≤ d.N; omega, List.nodup_nil, List.nodup_nil, rfl, (fun x hx => (by cases hx)), fun j hj => (by cases hj), fun q => (by cases q), fun q => (by cases q), fun q => (by cases q), fun q => (by cases q)⟩
  · show ((v.Heals ++ [_]).map _).Nodup
    rw [List.map_append, List.nodup_append]
    refine ⟨h.ds, by simp, fun x hx y hy e => ?_⟩
    rw [List.map_singleton, List.mem_singleton] at hy
    subst hy; subst e
    obtain ⟨g, hg, e⟩ := List.mem_map.1 hx
    apply hany
    unfold anyE
    rw [List.any_eq_true]
    exact ⟨g, hg, by simpa using e⟩
  · rcases List.mem_append.1 ha with qa | qa <;> rcases List.mem_append.1 hb with qb | qb
    · exact h.kk a qa b qb hlt x hx hxa
    · rw [List.mem_singleton] at qb; subst qb; cases hx
    · rw [List.mem_singleton] at qa; subst qa; cases hxa
    · rw [List.mem_singleton] at qb; subst qb; cases hx
theorem ask_le {c : Copy} {e : Int} {f : Fault} (h : (askS c e f).Code = 0) : c.Epoch ≤ e ∧ (chkS c).Code = 0 := by
  unfold askS at h
  split at h
  · rename_i q; exact absurd h q
  · rename_i q
    split at h
    · cases h
    · split at h
      · rename_i q2; exact absurd h q2
      · split at h
        · cases h
        · rename_i q3; exact ⟨by omega, by simpa using q⟩
theorem si_3 {v : Vault} {d : Deed} (h : SI v) (hw : In v.Copies d.Who) (hn : In v.Heals d.N) : Ev v (st3 v d).2 ∧ SI (st3 v d).2 := by
  unfold st3
  dsimp only
  split
  case isFalse => exact ⟨.refl v, h⟩
  rename_i hf
  have hc := h.cp _ hw
  have hle := (ask_le hf).1
  have hg := h.hl _ hn.mem
  have hcl : clC (lget v.Copies d.Who) (lget v.Heals d.N).Epoch = ⟨(lget v.Heals d.N).Epoch, true, (lget v.Copies d.Who).Recs, (lget v.Copies d.Who).Ended⟩ := by unfold clC; rw [if_neg (by simp [hf])]
  rw [hcl]
  have hcg : CG v ⟨(lget v.Heals d.N).Epoch, true, (lget v.Copies d.Who).Recs, (lget v.Copies d.Who).Ended⟩ := ⟨fun q => (by cases q), hc.e0, (by have := hc.ee; show (lget v.Copies d.Who).Ended ≤ (lget v.Heals d.N).Epoch; omega), hc.pr, hc.vl⟩
  obtain ⟨e1, s1⟩ := set_copy h hw (c := ⟨(lget v.Heals d.N).Epoch, true, (lget v.Copies d.Who).Recs, (lget v.Copies d.Who).Ended⟩) hle (fun _ => rfl) (Int.le_refl _) hcg (fun _ => Nat.le_refl _)
  split
  case isFalse => exact ⟨e1, s1⟩
  rename_i hq
  have hself : lget (lset v.Copies d.Who (⟨(lget v.Heals d.N).Epoch, true, (lget v.Copies d.Who).Recs, (lget v.Copies d.Who).Ended⟩ : Copy)) d.Who = ⟨(lget v.Heals d.N).Epoch, true, (lget v.Copies d.Who).Recs, (lget v.Copies d.Who).Ended⟩ := by rw [lget_lset hw hw, if_pos rfl]
  have hzip : (((lget v.Heals d.N).Heard ++ [d.Who]).zip ((lget v.Heals d.N).Said ++ [(⟨(lget v.Heals d.N).Epoch, true, (lget v.Copies d.Who).Recs, (lget v.Copies d.Who).Ended⟩ : Copy)])) = (lget v.Heals d.N).Heard.zip (lget v.Heals d.N).Said ++ [(d.Who, ⟨(lget v.Heals d.N).Epoch, true, (lget v.Copies d.Who).Recs, (lget v.Copies d.Who).Ended⟩)] := by
    rw [List.zip_append hg.ln.symm]; rfl
  have noH : ∀ {p : Prop}, (lget v.Heals d.N).Has = true → p := fun q => by rw [hq.1] at q; cases q
  have hg1 := s1.hl _ hn.mem
  obtain ⟨e2, s2⟩ := set_heal s1 (n := d.N) hn (g := ⟨(lget v.Heals d.N).Epoch, (lget v.Heals d.N).Heard ++ [d.Who], (lget v.Heals d.N).Said ++ [⟨(lget v.Heals d.N).Epoch, true, (lget v.Copies d.Who).Recs, (lget v.Copies d.Who).Ended⟩], (lget v.Heals d.N).Has, (lget v.Heals d.N).Recs, (lget v.Heals d.N).Ends⟩) rfl
    ⟨hg1.e2, List.nodup_append.2 ⟨hg1.hn, by simp, fun x hx y hy e => by rw [List.mem_singleton] at hy; subst hy; subst e; exact hq.2 hx⟩, hg1.en, by simp [hg.ln], fun x hx => (by
      have hx : x ∈ (((lget v.Heals d.N).Heard ++ [d.Who]).zip ((lget v.Heals d.N).Said ++ [(⟨(lget v.Heals d.N).Epoch, true, (lget v.Copies d.Who).Recs, (lget v.Copies d.Who).Ended⟩ : Copy)])) := hx
      rw [hzip] at hx
      rcases List.mem_append.1 hx with q | q
      · exact hg1.sg x q
      · rw [List.mem_singleton] at q; subst q
        refine ⟨in_lset.2 hw, by show (lget (lset v.Copies _ _) _).Closed = true; rw [hself], by show _ ≤ (lget (lset v.Copies _ _) _).Epoch; rw [hself]; exact Int.le_refl _, hc.e0, ?_, fun h0 => ⟨hc.pr h0, fun p hp hj => ((h.tr p hp).2 _ hj).2 h0⟩, fun h0 => hc.vl h0⟩
        show (lget v.Copies d.Who).Ended < (lget v.Heals d.N).Epoch
        rcases Int.lt_or_eq_of_le (show (lget v.Copies d.Who).Ended ≤ (lget v.Heals d.N).Epoch from hcg.ee) with q | q
        · exact q
        · have hpos : 0 < (lget v.Copies d.Who).Ended := by have := hg.e2; omega
          obtain ⟨g, u1, u2, u3, u4⟩ := hc.vl hpos
          have := inj_map h.ds u1 hn.mem (by show g.Epoch = _; rw [u2, q])
          subst this
          rw [hq.1] at u3; cases u3), hg1.ed, fun q => noH q, fun q => noH q, fun q => noH q, fun q => noH q⟩
    (fun q => noH q)
    (fun b hb hlt x hx hxa => s1.kk _ hn.mem b hb hlt x hx hxa)
    (fun a ha hlt x hx hxa => by
      have hx : x ∈ (((lget v.Heals d.N).Heard ++ [d.Who]).zip ((lget v.Heals d.N).Said ++ [(⟨(lget v.Heals d.N).Epoch, true, (lget v.Copies d.Who).Recs, (lget v.Copies d.Who).Ended⟩ : Copy)])) := hx
      rw [hzip] at hx
      rcases List.mem_append.1 hx with q | q
      · exact s1.kk a ha _ hn.mem hlt x q hxa
      · rw [List.mem_singleton] at q; subst q
        exact ((h.hl a ha).ed _ hxa).2)
  exact ⟨e1.trans e2, s2⟩
theorem chS_good {n : Int} {said : List Copy} (hE : ∀ c ∈ said, 0 ≤ c.Ended) (h : (chS n said).2.Code = 0) : n < 2 * (said.length : Int) ∧ ∃ s ∈ said, (chS n said).1 = s.Recs ∧ (∀ t ∈ said, t.Ended ≤ s.Ended) ∧ (s.Ended = 0 → ∀ t ∈ said, t.Recs.length ≤ s.Recs.length) := by
  unfold chS at h ⊢
  split at h
  · cases h
  rename_i h1
  rw [if_neg h1]
  split at h
  · cases h
  rename_i h2
  rw [if_neg h2]
  rcases firstFrom_cases (badF said) (chR n said) said.length 0 with ⟨g1, g2⟩ | ⟨j, x, g1, g2, g3, g4, g5⟩
  · rw [g2] at h ⊢
    unfold chR at h ⊢
    split at h
    · cases h
    rename_i h3
    rw [if_neg h3]
    refine ⟨by omega, ?_⟩
    obtain ⟨⟨q, hq, hqb, hqc, hqn⟩, hall, _⟩ := best_char said hE (said.length - 1) (by omega)
    have hql : q < said.length := by omega
    refine ⟨_, lget_mem hql, by rw [← hqb], fun t ht => ?_, fun h0 t ht => ?_⟩
    · obtain ⟨k, hk, rfl⟩ := mem_lget.1 ht
      have := (hall k (by omega)).1
      have := hqc.1
      omega
    · obtain ⟨k, hk, rfl⟩ := mem_lget.1 ht
      have a := (hall k (by omega)).2
      have b := hqc.1
      rcases hqc.2 with c | c
      · omega
      · omega
  · rw [g5] at h
    exfalso
    unfold badF at g3
    split at g3
    · rename_i hh; cases g3; exact hh h
    · split at g3
      · cases g3; cases h
      · cases g3
theorem zip_l {α β : Type} : ∀ {l : List α} {m : List β}, m.length = l.length → ∀ {x : α}, x ∈ l → ∃ y, (x, y) ∈ l.zip m
  | a :: l, b :: m, h, x, hx => by
    rcases List.mem_cons.1 hx with q | q
    · subst q; exact ⟨b, by simp⟩
    · obtain ⟨y, hy⟩ := zip_l (l := l) (m := m) (by simpa using h) q
      exact ⟨y, by simp [hy]⟩
theorem zip_r {α β : Type} : ∀ {l : List α} {m : List β}, m.length = l.length → ∀ {y : β}, y ∈ m → ∃ x, (x, y) ∈ l.zip m
  | a :: l, b :: m, h, y, hy => by
    rcases List.mem_cons.1 hy with q | q
    · subst q; exact ⟨a, by simp⟩
    · obtain ⟨x, hx⟩ := zip_r (l := l) (m := m) (by simpa using h) q
      exact ⟨x, by simp [hx]⟩
  | [], [], _, y, hy => by cases hy
theorem HG.said {v : Vault} {h : Heal} (g : HG v h) {s : Copy} (hs : s ∈ h.Said) : ∃ j, (j, s) ∈ h.Heard.zip h.Said ∧ SG v h.Epoch j s := by
  obtain ⟨j, hj⟩ := zip_r g.ln hs
  exact ⟨j, hj, g.sg _ hj⟩
theorem si_4 {v : Vault} {d : Deed} (h : SI v) (hn : In v.Heals d.N) : Ev v (st4 v d).2 ∧ SI (st4 v d).2 := by
  unfold st4
  dsimp only
  split
  case isFalse => exact ⟨.refl v, h⟩
  rename_i hf
  have hg := h.hl _ hn.mem
  have hE : ∀ c ∈ (lget v.Heals d.N).Said, 0 ≤ c.Ended := fun c hc => by obtain ⟨j, -, q⟩ := hg.said hc; exact q.e0
  obtain ⟨hm, s, hs, hr, hmax, hlen⟩ := chS_good hE hf.1
  obtain ⟨j, hj, q⟩ := hg.said hs
  rw [hr]
  refine set_heal h (n := d.N) hn (g := ⟨(lget v.Heals d.N).Epoch, (lget v.Heals d.N).Heard, (lget v.Heals d.N).Said, true, s.Recs, (lget v.Heals d.N).Ends⟩) rfl
    ⟨hg.e2, hg.hn, hg.en, hg.ln, hg.sg, hg.ed, fun _ => ?_, fun _ => by show v.Copies.length < 2 * (lget v.Heals d.N).Heard.length; have := hg.ln; omega, fun _ => ?_, fun _ => ⟨s.Ended, hmax, ?_⟩⟩
    (fun h0 => by rw [hf.2] at h0; cases h0) (fun b hb hlt x hx hxa => h.kk _ hn.mem b hb hlt x hx hxa) (fun a ha hlt x hx hxa => h.kk a ha _ hn.mem hlt x hx hxa)
  · show s.Recs <+: v.Wrote
    by_cases h0 : s.Ended = 0
    · exact (q.pr h0).1
    · obtain ⟨g, u1, u2, u3, u4⟩ := q.vl (by have := q.e0; omega)
      rw [← u4]; exact (h.hl g u1).pr u3
  · show MQ v s.Recs
    by_cases h0 : s.Ended = 0
    · refine ⟨(lget v.Heals d.N).Heard, hg.hn, by have := hg.ln; omega, fun i hi => ?_⟩
      obtain ⟨t, ht⟩ := zip_l hg.ln hi
      have qt := hg.sg _ ht
      have htm : t ∈ (lget v.Heals d.N).Said := (List.of_mem_zip ht).2
      have ht0 : t.Ended = 0 := by have a := hmax t htm; have b := qt.e0; have : (i, t).2.Ended = t.Ended := rfl; omega
      refine ⟨qt.ij, qt.cl, fun p hp hpi => ?_⟩
      have a := (qt.pr ht0).2 p hp hpi
      have b := hlen h0 t htm
      have a : p < (t.Recs.length : Int) := a
      omega
    · obtain ⟨g, u1, u2, u3, u4⟩ := q.vl (by have := q.e0; omega)
      rw [← u4]; exact (h.hl g u1).mq u3
  · by_cases h0 : s.Ended = 0
    · exact .inl h0
    · have hp : 0 < s.Ended := by have := q.e0; omega
      exact .inr ⟨hp, q.el, q.vl hp⟩
theorem si_5 {v : Vault} {d : Deed} (h : SI v) (hw : In v.Copies d.Who) (hn : In v.Heals d.N) : Ev v (st5 v d).2 ∧ SI (st5 v d).2 := by
  unfold st5
  dsimp only
  split
  · exact ⟨.refl v, h⟩
  rename_i hh
  have hh : (lget v.Heals d.N).Has = true := by simpa using hh
  split
  case isFalse => exact ⟨.refl v, h⟩
  rename_i hf
  have hc := h.cp _ hw
  have hle := (ask_le hf).1
  have hg := h.hl _ hn.mem
  have hen : enC (lget v.Copies d.Who) (lget v.Heals d.N).Epoch (lget v.Heals d.N).Recs = ⟨(lget v.Heals d.N).Epoch, true, (lget v.Heals d.N).Recs, (lget v.Heals d.N).Epoch⟩ := by unfold enC; rw [if_neg (by simp [hf])]
  rw [hen]
  have h2 := hg.e2
  obtain ⟨e1, s1⟩ := set_copy h hw (c := ⟨(lget v.Heals d.N).Epoch, true, (lget v.Heals d.N).Recs, (lget v.Heals d.N).Epoch⟩) hle (fun _ => rfl) (by have := hc.ee; show _ ≤ (lget v.Heals d.N).Epoch; omega)
    ⟨fun q => (by cases q), (by show 0 ≤ (lget v.Heals d.N).Epoch; omega), Int.le_refl _, fun q => (by have q : (lget v.Heals d.N).Epoch = 0 := q; omega), fun _ => ⟨_, hn.mem, rfl, hh, rfl⟩⟩ (fun q => by have q : (lget v.Heals d.N).Epoch = 0 := q; omega)
  have hself : lget (lset v.Copies d.Who (⟨(lget v.Heals d.N).Epoch, true, (lget v.Heals d.N).Recs, (lget v.Heals d.N).Epoch⟩ : Copy)) d.Who = ⟨(lget v.Heals d.N).Epoch, true, (lget v.Heals d.N).Recs, (lget v.Heals d.N).Epoch⟩ := by rw [lget_lset hw hw, if_pos rfl]
  have hg1 := s1.hl _ hn.mem
  obtain ⟨e2, s2⟩ := set_heal s1 (n := d.N) hn (g := ⟨(lget v.Heals d.N).Epoch, (lget v.Heals d.N).Heard, (lget v.Heals d.N).Said, (lget v.Heals d.N).Has, (lget v.Heals d.N).Recs, onceS (lget v.Heals d.N).Ends d.Who⟩) rfl
    ⟨hg1.e2, hg1.hn, onceS_nodup hg1.en, hg1.ln, hg1.sg, fun j hj => by
      rcases onceS_mem.1 hj with q | q
      · exact hg1.ed j q
      · subst q
        exact ⟨in_lset.2 hw, by show _ ≤ (lget (lset v.Copies _ _) _).Ended; rw [hself]; exact Int.le_refl _⟩, hg1.pr, hg1.mj, hg1.mq, hg1.ch⟩
    (fun _ => ⟨hh, rfl, onceS_le _ _⟩)
    (fun b hb hlt x hx hxa => by
      rcases onceS_mem.1 hxa with q | q
      · exact s1.kk _ hn.mem b hb hlt x hx q
      · have hs := ((s1.hl b hb).sg x hx).ep
        have hs : b.Epoch ≤ (lget (lset v.Copies d.Who _) x.1).Epoch := hs
        rw [q, hself] at hs
        have hs : b.Epoch ≤ (lget v.Heals d.N).Epoch := hs
        have hlt : (lget v.Heals d.N).Epoch < b.Epoch := hlt
        omega)
    (fun a ha hlt x hx hxa => s1.kk a ha _ hn.mem hlt x hx hxa)
  exact ⟨e1.trans e2, s2⟩
theorem si_step {recs : List (List UInt8)} {v : Vault} {d : Deed} (h : SI v) : Ev v (stepS recs v d).2 ∧ SI (stepS recs v d).2 := by
  unfold stepS
  split
  · exact ⟨.refl v, h⟩
  split
  · exact ⟨.refl v, h⟩
  split
  · exact ⟨.refl v, h⟩
  rename_i a b c
  have hw : (d.Kind = 1 ∨ d.Kind = 3 ∨ d.Kind = 5) → In v.Copies d.Who := fun q => by unfold In; have := fun w => b ⟨q, w⟩; omega
  have hn : 2 < d.Kind → In v.Heals d.N := fun q => by unfold In; have := fun w => c ⟨q, w⟩; omega
  split
  · exact si_0 h
  split
  · rename_i k; exact si_1 h (hw (by omega))
  split
  · exact si_2 h
  split
  · rename_i k; exact si_3 h (hw (by omega)) (hn (by omega))
  split
  · rename_i k; exact si_4 h (hn (by omega))
  · exact si_5 h (hw (by omega)) (hn (by omega))
/-- most have ended: whoever chose later chose the same -/
theorem same_later {v : Vault} (h : SI v) {a : Heal} (ha : a ∈ v.Heals) (hm : v.Copies.length < 2 * a.Ends.length) : ∀ (k : Nat) (b : Heal), b ∈ v.Heals → b.Has = true → a.Epoch < b.Epoch → b.Epoch ≤ (k : Int) → b.Recs = a.Recs ∧ True
  | 0, b, hb, _, hlt, hk => by have := (h.hl a ha).e2; omega
  | k + 1, b, hb, hH, hlt, hk => by
    have ga := h.hl a ha
    have gb := h.hl b hb
    have hin : ∀ j ∈ b.Heard, In v.Copies j := fun j hj => by
      obtain ⟨t, ht⟩ := zip_l gb.ln hj
      exact (gb.sg _ ht).ij
    obtain ⟨j, j1, j2⟩ := meet (n := v.Copies.length) ga.en gb.hn (fun j hj => (ga.ed j hj).1) hin hm (gb.mj hH)
    obtain ⟨t, ht⟩ := zip_l gb.ln j2
    have h1 := h.kk a ha b hb hlt _ ht j1
    have h1 : a.Epoch ≤ t.Ended := h1
    obtain ⟨e, he, hc⟩ := gb.ch hH
    have h2 := he t (List.of_mem_zip ht).2
    have h3 := ga.e2
    rcases hc with hc | ⟨c1, c2, g, g1, g2, g3, g4⟩
    · omega
    · rcases Int.lt_or_eq_of_le (show a.Epoch ≤ e by omega) with q | q
      · have := (same_later h ha hm k g g1 g3 (by omega) (by omega)).1
        exact ⟨by rw [← g4, this], trivial⟩
      · have := inj_map h.ds ha g1 (by show a.Epoch = g.Epoch; omega)
        subst this
        exact ⟨g4.symm, trivial⟩
theorem fin_same {v : Vault} (h : SI v) {a b : Heal} (ha : a ∈ v.Heals) (hb : b ∈ v.Heals) (Ha : a.Has = true) (Hb : b.Has = true) (ma : v.Copies.length < 2 * a.Ends.length) (mb : v.Copies.length < 2 * b.Ends.length) : a.Recs = b.Recs := by
  have ga := (h.hl a ha).e2
  have gb := (h.hl b hb).e2
  rcases Int.lt_trichotomy a.Epoch b.Epoch with q | q | q
  · exact (same_later h ha ma b.Epoch.toNat b hb Hb q (by omega)).1.symm
  · rw [inj_map h.ds ha hb q]
  · exact (same_later h hb mb a.Epoch.toNat a ha Ha q (by omega)).1
/-- what is sure has been chosen -/
theorem sure_in {v : Vault} (h : SI v) {a : Heal} (ha : a ∈ v.Heals) (Ha : a.Has = true) {p : Int} (hp : In v.Took p) (hs : v.Copies.length < 2 * (lget v.Took p).length) : p < (a.Recs.length : Int) := by
  obtain ⟨Q, q1, q2, q3⟩ := (h.hl a ha).mq Ha
  obtain ⟨t1, t2⟩ := h.tr p hp
  obtain ⟨j, j1, j2⟩ := meet (n := v.Copies.length) q1 t1 (fun j hj => (q3 j hj).1) (fun j hj => (t2 j hj).1) q2 hs
  exact (q3 j j1).2.2 p hp j2
theorem si_vN {n : Int} : SI (vN n) := by
  refine ⟨rfl, fun p hp => by have := hp.2; simp [vN] at this; have := hp.1; omega, fun j hj => ?_, fun g hg => (by cases hg), by simp [vN], fun a ha => (by cases ha)⟩
  have := (List.mem_replicate.1 hj.mem).2
  rw [this]
  exact ⟨fun _ => ⟨by decide, rfl⟩, by decide, by decide, fun _ => List.nil_prefix, fun q => (by cases q)⟩
theorem si_all {recs : List (List UInt8)} {deeds : List Deed} {v0 : Vault} (h : SI v0) : ∀ k : Nat, SI (vS recs deeds v0 k)
  | 0 => h
  | k + 1 => (si_step (si_all h k)).2
theorem ev_all {recs : List (List UInt8)} {deeds : List Deed} {v0 : Vault} (h : SI v0) (k : Nat) : ∀ m : Nat, Ev (vS recs deeds v0 k) (vS recs deeds v0 (k + m))
  | 0 => .refl _
  | m + 1 => (ev_all h k m).trans (si_step (si_all h (k + m))).1
end G
end Go.Proofs.Yteckapomkemglaa
