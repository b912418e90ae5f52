/- Each is done once. -/
import Derived.Test.YtipeimcdjijkgaaPOnceDoes
namespace Go.Proofs.Ytipeimcdjijkgaa
open Go Go.Dm
set_option linter.unusedVariables false
set_option linter.unusedSimpArgs false
namespace G
theorem RS.iff {l : List Pair} : RS l ↔ l.length ≤ 1000 ∧ (∀ p ∈ l, rowFine p.Row ∧ p.Value.length ≤ 200) ∧ l.Pairwise (fun a b => Op.bytesLess a.Row b.Row = true) := by
  constructor
  · intro h
    refine ⟨h.len, all_lget.2 h.row, ?_⟩
    rw [List.pairwise_iff_getElem]
    intro i j hi hj hij
    have := h.up hij hj
    rwa [lget_nat l i hi, lget_nat l j hj] at this
  · rintro ⟨h1, h2, h3⟩
    refine ⟨h1, all_lget.1 h2, fun k hk => ?_⟩
    rw [List.pairwise_iff_getElem] at h3
    have := h3 k (k + 1) (by omega) hk (by omega)
    rwa [← lget_nat l k (by omega), ← lget_nat l (k + 1) hk] at this
theorem MS.iff {l : List Memo} : MS l ↔ l.length ≤ 1000 ∧ (∀ p ∈ l, numOk p.Client ∧ numOk p.Seq ∧ p.Said.length ≤ 201) ∧ l.Pairwise (fun a b => a.Client < b.Client) := by
  constructor
  · intro h
    refine ⟨h.len, all_lget.2 h.num, ?_⟩
    rw [List.pairwise_iff_getElem]
    intro i j hi hj hij
    have := h.up hij hj
    rwa [lget_nat l i hi, lget_nat l j hj] at this
  · rintro ⟨h1, h2, h3⟩
    refine ⟨h1, all_lget.1 h2, fun k hk => ?_⟩
    rw [List.pairwise_iff_getElem] at h3
    have := h3 k (k + 1) (by omega) hk (by omega)
    rwa [← lget_nat l k (by omega), ← lget_nat l (k + 1) hk] at this
theorem mem_drop_lget {α : Type} [Inhabited α] {l : List α} {x : α} {n : Nat} (h : x ∈ l.drop n) : ∃ k : Nat, n ≤ k ∧ k < l.length ∧ lget l (k : Int) = x := by
  obtain ⟨k, hk, e⟩ := mem_lget.1 h
  rw [List.length_drop] at hk
  have := lget_ldrop l (n : Int) (k : Int) (by omega)
  rw [ldrop_nat] at this
  refine ⟨n + k, by omega, by omega, ?_⟩
  rw [← e, this]
  congr 1
theorem At.mt {l : List Pair} {row : List UInt8} {pos : Nat} {f : Bool} (h : At l row pos f) : ∀ p ∈ l.take pos, Op.bytesLess p.Row row = true := by
  intro p hp
  obtain ⟨k, hk, e⟩ := (mem_take_lget h.le).1 hp
  rw [← e]; exact h.lo k hk
theorem At.md {l : List Pair} {row : List UInt8} {pos : Nat} {f : Bool} (h : At l row pos f) : ∀ p ∈ l.drop (pos + f.toNat), Op.bytesLess row p.Row = true := by
  intro p hp
  obtain ⟨k, h1, h2, e⟩ := mem_drop_lget hp
  rw [← e]; exact h.gt k h1 h2
theorem withR_fine {l : List Pair} (hs : RS l) {row v : List UInt8} {pos : Nat} {f : Bool} (h : At l row pos f) (hr : rowFine row) (hv : v.length ≤ 200) (is : Bool) (hl : (withR l row v pos f is).length ≤ 1000) : RS (withR l row v pos f is) := by
  obtain ⟨_, h2, h3⟩ := RS.iff.1 hs
  have h3t := h3.sublist (List.take_sublist pos l)
  have h3d := h3.sublist (List.drop_sublist (pos + f.toNat) l)
  refine RS.iff.2 ⟨hl, fun p hp => ?_, ?_⟩
  · unfold withR at hp
    rcases List.mem_append.1 hp with g | g
    · rcases List.mem_append.1 g with g | g
      · exact h2 p (List.mem_of_mem_take g)
      · cases is with
        | true => simp at g; subst g; exact ⟨hr, hv⟩
        | false => simp at g
    · exact h2 p (List.mem_of_mem_drop g)
  · unfold withR
    rw [List.pairwise_append, List.pairwise_append]
    refine ⟨⟨h3t, ?_, ?_⟩, h3d, ?_⟩
    · cases is <;> simp
    · intro a ha b hb
      cases is with
      | true => simp at hb; subst hb; exact h.mt a ha
      | false => simp at hb
    · intro a ha b hb
      rcases List.mem_append.1 ha with g | g
      · exact bl_trans (h.mt a g) (h.md b hb)
      · cases is with
        | true => simp at g; subst g; exact h.md b hb
        | false => simp at g
theorem calledF_fine {l : List Pair} (hs : RS l) {c : Call} (hc : callOk c) {pos : Nat} {f : Bool} (h : At l c.Row pos f) (hl : l.length + 1 ≤ 1000) : RS (calledF l c pos f).1 ∧ (calledF l c pos f).2.length ≤ 201 := by
  have hw := withR_len l c.Row c.Value pos f true
  have hw2 := withR_len l c.Row [] pos f false
  unfold calledF
  split
  · exact ⟨withR_fine hs h hc.2.1 hc.2.2.1 true (by omega), by simp⟩
  · split
    · exact ⟨hs, by simp⟩
    · split
      · exact ⟨hs, by simp⟩
      · rename_i hf
        split
        · have := (hs.row pos (h.is.1 (by simpa using hf)).1).2
          exact ⟨hs, by simp; omega⟩
        · exact ⟨withR_fine hs h hc.2.1 (by simp) false (by omega), by simp⟩
theorem MAt.mt {l : List Memo} {id : Int} {pos : Nat} {f : Bool} (h : MAt l id pos f) : ∀ p ∈ l.take pos, p.Client < id := by
  intro p hp
  obtain ⟨k, hk, e⟩ := (mem_take_lget h.le).1 hp
  rw [← e]; exact h.lo k hk
theorem MAt.md {l : List Memo} (hs : MS l) {id : Int} {pos : Nat} {f : Bool} (h : MAt l id pos f) : ∀ p ∈ l.drop (pos + f.toNat), id < p.Client := by
  intro p hp
  obtain ⟨k, h1, h2, e⟩ := mem_drop_lget hp
  rw [← e]
  cases hf : f with
  | true =>
    rw [hf] at h1
    have := h.is.1 hf
    rw [← this.2]
    exact hs.up (by simp at h1; omega) h2
  | false =>
    rw [hf] at h1
    have g := h.hi k (by simpa using h1) h2
    by_cases e : (lget l (k : Int)).Client = id
    · exfalso
      by_cases ek : k = pos
      · subst ek
        have := h.is.2 ⟨h2, e⟩
        rw [hf] at this; cases this
      · have h4 := hs.up (show pos < k by simp at h1; omega) h2
        exact h.hi pos (Nat.le_refl _) (by omega) (by omega)
    · omega
theorem withM_fine {l : List Memo} (hs : MS l) {m : Memo} {pos : Nat} {f : Bool} (h : MAt l m.Client pos f) (hm : numOk m.Client ∧ numOk m.Seq ∧ m.Said.length ≤ 201) (hl : (withM l m pos f).length ≤ 1000) : MS (withM l m pos f) := by
  obtain ⟨_, h2, h3⟩ := MS.iff.1 hs
  have h3t := h3.sublist (List.take_sublist pos l)
  have h3d := h3.sublist (List.drop_sublist (pos + f.toNat) l)
  refine MS.iff.2 ⟨hl, fun p hp => ?_, ?_⟩
  · unfold withM at hp
    rcases List.mem_append.1 hp with g | g
    · rcases List.mem_append.1 g with g | g
      · exact h2 p (List.mem_of_mem_take g)
      · simp at g; subst g; exact hm
    · exact h2 p (List.mem_of_mem_drop g)
  · unfold withM
    rw [List.pairwise_append, List.pairwise_append]
    refine ⟨⟨h3t, by simp, ?_⟩, h3d, ?_⟩
    · intro a ha b hb
      simp at hb; subst hb; exact h.mt a ha
    · intro a ha b hb
      rcases List.mem_append.1 ha with g | g
      · exact Int.lt_trans (h.mt a g) (h.md hs b hb)
      · simp at g; subst g; exact h.md hs b hb
theorem mput_len {κ ν : Type} [DecidableEq κ] (l : List (κ × ν)) (k : κ) (v : ν) : (mput l k v).length = if (mget l k).isSome = true then l.length else l.length + 1 := by
  induction l with
  | nil => simp [mput, mget]
  | cons p l ih =>
    rw [mput, mget]
    by_cases h : p.1 = k
    · rw [if_pos h, if_pos h]; simp
    · rw [if_neg h, if_neg h, List.length_cons, ih]
      split <;> simp
/-- what is known behind so many calls -/
structure Inv (k : Nat) (l : Ledger) (last : List (Int × Memo)) : Prop where
  r : RS l.Rows
  m : MS l.Memos
  rl : l.Rows.length ≤ k
  ml : l.Memos.length ≤ k
  a : ∀ m ∈ l.Memos, mget last m.Client = some m
  b : ∀ id m, mget last id = some m → m ∈ l.Memos ∧ m.Client = id
  len : last.length = l.Memos.length
theorem Inv.succ {k : Nat} {l : Ledger} {last : List (Int × Memo)} (h : Inv k l last) : Inv (k + 1) l last := ⟨h.r, h.m, by have := h.rl; omega, by have := h.ml; omega, h.a, h.b, h.len⟩
theorem Inv.get {k : Nat} {l : Ledger} {last : List (Int × Memo)} (h : Inv k l last) {id : Int} {mp : Nat} {mf : Bool} (ma : MAt l.Memos id mp mf) : mget last id = if mf = true then some (lget l.Memos (mp : Int)) else none := by
  cases hf : mf with
  | true =>
    have hp := ma.is.1 hf
    rw [if_pos rfl]
    have := h.a _ (lget_mem l.Memos (mp : Int) (by omega))
    rw [hp.2] at this; exact this
  | false =>
    rw [if_neg (by decide)]
    cases hg : mget last id with
    | none => rfl
    | some m =>
      exfalso
      obtain ⟨h1, h2⟩ := h.b id m hg
      have : m ∈ l.Memos.take mp ++ l.Memos.drop mp := by rw [List.take_append_drop]; exact h1
      rcases List.mem_append.1 this with g | g
      · have := ma.mt m g; omega
      · have := ma.md h.m m (by rw [hf]; simpa using g); omega
theorem Inv.put {k : Nat} {l : Ledger} {last : List (Int × Memo)} (h : Inv k l last) (hk : k + 1 ≤ 1000) {c : Call} (hc : callOk c) {mp rp : Nat} {mf rf : Bool} (ma : MAt l.Memos c.Client mp mf) (ra : At l.Rows c.Row rp rf) :
    Inv (k + 1) ⟨(calledF l.Rows c rp rf).1, withM l.Memos ⟨c.Client, c.Seq, (calledF l.Rows c rp rf).2⟩ mp mf⟩ (mput last c.Client ⟨c.Client, c.Seq, (calledF l.Rows c rp rf).2⟩) := by
  have hrl := h.rl
  have hml := h.ml
  have h1 := calledF_len l.Rows c rp rf
  obtain ⟨h2, h3⟩ := calledF_fine h.r hc ra (by omega)
  generalize (calledF l.Rows c rp rf) = R at *
  have h4 := withM_len (l := l.Memos) ⟨c.Client, c.Seq, R.2⟩ mp mf
  have hmem : ∀ m, m ∈ withM l.Memos ⟨c.Client, c.Seq, R.2⟩ mp mf ↔ m = ⟨c.Client, c.Seq, R.2⟩ ∨ (m ∈ l.Memos ∧ m.Client ≠ c.Client) := by
    intro m
    unfold withM
    rw [List.mem_append, List.mem_append, List.mem_singleton]
    constructor
    · rintro ((g | g) | g)
      · exact .inr ⟨List.mem_of_mem_take g, by have := ma.mt m g; omega⟩
      · exact .inl g
      · exact .inr ⟨List.mem_of_mem_drop g, by have := ma.md h.m m g; omega⟩
    · rintro (g | ⟨g, g2⟩)
      · exact .inl (.inr g)
      · have : m ∈ l.Memos.take mp ++ l.Memos.drop mp := by rw [List.take_append_drop]; exact g
        rcases List.mem_append.1 this with g | g
        · exact .inl (.inl g)
        · right
          cases hf : mf with
          | false => simpa using g
          | true =>
            have hp := ma.is.1 hf
            rw [lget_drop l.Memos mp hp.1] at g
            rcases List.mem_cons.1 g with g | g
            · exact absurd (by rw [g]; exact hp.2) g2
            · exact g
  refine ⟨h2, withM_fine h.m (m := ⟨c.Client, c.Seq, R.2⟩) ma ⟨hc.1.2.1, hc.1.2.2, h3⟩ (by omega), by show R.1.length ≤ _; omega, by show (withM _ _ _ _).length ≤ _; omega, fun m hm => ?_, fun id m hm => ?_, ?_⟩
  · rw [mget_mput]
    rcases (hmem m).1 hm with g | ⟨g, g2⟩
    · subst g; rw [if_pos rfl]
    · rw [if_neg (fun e => g2 e.symm)]; exact h.a m g
  · rw [mget_mput] at hm
    split at hm
    · rename_i e
      cases hm
      exact ⟨(hmem _).2 (.inl rfl), e⟩
    · rename_i e
      obtain ⟨a1, a2⟩ := h.b id m hm
      exact ⟨(hmem _).2 (.inr ⟨a1, fun g => e (g.symm.trans a2)⟩), a2⟩
  · rw [mput_len, h.get ma, h.len]
    show _ = (withM _ _ _ _).length
    have hle := ma.le
    cases hf : mf with
    | true => have hp := (ma.is.1 hf).1; simp [withM]; omega
    | false => simp [withM]; omega
theorem call_eta (c : Call) : (⟨c.Client, c.Seq, c.Kind, c.Row, c.Value, c.Old⟩ : Call) = c := rfl
theorem J1_true {k : Nat} {l : Ledger} {last : List (Int × Memo)} (h : Inv k l last) : law_OnceOnly_J1 (l, l.Rows, last) = some true := by
  unfold law_OnceOnly_J1
  dsimp only
  rw [prow_self _ (by have := h.r.len; omega), ob_some, h.len]
  simp
theorem step_only (calls : List Call) (hn : calls.length ≤ 300) (k : Nat) (hk : k < calls.length) {l : Ledger} {last : List (Int × Memo)} (h : Inv k l last) :
    ∃ l' last', law_OnceOnly_B1 calls (l, l.Rows, last, (k : Int)) = some (.inl (l', l'.Rows, last', ((k + 1 : Nat) : Int))) ∧ Inv (k + 1) l' last' := by
  have hw : w64 ((k : Int) + 1) = ((k + 1 : Nat) : Int) := by rw [w64_id (by omega) (by omega)]; omega
  have hJ : ∀ v2 : Ledger × List Pair × List (Int × Memo), law_OnceOnly_J2 (l, l.Rows, last, (k : Int)) v2 = some (.inl (v2.1, v2.2.1, v2.2.2, ((k + 1 : Nat) : Int))) := fun v2 => by
    unfold law_OnceOnly_J2; rw [hw]
  have hz := ledF_zero.2 ⟨h.r, h.m⟩
  have hrl := h.r.len
  have hml := h.m.len
  have hrk := h.rl
  have hmk := h.ml
  unfold law_OnceOnly_B1
  dsimp only
  rw [if_pos (d_t (by omega)), asrt_pos (by omega), call_eta]
  simp only [hJ]
  generalize lget calls (k : Int) = c
  dsimp only [lt]
  by_cases c0 : (R_CallFault c).Code = 0
  · obtain ⟨hc, e⟩ := callF_zero c0
    obtain ⟨rp, rf, ra⟩ := At.ex h.r c.Row
    obtain ⟨mp, mf, ma⟩ := MAt.ex h.m c.Client
    have hsq := hc.1.2.2
    unfold numOk at hsq
    have hg := h.get ma
    rw [do_eq h.r h.m hc e ma ra, ob_some, if_neg (n_f c0), called_eq h.r c ra]
    have hlast : (if mf = true then (lget l.Memos (mp : Int)).Seq else 0) = ((mget last c.Client).getD ((⟨0, 0, []⟩ : Memo) : Memo)).Seq := by
      rw [hg]; cases mf <;> rfl
    have hsb : 0 ≤ ((mget last c.Client).getD ((⟨0, 0, []⟩ : Memo) : Memo)).Seq ∧ ((mget last c.Client).getD ((⟨0, 0, []⟩ : Memo) : Memo)).Seq ≤ 1000000000 := by
      rw [← hlast]
      cases hf : mf with
      | true =>
        have := (h.m.num mp (ma.is.1 hf).1).2.1
        unfold numOk at this
        rw [if_pos rfl]; omega
      | false => rw [if_neg (by decide)]; omega
    have hw2 : w64 (((mget last c.Client).getD ((⟨0, 0, []⟩ : Memo) : Memo)).Seq + 1) = ((mget last c.Client).getD ((⟨0, 0, []⟩ : Memo) : Memo)).Seq + 1 := w64_id (by omega) (by omega)
    rw [hw2]
    by_cases c1 : c.Seq = ((mget last c.Client).getD ((⟨0, 0, []⟩ : Memo) : Memo)).Seq
    · have hf : mf = true := by
        cases hf : mf with
        | true => rfl
        | false => rw [hf, if_neg (by decide)] at hlast; omega
      have hs : (mget last c.Client).getD ((⟨0, 0, []⟩ : Memo) : Memo) = lget l.Memos (mp : Int) := by rw [hg, hf]; rfl
      rw [if_pos (d_t c1), doneF_same hf (by rw [hs] at c1; exact c1), hs]
      dsimp only
      rw [d_t (rfl : (0 : Int) = 0), d_t (rfl : (lget l.Memos (mp : Int)).Said = _), if_pos (by decide), led_self l (by omega) (by omega), ob_some, if_neg (by decide)]
      exact ⟨l, last, rfl, h.succ⟩
    · rw [if_neg (d_f c1)]
      have h0 : ¬ (mf = true ∧ c.Seq = (lget l.Memos (mp : Int)).Seq) := fun ⟨g1, g2⟩ => c1 (by rw [← hlast, if_pos g1]; exact g2)
      by_cases c2 : c.Seq = ((mget last c.Client).getD ((⟨0, 0, []⟩ : Memo) : Memo)).Seq + 1
      · have hcl := calledF_len l.Rows c rp rf
        have hwl := withM_len (l := l.Memos) ⟨c.Client, c.Seq, (calledF l.Rows c rp rf).2⟩ mp mf
        have hcf := calledF_fine h.r hc ra (by omega)
        rw [if_pos (d_t c2), doneF_done hlast h0 (by omega) (by omega) (by omega), ob_some]
        dsimp only
        rw [d_t (rfl : (0 : Int) = 0), d_t (rfl : (calledF l.Rows c rp rf).2 = _), if_pos (by decide), prow_self _ (by omega), ob_some, if_neg (by decide)]
        exact ⟨_, _, rfl, h.put (by omega) hc ma ra⟩
      · rw [if_neg (d_f c2)]
        by_cases c3 : c.Seq < ((mget last c.Client).getD ((⟨0, 0, []⟩ : Memo) : Memo)).Seq
        · rw [doneF_stale hlast h0 c3, if_neg (by decide)]
          exact ⟨l, last, rfl, h.succ⟩
        · rw [doneF_state hlast h0 c3 (by omega), if_neg (by decide)]
          exact ⟨l, last, rfl, h.succ⟩
  · rw [do_bad2 hz c0, ob_some, if_pos (n_t c0), if_neg (d_f c0)]
    exact ⟨l, last, rfl, h.succ⟩
theorem loop_only (calls : List Call) (hn : calls.length ≤ 300) : ∀ (m k : Nat), k + m = calls.length → ∀ (l : Ledger) (last : List (Int × Memo)), Inv k l last → law_OnceOnly_L1 calls (l, l.Rows, last, (k : Int)) = some true := by
  intro m
  induction m with
  | zero =>
    intro k e l last h
    refine loopO_inr ?_
    unfold law_OnceOnly_B1
    dsimp only
    rw [if_neg (d_f (by omega)), J1_true h]; rfl
  | succ m ih =>
    intro k e l last h
    obtain ⟨l', last', h1, h2⟩ := step_only calls hn k (by omega) h
    exact (loopO_inl h1).trans (ih (k + 1) (by omega) l' last' h2)
theorem OnceOnly_eq (calls : List Call) : law_OnceOnly calls = some true := by
  unfold law_OnceOnly
  rw [onceBegun_eq, ob_some, if_neg (by decide)]
  by_cases c : 300 < calls.length
  · rw [if_pos (d_t (by omega))]
  · rw [if_neg (d_f (by omega))]
    exact loop_only calls (by omega) calls.length 0 (by omega) lE [] ⟨⟨by decide, fun k hk => by simp [lE] at hk, fun k hk => by simp [lE] at hk⟩, ⟨by decide, fun k hk => by simp [lE] at hk, fun k hk => by simp [lE] at hk⟩, by decide, by decide, fun m hm => by simp [lE] at hm, fun id m hm => by simp [mget] at hm, rfl⟩
end G
end Go.Proofs.Ytipeimcdjijkgaa
