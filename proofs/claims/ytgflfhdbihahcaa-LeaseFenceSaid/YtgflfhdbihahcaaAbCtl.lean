/- The rules of control: a stack of items stands for what is still to be run. Over any program. -/
import Derived.Test.YtgflfhdbihahcaaAbDef
namespace Go.Ab
open Go

inductive It where
  | code (c : Code)
  | blk (id : Nat)
  | cut (J : S → Prop)

structure Cx where
  P : Program
  Qf : Exit → Act → World → Prop
  g : Gh
  N : Nat

def mean (C : Cx) : List It → Exit → Act → World → Prop
  | [] => C.Qf
  | .code c :: k => Exit.then (c.wp C.P (mean C k)) (mean C k)
  | .blk id :: k => Exit.inBlock id (mean C k)
  | .cut J :: k => Exit.then (fun a w => ∃ s, J s ∧ H C.g C.N s a w) (mean C k)

def Wk (C : Cx) (k : List It) (s : S) : Prop := ∀ a w, H C.g C.N s a w → mean C k .normal a w

def Fin (C : Cx) (s : S) : Prop := ∀ a w, H C.g C.N s a w → C.Qf .ret a w ∧ C.Qf .normal a w

def dstOk (N : Nat) (os : List Oper) : Bool := os.all fun o => match o.dst with | some d => decide (d < N) | none => true

def Ev (C : Cx) (all : List Oper) (k : List It) (os : List Oper) (s : S) : Prop :=
  dstOk C.N os = true → ∀ a w, H C.g C.N s a w → wpList C.P all.toArray (mean C k) os a w

variable {C : Cx} {k : List It} {s : S}

theorem Wk_seq {a b : Code} (h : Wk C (.code a :: .code b :: k) s) : Wk C (.code (.seq a b) :: k) s :=
  fun x w hx => wp_seq (h x w hx)
theorem Wk_skip (h : Wk C k s) : Wk C (.code .skip :: k) s := fun x w hx => wp_skip (h x w hx)
theorem Wk_block {id : Nat} {c : Code} (h : Wk C (.code c :: .blk id :: k) s) : Wk C (.code (.block id c) :: k) s :=
  fun x w hx => wp_block (h x w hx)
theorem Wk_blk {id : Nat} (h : Wk C k s) : Wk C (.blk id :: k) s := fun x w hx => h x w hx

theorem mean_ret (C : Cx) (a : Act) (w : World) (h : C.Qf .ret a w) : ∀ k, mean C k .ret a w
  | [] => h
  | .code _ :: k => mean_ret C a w h k
  | .blk _ :: k => mean_ret C a w h k
  | .cut _ :: k => mean_ret C a w h k
theorem mean_outgrown (C : Cx) (a : Act) (w : World) (h : C.Qf .outgrown a w) : ∀ k, mean C k .outgrown a w
  | [] => h
  | .code _ :: k => mean_outgrown C a w h k
  | .blk _ :: k => mean_outgrown C a w h k
  | .cut _ :: k => mean_outgrown C a w h k
theorem Wk_ret (h : Fin C s) : Wk C (.code .ret :: k) s := fun x w hx => wp_ret (mean_ret C x w (h x w hx).1 k)
theorem Wk_end (h : Fin C s) : Wk C [] s := fun x w hx => (h x w hx).2

def popTo (id : Nat) : List It → Option (List It)
  | [] => none
  | .blk i :: k => if i = id then some k else popTo id k
  | .code _ :: k => popTo id k
  | .cut _ :: k => popTo id k

theorem mean_exit {id : Nat} {a : Act} {w : World} : ∀ {k k' : List It}, popTo id k = some k' → mean C k' .normal a w → mean C k (.exit id) a w
  | [], _, h, _ => by simp [popTo] at h
  | .code _ :: k, _, h, hm => mean_exit (k := k) h hm
  | .cut _ :: k, _, h, hm => mean_exit (k := k) h hm
  | .blk i :: k, _, h, hm => by
    simp only [popTo] at h
    simp only [mean, Exit.inBlock]
    by_cases hi : i = id
    · rw [if_pos hi] at h; cases h; rw [if_pos hi.symm]; exact hm
    · rw [if_neg hi] at h; rw [if_neg (fun e => hi e.symm)]; exact mean_exit h hm
theorem Wk_exit {id : Nat} {k' : List It} (hp : popTo id k = some k') (h : Wk C k' s) : Wk C (.code (.exit id) :: k) s :=
  fun x w hx => wp_exit (mean_exit hp (h x w hx))

theorem eval_slot {g : Gh} {N : Nat} {a : Act} {w : World} (h : H g N s a w) {i : Nat} {x : AV} (hi : aget s.fr i = some x) :
    ∃ M E, St g N M E s a.tmps w ∧ i < N ∧ Rel M E (a.eval (.tmp i)) x := by
  obtain ⟨_, M, E, hs⟩ := h
  exact ⟨M, E, hs, hs.fr i x hi⟩

theorem Rel.bool_inv {M : Mem} {E : Env} {v : Value} {b : Bool} (h : Rel M E v (.bool b)) : v = .bool b := by
  cases h with
  | cell h => cases h with
    | pure h => cases h; rfl

theorem Wk_true {c : Nat} {x y : Code} (hc : aget s.fr c = some (.bool true)) (h : Wk C (.code x :: k) s) : Wk C (.code (.cond (.tmp c) x y) :: k) s := by
  intro a w hx
  obtain ⟨M, E, hs, _, hr⟩ := eval_slot hx hc
  exact wp_cond_true hr.bool_inv (h a w hx)
theorem Wk_false {c : Nat} {x y : Code} (hc : aget s.fr c = some (.bool false)) (h : Wk C (.code y :: k) s) : Wk C (.code (.cond (.tmp c) x y) :: k) s := by
  intro a w hx
  obtain ⟨M, E, hs, _, hr⟩ := eval_slot hx hc
  exact wp_cond_false hr.bool_inv (h a w hx)

theorem H.setLit {g : Gh} {N : Nat} {a : Act} {w : World} {c : Nat} {b t : Bool} (h : H g N s a w) (hc : aget s.fr c = some (.bool b)) (hb : b = t) :
    H g N { s with fr := aput s.fr c (.bool t) } a w := by
  subst hb
  obtain ⟨hd, M, E, hs⟩ := h
  refine ⟨hd, M, E, { hs with fr := fun i av hi => ?_ }⟩
  simp only [get_put] at hi
  split at hi
  · cases hi; rename_i e; subst e; exact hs.fr _ _ hc
  · exact hs.fr i av hi

/-- a bool that is not known: both ways -/
theorem Wk_split {c : Nat} {x y : Code} {b : Bool} (hc : aget s.fr c = some (.bool b))
    (ht : b = true → Wk C (.code x :: k) { s with fr := aput s.fr c (.bool true) })
    (hf : b = false → Wk C (.code y :: k) { s with fr := aput s.fr c (.bool false) }) : Wk C (.code (.cond (.tmp c) x y) :: k) s := by
  intro a w hx
  obtain ⟨M, E, hs, _, hr⟩ := eval_slot hx hc
  cases b with
  | true => exact wp_cond_true hr.bool_inv (ht rfl a w (hx.setLit hc rfl))
  | false => exact wp_cond_false hr.bool_inv (hf rfl a w (hx.setLit hc rfl))

theorem Wk_cut {J : S → Prop} {s' : S} (hw : ∀ a w, H C.g C.N s a w → H C.g C.N s' a w) (hJ : J s') : Wk C (.cut J :: k) s :=
  fun a w hx => ⟨s', hJ, hw a w hx⟩

/-- what stands behind a join: prove it once -/
theorem Wk_join {x : It} (J : S → Prop) (h1 : Wk C (x :: .cut J :: k) s) (h2 : ∀ s', J s' → Wk C k s') : Wk C (x :: k) s := by
  intro a w hx
  have hm := h1 a w hx
  have key : ∀ e a w, mean C (.cut J :: k) e a w → mean C k e a w := by
    intro e a w he
    cases e with
    | normal => obtain ⟨s', hJ, hs'⟩ := he; exact h2 s' hJ a w hs'
    | _ => exact he
  cases x with
  | code c => exact wp_mono hm key
  | blk id => exact key _ _ _ hm
  | cut J' => exact hm

open Classical in
theorem Wk_loop {body : Code} (I : S → Prop) (μ : S → Nat) (h0 : I s)
    (hr : ∀ s, I s → Wk C (.code body :: .cut (fun s' => I s' ∧ μ s' < μ s) :: k) s) : Wk C (.code (.loop body) :: k) s := by
  intro a w hx
  let Inv : Act → World → Nat → Prop := fun a w n => ∃ s, I s ∧ H C.g C.N s a w ∧ μ s = n
  have least : ∀ a w, (∃ n, Inv a w n) → ∃ n, Inv a w n ∧ ∀ m, Inv a w m → n ≤ m := by
    intro a w ⟨n, hn⟩
    induction n using Nat.strongRecOn with
    | _ n ih =>
      by_cases h : ∃ m, m < n ∧ Inv a w m
      · obtain ⟨m, hm, hi⟩ := h; exact ih m hm hi
      · exact ⟨n, hn, fun m hm => Nat.le_of_not_lt fun hlt => h ⟨m, hlt, hm⟩⟩
  let mu : Act → World → Nat := fun a w => if h : ∃ n, Inv a w n then Classical.choose (least a w h) else 0
  have hmu : ∀ a w (h : ∃ n, Inv a w n), Inv a w (mu a w) ∧ ∀ m, Inv a w m → mu a w ≤ m := by
    intro a w h
    have := Classical.choose_spec (least a w h)
    simp only [mu, dif_pos h]
    exact this
  refine wp_loop (fun a w => ∃ n, Inv a w n) mu ⟨_, s, h0, hx, rfl⟩ ?_
  intro a w hI
  obtain ⟨s1, hI1, hH1, hm1⟩ := (hmu a w hI).1
  have hb := hr s1 hI1 a w hH1
  refine wp_mono hb fun e a' w' he => ?_
  cases e with
  | normal =>
    obtain ⟨s2, ⟨hI2, hlt⟩, hH2⟩ := he
    refine ⟨⟨_, s2, hI2, hH2, rfl⟩, ?_⟩
    have := (hmu a' w' ⟨_, s2, hI2, hH2, rfl⟩).2 _ ⟨s2, hI2, hH2, rfl⟩
    omega
  | _ => exact he

theorem Ev_nil {all : List Oper} (h : Wk C k s) : Ev C all k [] s := fun _ a w hx => wpList_nil (h a w hx)
theorem Wk_region {id : Nat} {l : List Oper} (hN : dstOk C.N l = true) (h : Ev C l k l s) : Wk C (.code (.region id l.toArray false) :: k) s :=
  fun a w hx => wp_region_lit (h hN a w hx)

/-- one operation, from a state to a state -/
def Does (C : Cx) (o : Oper) (s s' : S) : Prop :=
  ∀ a w, H C.g C.N s a w → ∃ v w', ((execOp a.eval o).run C.P w = .ok (.value v) w' ∨ ((execOp a.eval o).run C.P w = .ok .skip w' ∧ v = undef)) ∧ H C.g C.N s' (a.put o.dst v) w'

theorem dstOk_cons {N : Nat} {o : Oper} {os : List Oper} (h : dstOk N (o :: os) = true) : (∀ d, o.dst = some d → d < N) ∧ dstOk N os = true := by
  simp only [dstOk, List.all_cons, Bool.and_eq_true] at h
  refine ⟨fun d hd => ?_, h.2⟩
  have := h.1
  rw [hd] at this
  simpa using this

theorem Ev_does {all : List Oper} {o : Oper} {os : List Oper} {s' : S} (hg : ∀ a w, H C.g C.N s a w → Region.wanted o (yielded all.toArray a.tmps) = true)
    (h : (∀ d, o.dst = some d → d < C.N) → Does C o s s') (hE : Ev C all k os s') : Ev C all k (o :: os) s := by
  intro hdst
  obtain ⟨hd, hdst⟩ := dstOk_cons hdst
  have h := h hd
  have hE := hE hdst
  intro a w hx
  refine wpList_step fun K hK => ?_
  rw [if_pos (hg a w hx)]
  obtain ⟨v, w', hrun, hH⟩ := h a w hx
  unfold Oper.wp
  rcases hrun with hrun | ⟨hrun, rfl⟩
  · rw [hrun, Oper.upon_value]; exact hK _ _ (hE _ _ hH)
  · rw [hrun, Oper.upon_skip]; exact hK _ _ (hE _ _ hH)

theorem Ev_skip {all : List Oper} {o : Oper} {os : List Oper} (hg : ∀ a w, H C.g C.N s a w → Region.wanted o (yielded all.toArray a.tmps) = false)
    {d : Nat} (hd : o.dst = some d) (hE : Ev C all k os { s with fr := aput s.fr d (.tup []) }) : Ev C all k (o :: os) s := by
  intro hdst
  obtain ⟨hd', hdst⟩ := dstOk_cons hdst
  have hN := hd' d hd
  have hE := hE hdst
  intro a w hx
  refine wpList_step fun K hK => ?_
  rw [if_neg (by rw [hg a w hx]; simp)]
  refine hK _ _ (hE _ _ ?_)
  obtain ⟨hdf, M, E, hs⟩ := hx
  rw [hd]
  refine ⟨hdf, M, E, { hs with size := by simpa [Act.put] using hs.size, fr := fun i av hi => ?_ }⟩
  simp only [get_put] at hi
  split at hi
  · cases hi; rename_i e; subst e
    refine ⟨hN, ?_⟩
    have hsz : i < a.tmps.size := by rw [hs.size]; exact hN
    have e : (a.put (some i) undef).tmps.getD i undef = undef := by
      simp [Act.put, Array.getD_eq_getD_getElem?, hsz]
    rw [e]
    exact .tup [] [] rfl (fun j v c hv _ => by simp at hv)
  · rename_i hne
    obtain ⟨h1, h2⟩ := hs.fr i av hi
    refine ⟨h1, ?_⟩
    simp only [Act.put, Array.getD_eq_getD_getElem?] at h2 ⊢
    rw [Array.getElem?_setIfInBounds_ne (fun e => hne e.symm)]
    exact h2

end Go.Ab
