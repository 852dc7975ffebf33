/-
  The executor's regions that draw their order, on.
-/
import Derived.Test.YtagccbpjpcnmeaaGreatDoorEd
set_option linter.unusedVariables false
set_option linter.unusedSimpArgs false
namespace Go.Proofs.YtagccbpjpcnmeaaGreatDoor.Ex
open Go

def Listed (l : Array Bool) (i : Nat) : Prop := l.getD i false = true

/-- Behind whatever is done, what it asks is done. -/
def Closed (ops : Array Oper) (l : Array Bool) : Prop := ∀ i o, ops[i]? = some o → Listed l i → ∀ e ∈ o.after, Region.binds .any e = true → Listed l e.on

theorem listed_set {l : Array Bool} {i : Nat} (hi : i < l.size) (k : Nat) : Listed (l.setIfInBounds i true) k ↔ Listed l k ∨ k = i := by
  unfold Listed
  by_cases h : i = k
  · subst h; simp [Array.getD, hi]
  · have : ¬ k = i := fun e => h e.symm
    simp only [Array.getD_eq_getD_getElem?, Array.getElem?_setIfInBounds_ne h, this, or_false]

theorem ready_mem {ops : Array Oper} {l : Array Bool} {i : Nat} (h : i ∈ Region.ready .any ops l) (hs : l.size = ops.size) : ¬ Listed l i ∧ i < ops.size ∧ ∃ o, ops[i]? = some o ∧ ∀ e ∈ o.after, Region.binds .any e = true → Listed l e.on := by
  unfold Region.ready at h
  simp only [List.mem_filter, List.mem_range, Bool.and_eq_true, Bool.not_eq_true'] at h
  obtain ⟨hi, h1, h2⟩ := h
  refine ⟨?_, hi, ops[i], by simp [hi], ?_⟩
  · unfold Listed
    have hl : i < l.size := by omega
    simp [Array.getD, hl] at h1 ⊢
    exact h1
  · intro e he hb
    rw [Array.getElem?_eq_getElem hi] at h2
    simp only [Option.map_some, Option.getD_some, Array.all_eq_true_iff_forall_mem, Bool.or_eq_true, Bool.not_eq_true'] at h2
    rcases h2 e he with h3 | h3
    · rw [hb] at h3; cases h3
    · exact h3

theorem ready_nil {ops : Array Oper} {l : Array Bool} (h : Region.ready .any ops l = []) (hs : l.size = ops.size) (hb : ∀ i o, ops[i]? = some o → ∀ e ∈ o.after, Region.binds .any e = true → e.on < i) : ∀ i, i < ops.size → Listed l i := by
  intro i
  induction i using Nat.strongRecOn with
  | _ i ih =>
    intro hi
    cases hl : l.getD i false with
    | true => exact hl
    | false =>
      exfalso
      have hil : i < l.size := by omega
      have : i ∈ Region.ready .any ops l := by
        unfold Region.ready
        simp only [List.mem_filter, List.mem_range, Bool.and_eq_true, Bool.not_eq_true']
        refine ⟨hi, ?_, ?_⟩
        · simp [Array.getD, hil] at hl ⊢; exact hl
        · rw [Array.getElem?_eq_getElem hi]
          simp only [Option.map_some, Option.getD_some, Array.all_eq_true_iff_forall_mem, Bool.or_eq_true, Bool.not_eq_true']
          intro e he
          cases hbe : Region.binds .any e with
          | false => exact .inl rfl
          | true =>
            have hlt := hb i ops[i] (by simp [hi]) e he hbe
            exact .inr (ih e.on hlt (by omega))
      rw [h] at this
      cases this

def left (ops : Array Oper) (l : Array Bool) : Nat := (List.range ops.size).countP fun i => !l.getD i true

theorem left_set {ops : Array Oper} {l : Array Bool} {i : Nat} (hi : i < ops.size) (hs : l.size = ops.size) (hl : ¬ Listed l i) : left ops (l.setIfInBounds i true) < left ops l := by
  have hil : i < l.size := by omega
  have hun : l.getD i true = false := by
    unfold Listed at hl
    simp [Array.getD, hil] at hl ⊢
    exact hl
  unfold left
  have hle : ∀ r : List Nat, (r.countP fun k => !(l.setIfInBounds i true).getD k true) ≤ r.countP fun k => !l.getD k true := fun r => List.countP_mono_left fun k _ hk => by
    by_cases hij : i = k
    · subst hij; simp [Array.getD, hil] at hk
    · simp only [Array.getD_eq_getD_getElem?, Array.getElem?_setIfInBounds_ne hij] at hk ⊢; exact hk
  have hsplit : List.range ops.size = List.range i ++ (i :: (List.range ops.size).drop (i + 1)) := by
    conv => lhs; rw [← List.take_append_drop i (List.range ops.size)]
    rw [List.take_range, Nat.min_eq_left (Nat.le_of_lt hi)]
    congr 1
    rw [List.drop_eq_getElem_cons (by simpa using hi)]
    simp
  rw [hsplit, List.countP_append, List.countP_append, List.countP_cons, List.countP_cons]
  have h1 : (!(l.setIfInBounds i true).getD i true) = false := by simp [Array.getD, hil]
  have h2 : (!l.getD i true) = true := by rw [hun]; rfl
  have := hle (List.range i)
  have := hle ((List.range ops.size).drop (i + 1))
  simp only [h1, h2, if_true, Bool.false_eq_true, if_false]
  omega

section
variable {E : Env} {K : Know E} {B : World} {ops : Array Oper} {rec_ : Rec}

/-- Two operations of one number are one. -/
theorem dops_inj {d e : DOp} (hd : d ∈ dopsOf ops.toList 0) (he : e ∈ dopsOf ops.toList 0) (h : d.i = e.i) : d = e := by
  obtain ⟨j, h1, h2, h3, h4⟩ := dops_mem _ _ _ hd
  obtain ⟨k, h5, h6, h7, h8⟩ := dops_mem _ _ _ he
  have : j = k := by omega
  subst this
  have ho : d.o = e.o := Option.some.inj (h2.symm.trans h6)
  obtain ⟨o, i, dep, ch⟩ := d
  obtain ⟨o', i', dep', ch'⟩ := e
  simp only at *
  subst ho
  rw [h3, h4, h7, h8, h]

theorem dop_at {d : DOp} (hd : d ∈ dopsOf ops.toList 0) : ops[d.i]? = some d.o ∧ d.dep = depMask d.o.after.toList ∧ d.cheap = cheapOp d.o.op := by
  obtain ⟨j, h1, h2, h3, h4⟩ := dops_mem _ _ _ hd
  refine ⟨?_, h3, h4⟩
  rw [h1, Nat.zero_add]
  simpa using h2

structure Fit (ops : Array Oper) (ds : List DOp) : Prop where
  back : ∀ d ∈ ds, ∀ k, d.dep.testBit k = true → k < d.i
  one : ∀ d ∈ ds, ∀ e ∈ ds, ∀ t, d.o.dst = some t → e.o.dst = some t → e.i = d.i
  looks : ∀ d ∈ ds, ∀ e ∈ ds, ∀ t, d.o.dst = some t → t ∈ e.o.looksAt ops → e.dep.testBit d.i = true ∨ (d.cheap = false ∧ (e.i = d.i ∨ (must ds (2 ^ d.i)).testBit e.i = true))

theorem fit_of {ds : List DOp} (h : fitD ops ds = true) : Fit ops ds := by
  unfold fitD at h
  rw [List.all_eq_true] at h
  refine ⟨fun d hd k hk => ?_, fun d hd e he t h1 h2 => ?_, fun d hd e he t h1 h2 => ?_⟩
  · have := h d hd
    rw [Bool.and_eq_true] at this
    have hlt : d.dep < 2 ^ d.i := Nat.le_of_ble_eq_true this.1
    rcases Nat.lt_or_ge k d.i with hc | hc
    · exact hc
    · have : d.dep.testBit k = false := Nat.testBit_lt_two_pow (Nat.lt_of_lt_of_le hlt (Nat.pow_le_pow_right (by decide) hc))
      rw [this] at hk; cases hk
  · have := h d hd
    rw [Bool.and_eq_true, h1] at this
    have := List.all_eq_true.1 this.2 e he
    rw [Bool.and_eq_true, Bool.or_eq_true] at this
    rcases this.1 with h3 | h3
    · exact nb h3
    · rw [h2] at h3; simp at h3
  · have := h d hd
    rw [Bool.and_eq_true, h1] at this
    have := List.all_eq_true.1 this.2 e he
    rw [Bool.and_eq_true] at this
    have h3 := this.2
    have hc : (e.o.looksAt ops).contains t = true := by simpa using h2
    rw [hc] at h3
    simp only [Bool.not_true, Bool.false_or, Bool.or_eq_true, Bool.and_eq_true, Bool.not_eq_true'] at h3
    rcases h3 with h3 | ⟨h3, h4⟩
    · exact .inl h3
    · exact .inr ⟨h3, h4.imp nb id⟩

/-- How the executor stands beside a run that has done some of the operations. -/
structure Nd (E : Env) (K : Know E) (B : World) (rec_ : Rec) (ops : Array Oper) (ds : List DOp) (dm mu : Nat) (a : AAct) (S : St) (l : Array Bool) (act : Act) (σ : Sig) (w : World) : Prop where
  lsize : l.size = ops.size
  closed : Closed ops l
  l1 : ∀ i, Listed l i → dm.testBit i = true
  l2 : ∀ d ∈ ds, d.cheap = false → dm.testBit d.i = true → Listed l d.i
  dmc : ∀ d ∈ ds, dm.testBit d.i = true → ∀ k, d.dep.testBit k = true → dm.testBit k = true
  mul : ∀ k, mu.testBit k = true → Listed l k
  n1 : ∀ d ∈ ds, d.cheap = true → dm.testBit d.i = true → mu.testBit d.i = false → ∃ a0 v S0, a0.g = E.G0 ∧ oneA E rec_ ops d.o a0 S = some (v, S0) ∧
    (∀ s ∈ d.o.looksAt ops, ∀ u, a0.get s = some u → a.get s = some u) ∧ (∀ t, d.o.dst = some t → t < a.n ∧ ∀ u, a.get t = some u → u = v)
  defers : act.defers = []
  size : act.tmps.size = a.n
  g : a.g = E.G0
  slot : ∀ s v, a.get s = some v → (∀ d ∈ ds, d.cheap = true → d.o.dst = some s → Listed l d.i) → R σ v (act.tmps.getD s undef)
  rep : Rep E K B σ S w

theorem pass_ok {ds : List DOp} (hds : ds = dopsOf ops.toList 0) (hfit : Fit ops ds) {mu : Nat} {S : St} {l : Array Bool} {act : Act} {σ : Sig} {w : World} : ∀ (r : List DOp) (dm : Nat) (a : AAct) (dm' : Nat) (a' : AAct), (∀ d ∈ r, d ∈ ds) →
    passA E rec_ ops r dm a S = some (dm', a') → Nd E K B rec_ ops ds dm mu a S l act σ w → Nd E K B rec_ ops ds dm' mu a' S l act σ w
  | [], dm, a, dm', a', _, hp, h => by
    unfold passA at hp
    cases hp
    exact h
  | d :: r, dm, a, dm', a', hr, hp, h => by
    have hd := hr d (List.mem_cons_self ..)
    have hr' : ∀ e ∈ r, e ∈ ds := fun e he => hr e (List.mem_cons_of_mem _ he)
    unfold passA at hp
    split at hp
    · rename_i hc
      simp only [Bool.and_eq_true, Bool.not_eq_true'] at hc
      obtain ⟨⟨hch, hnot⟩, hdep⟩ := hc
      split at hp
      · rename_i v S0 h1
        split at hp
        · rename_i a1 hput
          obtain ⟨p1, p2, p3, p4, p5, p6⟩ := put_eq hput
          have hl : ¬ Listed l d.i := fun hl => by rw [h.l1 _ hl] at hnot; cases hnot
          refine pass_ok hds hfit r (Nat.lor dm (2 ^ d.i)) a1 dm' a' hr' hp ?_
          constructor
          · exact h.lsize
          · exact h.closed
          · intro i hi; exact (lor_bit _ _ _).2 (.inl (h.l1 i hi))
          · intro e he hec hb
            rcases (lor_bit _ _ _).1 hb with hb | hb
            · exact h.l2 e he hec hb
            · have : e = d := by subst hds; exact dops_inj he hd hb.symm
              subst this
              rw [hch] at hec; cases hec
          · intro e he hb k hk
            rcases (lor_bit _ _ _).1 hb with hb | hb
            · exact (lor_bit _ _ _).2 (.inl (h.dmc e he hb k hk))
            · have : e = d := by subst hds; exact dops_inj he hd hb.symm
              subst this
              exact (lor_bit _ _ _).2 (.inl (within_bit hdep hk))
          · exact h.mul
          · intro e he hec hb hmu
            rcases (lor_bit _ _ _).1 hb with hb | hb
            · obtain ⟨a0, v0, S1, q1, q2, q3, q4⟩ := h.n1 e he hec hb hmu
              have hne : ∀ s, s ∈ e.o.looksAt ops → d.o.dst ≠ some s := fun s hs hds' => by
                rcases hfit.looks d hd e he s hds' hs with h3 | ⟨h3, _⟩
                · have := h.dmc e he hb _ h3
                  rw [this] at hnot; cases hnot
                · rw [hch] at h3; cases h3
              refine ⟨a0, v0, S1, q1, q2, fun s hs u hu => p5 s u (hne s hs) (q3 s hs u hu), fun t ht => ?_⟩
              obtain ⟨q5, q6⟩ := q4 t ht
              refine ⟨by rw [p1]; exact q5, fun u hu => ?_⟩
              rcases p3 t u hu with ⟨h3, _⟩ | ⟨_, h3⟩
              · have := hfit.one d hd e he t h3 ht
                rw [this] at hb
                rw [hb] at hnot; cases hnot
              · exact q6 u h3
            · have : e = d := by subst hds; exact dops_inj he hd hb.symm
              subst this
              refine ⟨a, v, S0, h.g, h1, fun s hs u hu => p5 s u (fun hds' => ?_) hu, fun t ht => ⟨by rw [p1]; exact p4 t ht, fun u hu => ?_⟩⟩
              · rcases hfit.looks e hd e hd s hds' hs with h3 | ⟨h3, _⟩
                · exact absurd (hfit.back e hd _ h3) (Nat.lt_irrefl _)
                · rw [hch] at h3; cases h3
              · have := p6 t ht
                rw [this] at hu
                exact (Option.some.inj hu).symm
          · exact h.defers
          · rw [p1]; exact h.size
          · rw [p2]; exact h.g
          · intro s u hu hw
            rcases p3 s u hu with ⟨h3, _⟩ | ⟨_, h3⟩
            · exact absurd (hw d hd hch h3) hl
            · exact h.slot s u h3 hw
          · exact h.rep
        · cases hp
      · cases hp
    · exact pass_ok hds hfit r dm a dm' a' hr' hp h

theorem again_ok : ∀ (r : List DOp) {dm mu : Nat} {a : AAct} {S : St}, againA E rec_ ops r dm mu a S = true → ∀ d ∈ r, d.cheap = true → dm.testBit d.i = true → mu.testBit d.i = false →
    ∃ v S0, oneA E rec_ ops d.o a S = some (v, S0) ∧ ∀ t, d.o.dst = some t → ∃ u, a.get t = some u ∧ u = v
  | [], dm, mu, a, S, _, d, hd, _, _, _ => by cases hd
  | e :: r, dm, mu, a, S, h, d, hd, hc, hb, hm => by
    unfold againA at h
    split at h
    · rename_i hcc
      split at h
      · rename_i v S0 h1
        rw [Bool.and_eq_true] at h
        rcases List.mem_cons.1 hd with rfl | hd
        · refine ⟨v, S0, h1, fun t ht => ?_⟩
          have h2 := h.1
          rw [ht] at h2
          simp only at h2
          split at h2
          · rename_i u hu
            exact ⟨u, hu, AVal.eqv_eq u v h2⟩
          · cases h2
        · exact again_ok r h.2 d hd hc hb hm
      · cases h
    · rename_i hcc
      rcases List.mem_cons.1 hd with rfl | hd
      · rw [hc, hb, hm] at hcc; cases hcc
      · exact again_ok r h d hd hc hb hm
end
end Go.Proofs.YtagccbpjpcnmeaaGreatDoor.Ex
