/-
  The executor is right: what it works out is what the program does, whatever is drawn.
-/
import Derived.Test.YtagccbpjpcnmeaaGreatDoorEe
set_option linter.unusedVariables false
set_option linter.unusedSimpArgs false
namespace Go.Proofs.YtagccbpjpcnmeaaGreatDoor.Ex
open Go

section
variable {E : Env} {K : Know E} {B : World} {ops : Array Oper} {rec_ : Rec}

theorem lor_any (a b k : Nat) : (Nat.lor a b).testBit k = true ↔ a.testBit k = true ∨ b.testBit k = true := by
  rw [show Nat.lor a b = a ||| b from rfl, Nat.testBit_or, Bool.or_eq_true]

theorem draw_any (hsum : SummOK E K B) (hP : Plain E.P) (hrec : RecOK E K B rec_) {ds : List DOp} (hds : ds = dopsOf ops.toList 0) (hfit : Fit ops ds) {multi : Bool} {base : Nat} {Q : Exit → Act → World → Prop} {r : AAct × St} :
    ∀ (fuel : Nat) (n dm mu : Nat) (a : AAct) (S : St) (l : Array Bool) (act : Act) (σ : Sig) (w : World),
      tailA E rec_ ops ds multi base (drawA E rec_ ops ds multi base n) dm mu a S = some r →
      ds.all (fun d => !d.cheap || Nat.testBit dm d.i || !within d.dep dm) = true →
      Nd E K B rec_ ops ds dm mu a S l act σ w → left ops l ≤ fuel →
      (∀ τ act' w', σ.le τ → RA E τ r.1 act' → Rep E K B τ r.2 w' → Q .normal act' w') → wpAny E.P .any ops Q fuel l act w := by
  have back : ∀ i o, ops[i]? = some o → ∀ e ∈ o.after, Region.binds .any e = true → e.on < i := by
    intro i o ho e he hb
    obtain ⟨d, h1, h2, h3⟩ := dops_has ops.toList 0 i o (by simpa using ho)
    have hd : d ∈ ds := by rw [hds]; exact h1
    obtain ⟨_, h5, _⟩ := dop_at (ops := ops) h1
    have := hfit.back d hd e.on (by rw [h5]; exact (depMask_bit _ _).2 ⟨e, by rw [h3]; simpa using he, hb, rfl⟩)
    omega
  have at_ : ∀ d ∈ ds, ops[d.i]? = some d.o ∧ d.dep = depMask d.o.after.toList ∧ d.cheap = cheapOp d.o.op := fun d hd => by subst hds; exact dop_at hd
  have inj : ∀ d ∈ ds, ∀ e ∈ ds, d.i = e.i → d = e := fun d hd e he h => by subst hds; exact dops_inj hd he h
  -- where nothing is left
  have fin : ∀ (n dm mu : Nat) (a : AAct) (S : St) (l : Array Bool) (act : Act) (σ : Sig) (w : World),
      tailA E rec_ ops ds multi base (drawA E rec_ ops ds multi base n) dm mu a S = some r → Nd E K B rec_ ops ds dm mu a S l act σ w → (∀ i, i < ops.size → Listed l i) →
      (∀ τ act' w', σ.le τ → RA E τ r.1 act' → Rep E K B τ r.2 w' → Q .normal act' w') → Q .normal act w := by
    intro n dm mu a S l act σ w ht h hall hq
    have hdl : ∀ d ∈ ds, Listed l d.i := fun d hd => hall _ (Array.getElem?_eq_some_iff.1 (at_ d hd).1).1
    unfold tailA at ht
    have hnil : ds.filter (fun d => !d.cheap && !Nat.testBit dm d.i && within d.dep dm) = [] := by
      rw [List.filter_eq_nil_iff]
      intro d hd hc
      simp only [Bool.and_eq_true, Bool.not_eq_true'] at hc
      rw [h.l1 _ (hdl d hd)] at hc
      exact absurd hc.1.2 (by simp)
    rw [hnil] at ht
    simp only at ht
    split at ht
    · cases ht
      refine hq σ act w (.refl σ) ⟨h.defers, h.size, h.g, fun s v hs => h.slot s v hs fun d hd _ _ => hdl d hd⟩ ?_
      cases multi
      · exact h.rep
      · exact h.rep.next _
    · cases ht
  intro fuel
  induction fuel with
  | zero =>
    intro n dm mu a S l act σ w ht hsat h hleft hq
    have hall : ∀ i, i < ops.size → Listed l i := by
      intro i hi
      by_cases hl : Listed l i
      · exact hl
      · have := left_set hi h.lsize hl
        omega
    refine ⟨?_, fin n dm mu a S l act σ w ht h hall hq⟩
    cases hr : Region.ready .any ops l with
    | nil => rfl
    | cons i rest =>
      obtain ⟨h1, h2, _⟩ := ready_mem (by rw [hr]; exact List.mem_cons_self .. : i ∈ Region.ready .any ops l) h.lsize
      exact absurd (hall i h2) h1
  | succ fuel ih =>
    intro n dm mu a S l act σ w ht hsat h hleft hq
    refine ⟨fun hnil => fin n dm mu a S l act σ w ht h (ready_nil hnil h.lsize back) hq, fun i hi => ?_⟩
    obtain ⟨hun, hlt, o, ho, hdeps⟩ := ready_mem hi h.lsize
    obtain ⟨d, hd0, hdi, hdo⟩ := dops_has ops.toList 0 i o (by simpa using ho)
    have hd : d ∈ ds := by rw [hds]; exact hd0
    rw [Nat.zero_add] at hdi
    subst hdo
    obtain ⟨_, hdep, hch⟩ := at_ d hd
    have hlist : ∀ k, d.dep.testBit k = true → Listed l k := by
      intro k hk
      rw [hdep] at hk
      obtain ⟨e, he, hb, rfl⟩ := (depMask_bit _ _).1 hk
      exact hdeps e (by simpa using he) hb
    have hil : i < l.size := by rw [h.lsize]; exact hlt
    have closed' : Closed ops (l.setIfInBounds i true) := by
      intro k o' ho' hk e he hb
      refine (listed_set hil _).2 (.inl ?_)
      rcases (listed_set hil k).1 hk with hk | rfl
      · exact h.closed k o' ho' hk e he hb
      · obtain rfl : d.o = o' := Option.some.inj (ho.symm.trans ho')
        exact hdeps e he hb
    have hleft' : left ops (l.setIfInBounds i true) ≤ fuel := by
      have := left_set hlt h.lsize hun
      omega
    -- the slots at which it looks
    have looks : ∀ s ∈ d.o.looksAt ops, ∀ u, a.get s = some u → R σ u (act.tmps.getD s undef) := by
      intro s hs u hu
      refine h.slot s u hu fun d' hd' hc' hds' => ?_
      rcases hfit.looks d' hd' d hd s hds' hs with h3 | ⟨h3, _⟩
      · exact hlist _ h3
      · rw [hc'] at h3; cases h3
    have wp : ∀ {Φ : Value → World → Prop} {K : Act → World → Prop}, OneDoes E.P ops d.o act w Φ → (∀ v w', Φ v w' → K (act.put d.o.dst v) w') → wpOp E.P ops Q i K act w := by
      intro Φ K h1 h2
      unfold wpOp
      rw [ho]
      exact wp_of_one h1 h2
    cases hc : d.cheap with
    | true =>
      -- it was done ahead
      have hdm : dm.testBit d.i = true := by
        have := List.all_eq_true.1 hsat d hd
        rw [hc] at this
        simp only [Bool.not_true, Bool.false_or, Bool.or_eq_true, Bool.not_eq_true'] at this
        rcases this with h3 | h3
        · exact h3
        · have h4 : within d.dep dm = true := within_of fun k hk => h.l1 k (hlist k hk)
          rw [h4] at h3; cases h3
      have hmu : mu.testBit d.i = false := by
        cases hm : mu.testBit d.i with
        | false => rfl
        | true => exact absurd (hdi ▸ h.mul _ hm) hun
      obtain ⟨a0, v, S0, q1, q2, q3, q4⟩ := h.n1 d hd hc hdm hmu
      obtain rfl : S0 = S := cheap_one q2 (hch ▸ hc)
      refine wp (oneA_ok hsum hP hrec h.rep q1 d.o q2 fun s hs u hu => looks s hs u (q3 s hs u hu)) ?_
      rintro x w' ⟨τ, hle, hx, hrep⟩
      refine ih n dm mu a S0 (l.setIfInBounds i true) (act.put d.o.dst x) τ w' ht hsat ?_ hleft' fun υ act' w'' h5 h6 h7 => hq υ act' w'' (hle.trans h5) h6 h7
      constructor
      · simp [h.lsize]
      · exact closed'
      · intro k hk
        rcases (listed_set hil k).1 hk with hk | rfl
        · exact h.l1 k hk
        · rw [← hdi]; exact hdm
      · intro e he hec hb; exact (listed_set hil _).2 (.inl (h.l2 e he hec hb))
      · exact h.dmc
      · intro k hk; exact (listed_set hil _).2 (.inl (h.mul k hk))
      · exact h.n1
      · rw [act_put_defers]; exact h.defers
      · rw [act_put_size]; exact h.size
      · exact h.g
      · intro s u hu hw
        by_cases hs : d.o.dst = some s
        · obtain ⟨q5, q6⟩ := q4 s hs
          rw [hs, act_put_same x (by rw [h.size]; exact q5), q6 u hu]
          exact hx
        · rw [act_put_other x hs]
          refine (h.slot s u hu fun e he hec hes => ?_).mono hle
          rcases (listed_set hil _).1 (hw e he hec hes) with h8 | h8
          · exact h8
          · have : e = d := inj e he d hd (by omega)
            subst this
            exact absurd hes hs
      · exact hrep
    | false =>
      have hnot : dm.testBit d.i = false := by
        cases hm : dm.testBit d.i with
        | false => rfl
        | true => exact absurd (hdi ▸ h.l2 d hd hc hm) hun
      have hwith : within d.dep dm = true := within_of fun k hk => h.l1 k (hlist k hk)
      have hmem : d ∈ ds.filter (fun d => !d.cheap && !Nat.testBit dm d.i && within d.dep dm) := List.mem_filter.2 ⟨hd, by rw [hc, hnot, hwith]; rfl⟩
      have ht' := ht
      unfold tailA at ht'
      split at ht'
      · rename_i hnil
        rw [hnil] at hmem; cases hmem
      · have hx := allSame_all _ r ht' _ (List.mem_map.2 ⟨d, hmem, rfl⟩)
        split at hx
        · rename_i v S1 h1
          split at hx
          · rename_i a1 hput
            split at hx
            · rename_i hag
              obtain ⟨p1, p2, p3, p4, p5, p6⟩ := put_eq hput
              have hrepS : Rep E K B σ (nextAt multi S (base + 65536 * d.i)) w := by
                cases multi
                · exact h.rep
                · exact h.rep.next _
              refine wp (oneA_ok hsum hP hrec hrepS h.g d.o h1 looks) ?_
              rintro x w' ⟨τ, hle, hxR, hrep⟩
              -- the node behind it
              have hN : Nd E K B rec_ ops ds (Nat.lor dm (2 ^ d.i)) (Nat.lor mu (must ds (2 ^ d.i))) a1 S1 (l.setIfInBounds i true) (act.put d.o.dst x) τ w' := by
                constructor
                · simp [h.lsize]
                · exact closed'
                · intro k hk
                  rcases (listed_set hil k).1 hk with hk | rfl
                  · exact (lor_bit _ _ _).2 (.inl (h.l1 k hk))
                  · exact (lor_bit _ _ _).2 (.inr hdi)
                · intro e he hec hb
                  rcases (lor_bit _ _ _).1 hb with hb | hb
                  · exact (listed_set hil _).2 (.inl (h.l2 e he hec hb))
                  · exact (listed_set hil _).2 (.inr (by omega))
                · intro e he hb k hk
                  rcases (lor_bit _ _ _).1 hb with hb | hb
                  · exact (lor_bit _ _ _).2 (.inl (h.dmc e he hb k hk))
                  · have : e = d := inj e he d hd hb.symm
                    subst this
                    exact (lor_bit _ _ _).2 (.inl (within_bit hwith hk))
                · intro k hk
                  rcases (lor_any _ _ _).1 hk with hk | hk
                  · exact (listed_set hil _).2 (.inl (h.mul k hk))
                  · refine must_sub (fun k => Listed (l.setIfInBounds i true) k) ds (2 ^ d.i) ?_ ?_ k hk
                    · intro e he hel k hk
                      obtain ⟨q1, q2, _⟩ := at_ e he
                      rw [q2] at hk
                      obtain ⟨ed, hed, hb, rfl⟩ := (depMask_bit _ _).1 hk
                      exact closed' e.i e.o q1 hel ed (by simpa using hed) hb
                    · intro k hk
                      rw [Nat.testBit_two_pow, decide_eq_true_eq] at hk
                      exact (listed_set hil _).2 (.inr (by omega))
                · intro e he hec hb hm
                  have hbe : dm.testBit e.i = true := by
                    rcases (lor_bit _ _ _).1 hb with hb | hb
                    · exact hb
                    · have : e = d := inj e he d hd hb.symm
                      subst this
                      rw [hc] at hec; cases hec
                  have hme : mu.testBit e.i = false := by
                    cases hm' : mu.testBit e.i with
                    | false => rfl
                    | true => rw [(lor_any _ _ _).2 (.inl hm')] at hm; cases hm
                  obtain ⟨v0, S2, q1, q2⟩ := again_ok ds hag e he hec hbe hm
                  obtain ⟨_, _, _, _, _, _, q4⟩ := h.n1 e he hec hbe hme
                  refine ⟨a1, v0, S2, by rw [p2]; exact h.g, q1, fun s _ u hu => hu, fun t hdt => ⟨by rw [p1]; exact (q4 t hdt).1, fun u hu => ?_⟩⟩
                  obtain ⟨u', hu', hv'⟩ := q2 t hdt
                  rw [hu'] at hu
                  rw [← Option.some.inj hu, hv']
                · rw [act_put_defers]; exact h.defers
                · rw [act_put_size, p1]; exact h.size
                · rw [p2]; exact h.g
                · intro s u hu hw
                  rcases p3 s u hu with ⟨hs, rfl⟩ | ⟨hs, hu⟩
                  · rw [hs, act_put_same x (by rw [h.size]; exact p4 s hs)]
                    exact hxR
                  · rw [act_put_other x hs]
                    refine (h.slot s u hu fun e he hec hes => ?_).mono hle
                    rcases (listed_set hil _).1 (hw e he hec hes) with h8 | h8
                    · exact h8
                    · have : e = d := inj e he d hd (by omega)
                      subst this
                      rw [hc] at hec; cases hec
                · exact hrep
              -- the cheap ones behind it
              cases n with
              | zero => simp [drawA] at hx
              | succ n =>
                unfold drawA at hx
                split at hx
                · cases hx
                · rename_i dm2 a2 hpass
                  split at hx
                  · cases hx
                  · rename_i hsat2
                    exact ih n dm2 _ a2 S1 _ _ τ w' hx hsat2 (pass_ok hds hfit ds _ _ _ _ (fun d hd => hd) hpass hN) hleft' fun υ act' w'' h5 h6 h7 => hq υ act' w'' (hle.trans h5) h6 h7
            · cases hx
          · cases hx
        · cases hx

theorem regionD_ok (hsum : SummOK E K B) (hP : Plain E.P) (hrec : RecOK E K B rec_) {Q : Exit → Act → World → Prop} {a a' : AAct} {S S' : St} {σ : Sig} {act : Act} {w : World}
    (hf : regionD E rec_ ops (dopsOf ops.toList 0) a S = some (a', S')) (ha : RA E σ a act) (hr : Rep E K B σ S w)
    (hq : ∀ τ act' w', σ.le τ → RA E τ a' act' → Rep E K B τ S' w' → Q .normal act' w') : wpAny E.P .any ops Q ops.size (Array.replicate ops.size false) act w := by
  unfold regionD at hf
  split at hf
  · rename_i hfit
    have hfit := fit_of hfit
    unfold drawA at hf
    split at hf
    · cases hf
    · rename_i dm1 a1 hpass
      split at hf
      · cases hf
      · rename_i hsat
        have hno : ∀ i, ¬ Listed (Array.replicate ops.size false) i := by
          intro i h
          unfold Listed at h
          by_cases hi : i < ops.size <;> simp [Array.getD, hi] at h
        have hN : Nd E K B rec_ ops (dopsOf ops.toList 0) 0 0 a S (Array.replicate ops.size false) act σ w := by
          constructor
          · simp
          · intro i o _ hl; exact absurd hl (hno i)
          · intro i hl; exact absurd hl (hno i)
          · intro d _ _ hb; simp at hb
          · intro d _ hb; simp at hb
          · intro k hk; simp at hk
          · intro d _ _ hb; simp at hb
          · exact ha.defers
          · exact ha.size
          · exact ha.g
          · intro s v hs _; exact ha.slot s v hs
          · exact hr
        refine draw_any hsum hP hrec rfl hfit ops.size _ dm1 0 a1 S _ act σ w hf hsat (pass_ok rfl hfit _ _ _ _ _ (fun d hd => hd) hpass hN) ?_ hq
        unfold left
        refine Nat.le_trans (List.countP_le_length ..) (by simp)
  · cases hf
end

/-- The loop, from where its body begins. -/
def wpBody (P : Program) (c : Code) (Q : Exit → Act → World → Prop) (a : Act) (w : World) : Prop :=
  ∀ (b : Frame) (k : List Item) (cs : List Frame), ∃ e a' w', Q e a' w' ∧ Arrives P (lone (b.at a (.code c :: .inLoop c :: k)) cs w) b k cs e a' w'

theorem wpBody.loop {P : Program} {c : Code} {Q : Exit → Act → World → Prop} {a : Act} {w : World} (h : wpBody P c Q a w) : (Code.loop c).wp P Q a w := by
  intro b k cs
  obtain ⟨e, a', w', hq, harr⟩ := h b k cs
  exact ⟨e, a', w', hq, .of_steps (.one step_loop) harr⟩

theorem wpBody.again {P : Program} {c : Code} {Q : Exit → Act → World → Prop} {a : Act} {w : World} (h : c.wp P (Exit.then (wpBody P c Q) Q) a w) : wpBody P c Q a w := by
  intro b k cs
  obtain ⟨e, a₁, w₁, hq, harr⟩ := h b (.inLoop c :: k) cs
  cases e with
  | normal =>
    obtain ⟨e₂, a₂, w₂, hq₂, harr₂⟩ := hq b k cs
    exact ⟨e₂, a₂, w₂, hq₂, .of_steps (Steps.trans harr (.one step_inLoop)) harr₂⟩
  | exit id => exact ⟨_, a₁, w₁, hq, .pass (x := .inLoop c) rfl (fun _ _ => .inl (by simp)) harr⟩
  | goto l => exact ⟨_, a₁, w₁, hq, .pass (x := .inLoop c) rfl (fun _ _ => .inl (by simp)) harr⟩
  | ret => exact ⟨_, a₁, w₁, hq, .pass (x := .inLoop c) rfl (fun _ _ => .inl (by simp)) harr⟩
  | panic ch => exact ⟨_, a₁, w₁, hq, .pass (x := .inLoop c) rfl (fun _ _ => .inl (by simp)) harr⟩
  | outgrown => exact ⟨_, a₁, w₁, hq, .pass (x := .inLoop c) rfl (fun _ _ => .inl (by simp)) harr⟩

section
variable {E : Env} {K : Know E} {B : World}

/-- What holds where a code has run. -/
def End (E : Env) (K : Know E) (B : World) (σ : Sig) (e : AExit) (a' : AAct) (S' : St) : Exit → Act → World → Prop :=
  fun e' act' w' => e' = e.conc ∧ ∃ τ, σ.le τ ∧ RA E τ a' act' ∧ Rep E K B τ S' w'

theorem exec_all (hsum : SummOK E K B) (hP : Plain E.P) (hm : E.P.follows .mixedOrders = true) : ∀ (n : Nat) (c : Code) (a : AAct) (S : St) (e : AExit) (a' : AAct) (S' : St), exec E n c a S = some (e, a', S') → ∀ (σ : Sig) (w : World) (act : Act), RA E σ a act → Rep E K B σ S w →
    c.wp E.P (End E K B σ e a' S') act w ∧ ∀ b, c = .loop b → wpBody E.P b (End E K B σ e a' S') act w := by
  intro n
  induction n with
  | zero => intro c a S e a' S' hf; rw [exec_zero] at hf; cases hf
  | succ n ih =>
    have hrec : RecOK E K B (exec E n) := fun c a S e a' S' hf σ w act ha hr => (ih c a S e a' S' hf σ w act ha hr).1
    intro c a S e a' S' hf σ w act ha hr
    rw [exec_succ] at hf
    cases c with
    | skip =>
      simp only [execD] at hf
      cases hf
      exact ⟨wp_skip ⟨rfl, σ, .refl σ, ha, hr⟩, fun b hb => by cases hb⟩
    | ret =>
      simp only [execD] at hf
      cases hf
      exact ⟨wp_ret ⟨rfl, σ, .refl σ, ha, hr⟩, fun b hb => by cases hb⟩
    | exit id =>
      simp only [execD] at hf
      cases hf
      exact ⟨wp_exit ⟨rfl, σ, .refl σ, ha, hr⟩, fun b hb => by cases hb⟩
    | seq x y =>
      refine ⟨?_, fun b hb => by cases hb⟩
      simp only [execD] at hf
      refine wp_seq ?_
      split at hf
      · rename_i a1 S1 h1
        refine wp_mono (hrec x a S _ a1 S1 h1 σ w act ha hr) ?_
        rintro e' act' w' ⟨rfl, τ, h2, h3, h4⟩
        refine wp_mono (hrec y a1 S1 e a' S' hf τ w' act' h3 h4) ?_
        rintro e'' act'' w'' ⟨rfl, υ, h5, h6, h7⟩
        exact ⟨rfl, υ, h2.trans h5, h6, h7⟩
      · rename_i hne
        refine wp_mono (hrec x a S _ _ _ hf σ w act ha hr) ?_
        rintro e' act' w' ⟨rfl, hτ⟩
        cases e with
        | normal => exact absurd hf (hne _ _)
        | exit id => exact ⟨rfl, hτ⟩
        | ret => exact ⟨rfl, hτ⟩
    | cond c x y =>
      refine ⟨?_, fun b hb => by cases hb⟩
      simp only [execD] at hf
      split at hf
      · rename_i hc
        have hv := eval_ok hr ha.g (fun t _ u hu => ha.slot t u hu) hc
        rw [R] at hv
        exact wp_cond_true hv.1 (hrec x a S _ _ _ hf σ w act ha hr)
      · rename_i hc
        have hv := eval_ok hr ha.g (fun t _ u hu => ha.slot t u hu) hc
        rw [R] at hv
        exact wp_cond_false hv.1 (hrec y a S _ _ _ hf σ w act ha hr)
      · cases hf
    | block id c =>
      refine ⟨?_, fun b hb => by cases hb⟩
      simp only [execD] at hf
      refine wp_block ?_
      split at hf
      · rename_i j a1 S1 h1
        refine wp_mono (hrec c a S _ a1 S1 h1 σ w act ha hr) ?_
        rintro e' act' w' ⟨rfl, hτ⟩
        split at hf
        · rename_i hj
          cases hf
          simp only [AExit.conc, Exit.inBlock, nb hj, if_true]
          exact ⟨rfl, hτ⟩
        · rename_i hj
          cases hf
          have hne : ¬ j = id := fun e => by subst e; simp at hj
          simp only [AExit.conc, Exit.inBlock, if_neg hne]
          exact ⟨rfl, hτ⟩
      · rename_i hne
        refine wp_mono (hrec c a S _ _ _ hf σ w act ha hr) ?_
        rintro e' act' w' ⟨rfl, hτ⟩
        cases e with
        | normal => exact ⟨rfl, hτ⟩
        | exit id => exact absurd hf (hne _ _ _)
        | ret => exact ⟨rfl, hτ⟩
    | loop c =>
      have key : wpBody E.P c (End E K B σ e a' S') act w := by
        simp only [execD] at hf
        refine wpBody.again ?_
        split at hf
        · rename_i a1 S1 h1
          refine wp_mono (hrec c a S _ a1 S1 h1 σ w act ha hr) ?_
          rintro e' act' w' ⟨rfl, τ, h2, h3, h4⟩
          have := (ih (.loop c) a1 S1 e a' S' hf τ w' act' h3 h4).2 c rfl
          intro b k cs
          obtain ⟨e2, a2, w2, ⟨rfl, υ, h5, h6, h7⟩, harr⟩ := this b k cs
          exact ⟨_, a2, w2, ⟨rfl, υ, h2.trans h5, h6, h7⟩, harr⟩
        · rename_i hne
          refine wp_mono (hrec c a S _ _ _ hf σ w act ha hr) ?_
          rintro e' act' w' ⟨rfl, hτ⟩
          cases e with
          | normal => exact absurd hf (hne _ _)
          | exit id => exact ⟨rfl, hτ⟩
          | ret => exact ⟨rfl, hτ⟩
      exact ⟨key.loop, fun b hb => by cases hb; exact key⟩
    | region id ops draw =>
      refine ⟨?_, fun b hb => by cases hb⟩
      simp only [execD] at hf
      split at hf
      · split at hf
        · rename_i a1 S1 h1
          cases hf
          exact wp_region_list (listA_ok hsum hP hrec ops.toList a S σ act w _ _ h1 ha hr fun τ act' w' h2 h3 h4 => ⟨rfl, τ, h2, h3, h4⟩)
        · cases hf
      · split at hf
        · rename_i a1 S1 h1
          cases hf
          exact wp_region_any hm (regionD_ok hsum hP hrec h1 ha (hr.turn rfl) fun τ act' w' h2 h3 h4 => ⟨rfl, τ, h2, h3, h4⟩)
        · cases hf
    | _ => simp [execD] at hf

/-- What is kept of memory. -/
def Kept (B w : World) : Prop := Outs B w ∧ B.heap.size ≤ w.heap.size ∧ ∀ i, i < B.heap.size → w.heap[i]? = B.heap[i]?

/-- THE EXECUTOR IS RIGHT: a function that it runs answers what it worked out. -/
theorem exec_right (hsum : SummOK E K B) (hP : Plain E.P) (hm : E.P.follows .mixedOrders = true) {n : Nat} {f : FuncId} {args : List AVal} {xs : List Value} {v : AVal} {S S' : St} {σ : Sig} {w : World}
    (hf : callA E (exec E n) f args S = some (v, S')) (hx : RL σ args xs) (hr : Rep E K B σ S w) :
    Calls E.P f xs.toArray w fun e w' => ∃ u, e = .returned u ∧ ∃ τ, σ.le τ ∧ R τ v u ∧ Rep E K B τ S' w' :=
  (callA_ok hsum (fun c a S e a' S' hf σ w act ha hr => (exec_all hsum hP hm n c a S e a' S' hf σ w act ha hr).1) hr hf hx).2

/-- Nothing is known. -/
def noKnow (E : Env) (hb : ∀ op a b, E.bin op a b = none) (hl : ∀ k, E.len k = none) : Know E where
  Base := fun _ => True
  base := fun _ _ _ _ _ => trivial
  bin := fun op a b v h => by rw [hb] at h; cases h
  len := fun k v h => by rw [hl] at h; cases h
  Res := fun _ _ _ => True
  res := fun _ _ _ _ _ _ _ _ _ _ => trivial

theorem rep_begin (K : Know E) (k : Nat) (hK : ∀ σ, K.Base σ) (hR : ∀ σ h w, K.Res σ h w) (hfit : E.G0 ≤ B.heap.size) (hG : E.G0 ≤ E.G) (hro : ∀ b o u, E.ro b o = some u → b < E.G0 ∧ B.cell? ⟨b, o, none⟩ = some u) :
    Rep E K B { blk := fun b => if b < E.G0 then some b else none, cap := fun _ => 0, sym := fun _ => none, opq := fun _ => none, foot := fun _ => False } { heap := .leaf, next := k, nsym := 0, hist := [] } B := by
  constructor
  · intro b blk hb; rw [T.get_eq, T.find_leaf] at hb; cases hb
  · intro b b' blk blk' m hb; rw [T.get_eq, T.find_leaf] at hb; cases hb
  · intro b m hb
    simp only at hb
    split at hb
    · rename_i h; exact .inl (Nat.lt_of_lt_of_le h hG)
    · cases hb
  · intro b blk m hb; rw [T.get_eq, T.find_leaf] at hb; cases hb
  · intro i hi; exact hi.elim
  · exact hK _
  · exact hR _ _ _
  · intro x z hx; cases hx
  · intro x _; exact ⟨rfl, rfl⟩
  · intro b blk hb; rw [T.get_eq, T.find_leaf] at hb; cases hb
  · intro g hg; simp [hg]
  · exact Nat.le_refl _
  · intro i _; rfl
  · exact hfit
  · exact hro
  · exact ⟨rfl, rfl, rfl⟩

/-- A closed call. -/
theorem exec_closed (hb : ∀ op a b, E.bin op a b = none) (hl : ∀ k, E.len k = none) (hs : ∀ f, E.summ f = none) (hP : Plain E.P) (hm : E.P.follows .mixedOrders = true) {n : Nat} {f : FuncId} {v : AVal} {S' : St} {x : Value} {k : Nat}
    (hf : callA E (exec E n) f [] { heap := .leaf, next := k, nsym := 0, hist := [] } = some (v, S')) (hv : v.val = some x) (hfit : E.G0 ≤ B.heap.size) (hG : E.G0 ≤ E.G) (hro : ∀ b o u, E.ro b o = some u → b < E.G0 ∧ B.cell? ⟨b, o, none⟩ = some u) :
    Calls E.P f #[] B fun e w' => e = .returned x ∧ Kept B w' := by
  have hsum : SummOK E (noKnow E hb hl) B := fun f g h => by rw [hs] at h; cases h
  refine (exec_right (K := noKnow E hb hl) hsum hP hm hf RL.nil (rep_begin (noKnow E hb hl) k (fun _ => trivial) (fun _ _ _ => trivial) hfit hG hro)).mono ?_
  rintro e w' ⟨u, rfl, τ, _, hu, hr⟩
  rw [val_R hv hu]
  exact ⟨rfl, hr.outs, hr.size, hr.below⟩
end
end Go.Proofs.YtagccbpjpcnmeaaGreatDoor.Ex
