/-
  The executor's regions that draw their order: whatever order is drawn, the outcome is the one that was worked out.
-/
import Derived.Test.YtagccbpjpcnmeaaGreatDoorEv
set_option linter.unusedVariables false
set_option linter.unusedSimpArgs false
namespace Go.Proofs.YtagccbpjpcnmeaaGreatDoor.Ex
open Go

section eqv
theorem sEqv {v u : Value} (h : AVal.eqv (.s v) (.s u) = true) : v = u := by
  unfold AVal.eqv at h
  split at h <;> first
    | (cases h; done)
    | skip
  all_goals rename_i h1 h2
  all_goals first
    | (cases h1; cases h2; rfl)
    | (cases h1; cases h2; simp only [Bool.and_eq_true, decide_eq_true_eq, beq_iff_eq, Nat.beq_eq] at h; simp_all)
    | (cases h1; done)

theorem nb {a b : Nat} (h : Nat.beq a b = true) : a = b := Nat.beq_eq ▸ h

mutual
theorem AVal.eqv_eq : ∀ (a b : AVal), a.eqv b = true → a = b
  | .s v, .s u, h => by rw [sEqv h]
  | .s v, .ptr _ _, h => by cases v <;> simp [AVal.eqv] at h
  | .s v, .slice _ _ _ _, h => by cases v <;> simp [AVal.eqv] at h
  | .s v, .map _, h => by cases v <;> simp [AVal.eqv] at h
  | .s v, .func _ _ _, h => by cases v <;> simp [AVal.eqv] at h
  | .s v, .iface _ _, h => by cases v <;> simp [AVal.eqv] at h
  | .s v, .agg _, h => by cases v <;> simp [AVal.eqv] at h
  | .s v, .tuple _, h => by cases v <;> simp [AVal.eqv] at h
  | .s v, .sym _ _, h => by cases v <;> simp [AVal.eqv] at h
  | .s v, .opq _, h => by cases v <;> simp [AVal.eqv] at h
  | .ptr a b, y, h => by
    cases y <;> simp only [AVal.eqv, Bool.and_eq_true] at h <;> first
      | (cases h; done)
      | (rw [nb h.1, nb h.2])
  | .slice a b c (.exact k), y, h => by
    cases y <;> (try (rename_i q; cases q)) <;> simp only [AVal.eqv, Bool.and_eq_true] at h <;> first
      | (cases h; done)
      | (rw [nb h.1.1.1, nb h.1.1.2, nb h.1.2, nb h.2])
  | .slice a b c (.var k j), y, h => by
    cases y <;> (try (rename_i q; cases q)) <;> simp only [AVal.eqv, Bool.and_eq_true] at h <;> first
      | (cases h; done)
      | (rw [nb h.1.1.1.1, nb h.1.1.1.2, nb h.1.1.2, nb h.1.2, nb h.2])
  | .map a, y, h => by
    cases y <;> simp only [AVal.eqv] at h <;> first
      | (cases h; done)
      | (rw [nb h])
  | .func f a b, y, h => by
    cases y <;> cases f <;> (try simp [AVal.eqv] at h)
    rename_i g c d f
    cases g <;> simp [AVal.eqv] at h
    rw [h.1.1, eqvL_eq a c h.1.2, eqvL_eq b d h.2]
  | .iface t a, y, h => by
    cases y <;> simp only [AVal.eqv, Bool.and_eq_true] at h <;> first
      | (cases h; done)
      | (rw [nb h.1, AVal.eqv_eq a _ h.2])
  | .agg a, y, h => by
    cases y <;> simp only [AVal.eqv] at h <;> first
      | (cases h; done)
      | (rw [eqvL_eq a _ h])
  | .tuple a, y, h => by
    cases y <;> simp only [AVal.eqv] at h <;> first
      | (cases h; done)
      | (rw [eqvL_eq a _ h])
  | .sym k a, y, h => by
    cases y <;> simp only [AVal.eqv, Bool.and_eq_true] at h <;> first
      | (cases h; done)
      | (rw [of_decide_eq_true h.1, nb h.2])
  | .opq a, y, h => by
    cases y <;> simp only [AVal.eqv] at h <;> first
      | (cases h; done)
      | (rw [nb h])
theorem eqvL_eq : ∀ (a b : List AVal), eqvL a b = true → a = b
  | [], [], _ => rfl
  | [], y :: r, h => by simp [eqvL] at h
  | x :: l, [], h => by simp [eqvL] at h
  | x :: l, y :: r, h => by
    simp only [eqvL, Bool.and_eq_true] at h
    rw [AVal.eqv_eq x y h.1, eqvL_eq l r h.2]
end

theorem eqvP_eq : ∀ (a b : List (AVal × AVal)), eqvP a b = true → a = b
  | [], [], _ => rfl
  | [], y :: r, h => by simp [eqvP] at h
  | x :: l, [], h => by simp [eqvP] at h
  | (x, x') :: l, (y, y') :: r, h => by
    simp only [eqvP, Bool.and_eq_true] at h
    rw [AVal.eqv_eq x y h.1.1, AVal.eqv_eq x' y' h.1.2, eqvP_eq l r h.2]

theorem ABlk.eqv_eq (a b : ABlk) (h : a.eqv b = true) : a = b := by
  cases a <;> cases b <;> simp only [ABlk.eqv, Bool.and_eq_true] at h <;> first
    | (cases h; done)
    | rfl
    | (rw [eqvL_eq _ _ h.1, nb h.2])
    | (rw [eqvL_eq _ _ h.1.1.1, nb h.1.1.2, nb h.1.2, nb h.2])
    | (rw [eqvP_eq _ _ h])

theorem T.eqv_eq {α : Type} {f : α → α → Bool} (hf : ∀ a b, f a b = true → a = b) : ∀ (s t : T α), T.eqv f s t = true → s = t
  | .leaf, .leaf, _ => rfl
  | .leaf, .node _ _ _, h => by simp [T.eqv] at h
  | .node _ _ _, .leaf, h => by simp [T.eqv] at h
  | .node l v r, .node l' v' r', h => by
    simp only [T.eqv, Bool.and_eq_true] at h
    rw [T.eqv_eq hf l l' h.1.1, T.eqv_eq hf r r' h.1.2]
    have h2 := h.2
    cases v with
    | none => cases v' with
      | none => rfl
      | some p => cases h2
    | some p => cases v' with
      | none => cases h2
      | some q =>
        obtain ⟨k, a⟩ := p
        obtain ⟨k', a'⟩ := q
        simp only [Bool.and_eq_true] at h2
        rw [nb h2.1, hf _ _ h2.2]

theorem histEqv_eq : ∀ (a b : List HEnt), histEqv a b = true → a = b
  | [], [], _ => rfl
  | [], y :: r, h => by simp [histEqv] at h
  | x :: l, [], h => by simp [histEqv] at h
  | ⟨a, b, c⟩ :: l, ⟨d, e, f⟩ :: r, h => by
    simp only [histEqv, Bool.and_eq_true] at h
    rw [nb h.1.1.1, eqvL_eq _ _ h.1.1.2, nb h.1.2, histEqv_eq l r h.2]

theorem resEqv_eq {x y : AAct × St} (h : resEqv x y = true) : x = y := by
  obtain ⟨⟨tm, n, g⟩, ⟨hp, nx, ns, hi⟩⟩ := x
  obtain ⟨⟨tm', n', g'⟩, ⟨hp', nx', ns', hi'⟩⟩ := y
  simp only [resEqv, Bool.and_eq_true] at h
  obtain ⟨⟨⟨⟨⟨⟨h1, h2⟩, h3⟩, h4⟩, h5⟩, h6⟩, h7⟩ := h
  rw [T.eqv_eq AVal.eqv_eq _ _ h1, nb h2, nb h3, T.eqv_eq ABlk.eqv_eq _ _ h4, nb h5, nb h6, histEqv_eq _ _ h7]

theorem allSame_all : ∀ (l : List (Option (AAct × St))) (r : AAct × St), allSame l = some r → ∀ x ∈ l, x = some r
  | [], r, h, x, hx => by cases hx
  | [y], r, h, x, hx => by
    simp only [allSame] at h
    simp only [List.mem_singleton] at hx
    rw [hx, h]
  | y :: z :: l, r, h, x, hx => by
    unfold allSame at h
    split at h
    · rename_i p q hp hq
      split at h
      · rename_i he
        cases h
        rcases List.mem_cons.1 hx with rfl | hx
        · rw [resEqv_eq he]
        · exact allSame_all (z :: l) r hq x hx
      · cases h
    · cases h
end eqv

section ops
variable {ops : Array Oper}

theorem dops_mem : ∀ (l : List Oper) (i : Nat) (d : DOp), d ∈ dopsOf l i → ∃ j, d.i = i + j ∧ l[j]? = some d.o ∧ d.dep = depMask d.o.after.toList ∧ d.cheap = cheapOp d.o.op
  | [], i, d, h => by simp [dopsOf] at h
  | o :: l, i, d, h => by
    rcases List.mem_cons.1 h with rfl | h
    · exact ⟨0, rfl, rfl, rfl, rfl⟩
    · obtain ⟨j, h1, h2, h3, h4⟩ := dops_mem l (i + 1) d h
      exact ⟨j + 1, by omega, by simpa using h2, h3, h4⟩

theorem dops_has : ∀ (l : List Oper) (i j : Nat) (o : Oper), l[j]? = some o → ∃ d ∈ dopsOf l i, d.i = i + j ∧ d.o = o
  | [], i, j, o, h => by simp at h
  | p :: l, i, 0, o, h => by
    simp at h
    subst h
    exact ⟨_, List.mem_cons_self .., rfl, rfl⟩
  | p :: l, i, j + 1, o, h => by
    obtain ⟨d, h1, h2, h3⟩ := dops_has l (i + 1) j o (by simpa using h)
    exact ⟨d, List.mem_cons_of_mem _ h1, by omega, h3⟩

theorem depMask_bit : ∀ (es : List Edge) (k : Nat), (depMask es).testBit k = true ↔ ∃ e ∈ es, Region.binds .any e = true ∧ e.on = k
  | [], k => by simp [depMask]
  | e :: es, k => by
    unfold depMask
    split
    · rename_i hb
      rw [show Nat.lor (depMask es) (2 ^ e.on) = depMask es ||| 2 ^ e.on from rfl, Nat.testBit_or, Bool.or_eq_true, depMask_bit es k, Nat.testBit_two_pow]
      simp only [decide_eq_true_eq, List.mem_cons]
      constructor
      · rintro (⟨e', h1, h2, h3⟩ | h)
        · exact ⟨e', .inr h1, h2, h3⟩
        · exact ⟨e, .inl rfl, hb, h⟩
      · rintro ⟨e', rfl | h1, h2, h3⟩
        · exact .inr h3
        · exact .inl ⟨e', h1, h2, h3⟩
    · rename_i hb
      rw [depMask_bit es k]
      constructor
      · rintro ⟨e', h1, h2, h3⟩; exact ⟨e', List.mem_cons_of_mem _ h1, h2, h3⟩
      · rintro ⟨e', h1, h2, h3⟩
        rcases List.mem_cons.1 h1 with rfl | h1
        · rw [hb] at h2; cases h2
        · exact ⟨e', h1, h2, h3⟩

theorem within_bit {a b : Nat} (h : within a b = true) {k : Nat} (hk : a.testBit k = true) : b.testBit k = true := by
  have : a &&& b = a := nb h
  rw [← this, Nat.testBit_and, Bool.and_eq_true] at hk
  exact hk.2

theorem within_of {a b : Nat} (h : ∀ k, a.testBit k = true → b.testBit k = true) : within a b = true := by
  have : a &&& b = a := by
    apply Nat.eq_of_testBit_eq
    intro i
    rw [Nat.testBit_and]
    cases ha : a.testBit i
    · rfl
    · rw [h i ha]; rfl
  show Nat.beq (a &&& b) a = true
  rw [this]
  simp

theorem lor_bit (a i k : Nat) : (Nat.lor a (2 ^ i)).testBit k = true ↔ a.testBit k = true ∨ i = k := by
  rw [show Nat.lor a (2 ^ i) = a ||| 2 ^ i from rfl, Nat.testBit_or, Bool.or_eq_true, Nat.testBit_two_pow, decide_eq_true_eq]

theorem must_sub (p : Nat → Prop) : ∀ (l : List DOp) (s : Nat), (∀ d ∈ l, p d.i → ∀ k, d.dep.testBit k = true → p k) → (∀ k, s.testBit k = true → p k) → ∀ k, (must l s).testBit k = true → p k
  | [], s, _, hs, k, hk => hs k hk
  | d :: l, s, hd, hs, k, hk => by
    have ih := must_sub p l s (fun e he => hd e (List.mem_cons_of_mem _ he)) hs
    unfold must at hk
    split at hk
    · rename_i hb
      rw [show Nat.lor (must l s) d.dep = must l s ||| d.dep from rfl, Nat.testBit_or, Bool.or_eq_true] at hk
      rcases hk with hk | hk
      · exact ih k hk
      · exact hd d (List.mem_cons_self ..) (ih _ hb) k hk
    · exact ih k hk
end ops

section
variable {E : Env} {S S' : St} {a : AAct}

theorem cheap_step {rec_ : Rec} {o : Op} {v : AVal} (hf : opD o E rec_ a S = some (v, S')) (hc : cheapOp o = true) : S' = S := by
  cases o <;> simp only [cheapOp] at hc <;> (try (cases hc; done)) <;> simp only [opD] at hf
  case move => exact (pureV_eq hf).1
  case pick =>
    split at hf
    · exact (pureV_eq hf).1
    · exact (pureV_eq hf).1
    · cases hf
  case build =>
    split at hf
    · unfold build1 at hf
      (repeat' split at hf) <;> cases hf <;> rfl
    · cases hf
  case load =>
    split at hf
    · unfold load1 at hf
      (repeat' split at hf) <;> cases hf <;> rfl
    · cases hf
  case nilCheck =>
    split at hf
    · unfold nilCheck1 at hf
      (repeat' split at hf) <;> cases hf <;> rfl
    · cases hf
  case binOp =>
    split at hf
    · unfold bin1 at hf
      (repeat' split at hf) <;> first
        | exact (pureV_eq hf).1
        | (cases hf; done)
        | (cases hf; rfl)
    · cases hf
  case unOp =>
    split at hf
    · unfold un1 at hf
      (repeat' split at hf) <;> first
        | exact (pureV_eq hf).1
        | (cases hf; done)
    · cases hf
  case convert =>
    split at hf
    · unfold conv1 at hf
      (repeat' split at hf) <;> first
        | exact (pureV_eq hf).1
        | (cases hf; done)
        | (cases hf; rfl)
    · cases hf
  case makeInterface =>
    split at hf
    · unfold makeInterface1 at hf
      (repeat' split at hf) <;> cases hf <;> rfl
    · cases hf
  case makeFunc =>
    split at hf
    · cases hf; rfl
    · cases hf
  case slice =>
    split at hf
    · unfold slice1 at hf
      (repeat' split at hf) <;> cases hf <;> rfl
    · cases hf
  case fieldAddr =>
    split at hf
    · unfold fieldAddr1 at hf
      (repeat' split at hf) <;> cases hf <;> rfl
    · cases hf
  case field =>
    split at hf
    · unfold field1 at hf
      (repeat' split at hf) <;> first
        | exact (pureV_eq hf).1
        | (cases hf; done)
    · cases hf
  case indexAddr =>
    split at hf
    · unfold indexAddr1 at hf
      (repeat' split at hf) <;> cases hf <;> rfl
    · cases hf
  case index =>
    split at hf
    · unfold index1 at hf
      (repeat' split at hf) <;> first
        | exact (pureV_eq hf).1
        | (cases hf; done)
        | (cases hf; rfl)
    · cases hf
  case lookup =>
    split at hf
    · unfold lookup1 at hf
      (repeat' split at hf) <;> cases hf <;> rfl
    · cases hf
  case extract =>
    split at hf
    · unfold extract1 at hf
      (repeat' split at hf) <;> first
        | exact (pureV_eq hf).1
        | (cases hf; done)
    · cases hf
  case call c =>
    obtain ⟨callee, args, argTypes⟩ := c
    cases callee <;> simp only [callOp] at hf
    case builtin b =>
      cases b <;> (try (cases hc; done)) <;> simp only [builtin1] at hf
      all_goals
        split at hf
        · first | unfold len1 at hf | unfold cap1 at hf
          (repeat' split at hf) <;> first
            | (cases hf; done)
            | (cases hf; rfl)
        · cases hf
    all_goals first
      | (cases hc; done)
      | (cases hf; done)

theorem cheap_one {rec_ : Rec} {ops : Array Oper} {o : Oper} {v : AVal} (hf : oneA E rec_ ops o a S = some (v, S')) (hc : cheapOp o.op = true) : S' = S := by
  unfold oneA at hf
  split at hf
  · exact cheap_step hf hc
  · cases hf; rfl
  · cases hf
end
end Go.Proofs.YtagccbpjpcnmeaaGreatDoor.Ex
