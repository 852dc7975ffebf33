/-
  The executor's values and blocks, and what they stand for in a world.
-/
import Derived.Test.YtagccbpjpcnmeaaGreatDoorEx
set_option linter.unusedVariables false
set_option linter.unusedSimpArgs false
namespace Go.Proofs.YtagccbpjpcnmeaaGreatDoor.Ex
open Go

section tree
variable {α : Type}

theorem T.find_ins (n : Nat) : ∀ (t : T α) (k k' : Nat) (e e' : Nat × α), (T.ins n t k e).find k' = some e' → e' = e ∨ t.find k' = some e' := by
  induction n with
  | zero => intro t k k' e e' h; rw [T.ins_zero, T.find_leaf] at h; cases h
  | succ n ih =>
    intro t k k' e e' h
    cases t with
    | leaf =>
      rw [T.ins_leaf] at h
      cases h0 : Nat.beq k 0 <;> simp only [h0] at h
      · cases h1 : Nat.beq (Nat.mod k 2) 1 <;> simp only [h1] at h <;> rw [T.find_node] at h <;> cases h2 : Nat.beq k' 0 <;> simp only [h2] at h <;> first
          | (cases h; done)
          | (cases h3 : Nat.beq (Nat.mod k' 2) 1 <;> simp only [h3] at h <;> first
              | (cases h; done)
              | (rcases ih _ _ _ _ _ h with h | h
                 · exact .inl h
                 · rw [T.find_leaf] at h; cases h))
      · rw [T.find_node] at h
        cases h2 : Nat.beq k' 0 <;> simp only [h2] at h
        · cases h3 : Nat.beq (Nat.mod k' 2) 1 <;> simp only [h3] at h <;> (rw [T.find_leaf] at h; cases h)
        · exact .inl (Option.some.inj h).symm
    | node l v r =>
      rw [T.ins_node] at h
      rw [T.find_node]
      cases h0 : Nat.beq k 0 <;> simp only [h0] at h
      · cases h1 : Nat.beq (Nat.mod k 2) 1 <;> simp only [h1] at h <;> rw [T.find_node] at h <;> cases h2 : Nat.beq k' 0 <;> simp only [h2] at h ⊢ <;> first
          | exact .inr h
          | (cases h3 : Nat.beq (Nat.mod k' 2) 1 <;> simp only [h3] at h ⊢ <;> first
              | exact .inr h
              | exact ih _ _ _ _ _ h)
      · rw [T.find_node] at h
        cases h2 : Nat.beq k' 0 <;> simp only [h2] at h ⊢
        · exact .inr h
        · exact .inl (Option.some.inj h).symm

theorem T.find_ins_same (n : Nat) : ∀ (t : T α) (k : Nat) (e e' : Nat × α), (T.ins n t k e).find k = some e' → e' = e := by
  induction n with
  | zero => intro t k e e' h; rw [T.ins_zero, T.find_leaf] at h; cases h
  | succ n ih =>
    intro t k e e' h
    cases t <;> (first | rw [T.ins_leaf] at h | rw [T.ins_node] at h) <;> cases h0 : Nat.beq k 0 <;> simp only [h0] at h
    · cases h1 : Nat.beq (Nat.mod k 2) 1 <;> simp only [h1] at h <;> rw [T.find_node] at h <;> simp only [h0, h1] at h <;> exact ih _ _ _ _ h
    · rw [T.find_node] at h; simp only [h0] at h; exact (Option.some.inj h).symm
    · cases h1 : Nat.beq (Nat.mod k 2) 1 <;> simp only [h1] at h <;> rw [T.find_node] at h <;> simp only [h0, h1] at h <;> exact ih _ _ _ _ h
    · rw [T.find_node] at h; simp only [h0] at h; exact (Option.some.inj h).symm

theorem T.half (n k : Nat) (hk : k < 2 ^ (n + 1)) : Nat.div k 2 < 2 ^ n ∧ Nat.sub (Nat.div k 2) 1 < 2 ^ n := by
  have h : 2 ^ (n + 1) = 2 * 2 ^ n := by rw [Nat.pow_succ]; omega
  show k / 2 < 2 ^ n ∧ k / 2 - 1 < 2 ^ n
  omega

theorem T.find_same (n : Nat) : ∀ (t : T α) (k : Nat) (e : Nat × α), k < 2 ^ n → (T.ins (n + 1) t k e).find k = some e := by
  induction n with
  | zero =>
    intro t k e hk
    have : k = 0 := by simpa using hk
    subst this
    cases t <;> rfl
  | succ n ih =>
    intro t k e hk
    have hh := T.half n k hk
    cases t <;> (first | rw [T.ins_leaf] | rw [T.ins_node]) <;> cases h0 : Nat.beq k 0 <;> simp only
    · cases h1 : Nat.beq (Nat.mod k 2) 1 <;> simp only <;> rw [T.find_node] <;> simp only [h0, h1]
      · exact ih _ _ _ hh.2
      · exact ih _ _ _ hh.1
    · rw [T.find_node]; simp only [h0]
    · cases h1 : Nat.beq (Nat.mod k 2) 1 <;> simp only <;> rw [T.find_node] <;> simp only [h0, h1]
      · exact ih _ _ _ hh.2
      · exact ih _ _ _ hh.1
    · rw [T.find_node]; simp only [h0]

theorem T.find_old (n : Nat) : ∀ (t : T α) (k k' : Nat) (e : Nat × α), k < 2 ^ n → t.find k' ≠ none → (T.ins (n + 1) t k e).find k' ≠ none := by
  induction n with
  | zero =>
    intro t k k' e hk h
    have : k = 0 := by simpa using hk
    subst this
    cases t with
    | leaf => exact absurd rfl h
    | node l v r =>
      rw [T.ins_node]
      simp only [show Nat.beq 0 0 = true from rfl]
      rw [T.find_node] at h ⊢
      cases h0 : Nat.beq k' 0 <;> simp only [h0] at h ⊢
      · exact h
      · simp
  | succ n ih =>
    intro t k k' e hk h
    have hh := T.half n k hk
    cases t with
    | leaf => exact absurd rfl h
    | node l v r =>
      rw [T.ins_node]
      rw [T.find_node] at h
      cases h0 : Nat.beq k 0 <;> simp only
      · cases h1 : Nat.beq (Nat.mod k 2) 1 <;> simp only <;> rw [T.find_node] <;> cases h2 : Nat.beq k' 0 <;> simp only [h2] at h ⊢ <;> first
          | exact h
          | (cases h3 : Nat.beq (Nat.mod k' 2) 1 <;> simp only [h3] at h ⊢ <;> first
              | exact h
              | exact ih _ _ _ _ hh.1 h
              | exact ih _ _ _ _ hh.2 h)
      · rw [T.find_node]
        cases h2 : Nat.beq k' 0 <;> simp only [h2] at h ⊢
        · exact h
        · simp

theorem T.get_eq (t : T α) (k : Nat) : t.get k = match t.find k with | some (j, a) => (match Nat.beq j k with | true => some a | false => none) | none => none := by
  unfold T.get
  cases t.find k with
  | none => rfl
  | some p => obtain ⟨j, a⟩ := p; cases h : Nat.beq j k <;> simp only [h]

theorem T.get_some {t : T α} {k : Nat} {a : α} (h : t.get k = some a) : t.find k = some (k, a) := by
  rw [T.get_eq] at h
  split at h
  · rename_i j b hf
    split at h
    · rename_i hb
      have : j = k := Nat.beq_eq ▸ hb
      subst this
      rw [hf, Option.some.inj h]
    · cases h
  · cases h

theorem T.get_ins {n : Nat} {t : T α} {k k' : Nat} {a b : α} (h : (T.ins n t k (k, a)).get k' = some b) : (k' = k ∧ b = a) ∨ (k' ≠ k ∧ t.get k' = some b) := by
  have hf := T.get_some h
  by_cases hk : k' = k
  · subst hk
    have := T.find_ins_same n t k' (k', a) (k', b) hf
    exact .inl ⟨rfl, (Prod.mk.inj this).2⟩
  · rcases T.find_ins n t k k' (k, a) (k', b) hf with h1 | h1
    · exact absurd (Prod.mk.inj h1).1 hk
    · refine .inr ⟨hk, ?_⟩
      rw [T.get_eq, h1]
      simp

theorem T.find_ne (n : Nat) : ∀ (t : T α) (k k' : Nat) (e e' : Nat × α), k < 2 ^ n → k' ≠ k → t.find k' = some e' → (T.ins (n + 1) t k e).find k' = some e' := by
  induction n with
  | zero =>
    intro t k k' e e' hk hne h
    have : k = 0 := by simpa using hk
    subst this
    cases t with
    | leaf => rw [T.find_leaf] at h; cases h
    | node l v r =>
      rw [T.ins_node]
      simp only [show Nat.beq 0 0 = true from rfl]
      rw [T.find_node] at h ⊢
      have h0 : Nat.beq k' 0 = false := by
        cases hb : Nat.beq k' 0
        · rfl
        · exact absurd (Nat.beq_eq ▸ hb) hne
      simp only [h0] at h ⊢
      exact h
  | succ n ih =>
    intro t k k' e e' hk hne h
    have hh := T.half n k hk
    cases t with
    | leaf => rw [T.find_leaf] at h; cases h
    | node l v r =>
      rw [T.ins_node]
      rw [T.find_node] at h
      cases h0 : Nat.beq k 0 <;> simp only
      · have k0 : k ≠ 0 := fun e => by rw [e] at h0; cases h0
        cases h1 : Nat.beq (Nat.mod k 2) 1 <;> simp only <;> rw [T.find_node] <;> cases h2 : Nat.beq k' 0 <;> simp only [h2] at h ⊢ <;> first
          | exact h
          | (have k0' : k' ≠ 0 := fun e => by rw [e] at h2; cases h2
             cases h3 : Nat.beq (Nat.mod k' 2) 1 <;> simp only [h3] at h ⊢ <;> first
              | exact h
              | (refine ih _ _ _ _ _ hh.1 (fun e => hne ?_) h
                 have e1 : k % 2 = 1 := Nat.beq_eq ▸ h1
                 have e2 : k' % 2 = 1 := Nat.beq_eq ▸ h3
                 have e3 : k' / 2 = k / 2 := e
                 omega)
              | (refine ih _ _ _ _ _ hh.2 (fun e => hne ?_) h
                 have e1 : k % 2 ≠ 1 := fun e => by rw [show Nat.mod k 2 = 1 from e] at h1; cases h1
                 have e2 : k' % 2 ≠ 1 := fun e => by rw [show Nat.mod k' 2 = 1 from e] at h3; cases h3
                 have e3 : k' / 2 - 1 = k / 2 - 1 := e
                 omega))
      · have k0 : k = 0 := Nat.beq_eq ▸ h0
        rw [T.find_node]
        cases h2 : Nat.beq k' 0 <;> simp only [h2] at h ⊢
        · exact h
        · exact absurd ((Nat.beq_eq ▸ h2 : k' = 0).trans k0.symm) hne

theorem T.get_ins_ne {t : T α} {k k' : Nat} {a b : α} (hk : k < 2 ^ 63) (hne : k' ≠ k) (h : t.get k' = some b) : (T.ins 64 t k (k, a)).get k' = some b := by
  have := T.find_ne 63 t k k' (k, a) (k', b) hk hne (T.get_some h)
  rw [T.get_eq, show (64 : Nat) = 63 + 1 from rfl, this]
  simp
end tree

/-- Where the executor's blocks lie, and how much room its rows have. -/
structure Sig where
  blk : Nat → Option Nat
  cap : Nat → Nat
  sym : Nat → Option Int
  opq : Nat → Option Value
  foot : Nat → Prop

structure Sig.le (σ τ : Sig) : Prop where
  blk : ∀ b m, σ.blk b = some m → τ.blk b = some m ∧ τ.cap b = σ.cap b
  sym : ∀ x z, σ.sym x = some z → τ.sym x = some z
  opq : ∀ k v, σ.opq k = some v → τ.opq k = some v

theorem Sig.le.refl (σ : Sig) : σ.le σ := ⟨fun _ _ h => ⟨h, rfl⟩, fun _ _ h => h, fun _ _ h => h⟩
theorem Sig.le.trans {σ τ υ : Sig} (h : σ.le τ) (h' : τ.le υ) : σ.le υ := ⟨fun b m hb => by
  obtain ⟨h1, h2⟩ := h.blk b m hb
  obtain ⟨h3, h4⟩ := h'.blk b m h1
  exact ⟨h3, h4.trans h2⟩, fun x z hx => h'.sym x z (h.sym x z hx), fun x z hx => h'.opq x z (h.opq x z hx)⟩

def CapR (σ : Sig) (n : Nat) : Cap → Nat → Prop
  | .exact c, q => q = c ∧ n ≤ q
  | .var k d, q => (∃ m, σ.blk k = some m) ∧ q = σ.cap k - d ∧ n ≤ q

mutual
def R (σ : Sig) : AVal → Value → Prop
  | .s v, x => x = v ∧ v.oneCell' = true
  | .ptr b o, x => ∃ m, σ.blk b = some m ∧ x = .pointer (some ⟨m, o, none⟩)
  | .slice b o n c, x => ∃ m q, σ.blk b = some m ∧ CapR σ n c q ∧ x = .slice (some ⟨m, o, none⟩) n q
  | .map b, x => ∃ m, σ.blk b = some m ∧ x = .map (some m)
  | .func fn f c, x => ∃ xs ys, RL σ f xs ∧ RL σ c ys ∧ x = .func fn xs.toArray ys.toArray
  | .iface t v, x => ∃ y, R σ v y ∧ x = .iface t y
  | .agg vs, x => ∃ l, RL σ vs l ∧ x = .agg l.toArray
  | .tuple vs, x => ∃ l, RL σ vs l ∧ x = .tuple l.toArray
  | .sym k n, x => ∃ z, σ.sym n = some z ∧ x = .int k z
  | .opq k, x => σ.opq k = some x ∧ x.oneCell' = true
def RL (σ : Sig) : List AVal → List Value → Prop
  | [], l => l = []
  | v :: vs, l => ∃ x xs, R σ v x ∧ RL σ vs xs ∧ l = x :: xs
end

theorem CapR.mono {σ τ : Sig} (h : σ.le τ) {n : Nat} {c : Cap} {q : Nat} (hc : CapR σ n c q) : CapR τ n c q := by
  cases c with
  | exact c => exact hc
  | var k d =>
    obtain ⟨⟨m, hm⟩, hq, hn⟩ := hc
    obtain ⟨h1, h2⟩ := h.blk k m hm
    exact ⟨⟨m, h1⟩, by rw [hq, h2], hn⟩

mutual
theorem R.mono {σ τ : Sig} (h : σ.le τ) : ∀ {v : AVal} {x : Value}, R σ v x → R τ v x
  | .s _, _, hr => by simpa only [R] using hr
  | .ptr b o, x, hr => by
    simp only [R] at hr ⊢
    obtain ⟨m, hm, rfl⟩ := hr
    exact ⟨m, (h.blk b m hm).1, rfl⟩
  | .slice b o n c, x, hr => by
    simp only [R] at hr ⊢
    obtain ⟨m, q, hm, hc, rfl⟩ := hr
    exact ⟨m, q, (h.blk b m hm).1, hc.mono h, rfl⟩
  | .map b, x, hr => by
    simp only [R] at hr ⊢
    obtain ⟨m, hm, rfl⟩ := hr
    exact ⟨m, (h.blk b m hm).1, rfl⟩
  | .func fn f c, x, hr => by
    simp only [R] at hr ⊢
    obtain ⟨xs, ys, h1, h2, rfl⟩ := hr
    exact ⟨xs, ys, RL.mono h h1, RL.mono h h2, rfl⟩
  | .iface t v, x, hr => by
    simp only [R] at hr ⊢
    obtain ⟨y, h1, rfl⟩ := hr
    exact ⟨y, R.mono h h1, rfl⟩
  | .agg vs, x, hr => by
    simp only [R] at hr ⊢
    obtain ⟨l, h1, rfl⟩ := hr
    exact ⟨l, RL.mono h h1, rfl⟩
  | .tuple vs, x, hr => by
    simp only [R] at hr ⊢
    obtain ⟨l, h1, rfl⟩ := hr
    exact ⟨l, RL.mono h h1, rfl⟩
  | .sym k n, x, hr => by
    simp only [R] at hr ⊢
    obtain ⟨z, h1, rfl⟩ := hr
    exact ⟨z, h.sym n z h1, rfl⟩
  | .opq k, x, hr => by
    simp only [R] at hr ⊢
    exact ⟨h.opq k x hr.1, hr.2⟩
theorem RL.mono {σ τ : Sig} (h : σ.le τ) : ∀ {vs : List AVal} {l : List Value}, RL σ vs l → RL τ vs l
  | [], l, hr => by simpa only [RL] using hr
  | v :: vs, l, hr => by
    simp only [RL] at hr ⊢
    obtain ⟨x, xs, h1, h2, rfl⟩ := hr
    exact ⟨x, xs, R.mono h h1, RL.mono h h2, rfl⟩
end

section lists
variable {σ : Sig}

theorem RL.nil : RL σ [] [] := by simp only [RL]
theorem RL.cons {v : AVal} {x : Value} {vs : List AVal} {l : List Value} (h : R σ v x) (hs : RL σ vs l) : RL σ (v :: vs) (x :: l) := by
  simp only [RL]; exact ⟨x, l, h, hs, rfl⟩
theorem RL.of_nil {l : List Value} (h : RL σ [] l) : l = [] := by simpa only [RL] using h
theorem RL.of_cons {v : AVal} {vs : List AVal} {l : List Value} (h : RL σ (v :: vs) l) : ∃ x xs, R σ v x ∧ RL σ vs xs ∧ l = x :: xs := by
  simpa only [RL] using h

theorem RL.len : ∀ {vs : List AVal} {l : List Value}, RL σ vs l → l.length = vs.length
  | [], l, h => by rw [h.of_nil]; rfl
  | v :: vs, l, h => by
    obtain ⟨x, xs, _, h2, rfl⟩ := h.of_cons
    simp [RL.len h2]

theorem RL.append : ∀ {vs us : List AVal} {l r : List Value}, RL σ vs l → RL σ us r → RL σ (vs ++ us) (l ++ r)
  | [], us, l, r, h, h' => by rw [h.of_nil]; exact h'
  | v :: vs, us, l, r, h, h' => by
    obtain ⟨x, xs, h1, h2, rfl⟩ := h.of_cons
    exact .cons h1 (RL.append h2 h')

theorem RL.drop : ∀ {vs : List AVal} {l : List Value} (n : Nat), RL σ vs l → RL σ (vs.drop n) (l.drop n)
  | vs, l, 0, h => by simpa using h
  | [], l, n + 1, h => by rw [h.of_nil]; simpa using RL.nil
  | v :: vs, l, n + 1, h => by
    obtain ⟨x, xs, h1, h2, rfl⟩ := h.of_cons
    simpa using RL.drop n h2

theorem RL.at : ∀ {vs : List AVal} {l : List Value} {i : Nat} {v : AVal}, RL σ vs l → vs[i]? = some v → ∃ x, l[i]? = some x ∧ R σ v x
  | [], l, i, v, _, hv => by simp at hv
  | u :: vs, l, 0, v, h, hv => by
    obtain ⟨x, xs, h1, h2, rfl⟩ := h.of_cons
    simp at hv
    exact ⟨x, rfl, hv ▸ h1⟩
  | u :: vs, l, i + 1, v, h, hv => by
    obtain ⟨x, xs, h1, h2, rfl⟩ := h.of_cons
    simp at hv
    simpa using RL.at h2 hv

theorem RL.take : ∀ {n : Nat} {vs : List AVal} {l : List Value} {us : List AVal}, RL σ vs l → takeN n vs = some us → RL σ us (l.take n) ∧ us.length = n ∧ n ≤ l.length
  | 0, vs, l, us, h, ht => by
    unfold takeN at ht
    cases ht
    exact ⟨by simpa using RL.nil, rfl, Nat.zero_le _⟩
  | n + 1, [], l, us, h, ht => by simp [takeN] at ht
  | n + 1, v :: vs, l, us, h, ht => by
    obtain ⟨x, xs, h1, h2, rfl⟩ := h.of_cons
    unfold takeN at ht
    split at ht
    · rename_i r hr
      cases ht
      obtain ⟨h3, h4, h5⟩ := RL.take h2 hr
      exact ⟨by simpa using RL.cons h1 h3, by simp [h4], by simpa using h5⟩
    · cases ht

theorem RL.over : ∀ {vs xs : List AVal} {o : Nat} {r : List AVal} {l k : List Value}, Ex.over vs o xs = some r → RL σ vs l → RL σ xs k →
    RL σ r (l.take o ++ k ++ l.drop (o + k.length)) ∧ o + k.length ≤ l.length
  | vs, [], 0, r, l, k, ho, hv, hx => by
    have : Ex.over vs 0 [] = some vs := by cases vs <;> rfl
    rw [this] at ho
    cases ho
    rw [hx.of_nil]
    simpa using hv
  | [], x :: xs, 0, r, l, k, ho, hv, hx => by simp [Ex.over] at ho
  | v :: vs, x :: xs, 0, r, l, k, ho, hv, hx => by
    unfold Ex.over at ho
    split at ho
    · rename_i r' hr
      cases ho
      obtain ⟨y, ys, h1, h2, rfl⟩ := hv.of_cons
      obtain ⟨z, zs, h3, h4, rfl⟩ := hx.of_cons
      obtain ⟨h5, h6⟩ := RL.over hr h2 h4
      refine ⟨?_, by simp at h6 ⊢; omega⟩
      have := RL.cons h3 h5
      simpa [Nat.add_comm] using this
    · cases ho
  | [], xs, o + 1, r, l, k, ho, hv, hx => by simp [Ex.over] at ho
  | v :: vs, xs, o + 1, r, l, k, ho, hv, hx => by
    unfold Ex.over at ho
    split at ho
    · rename_i r' hr
      cases ho
      obtain ⟨y, ys, h1, h2, rfl⟩ := hv.of_cons
      obtain ⟨h5, h6⟩ := RL.over hr h2 hx
      refine ⟨?_, by simp; omega⟩
      have := RL.cons h1 h5
      simpa [Nat.add_right_comm] using this
    · cases ho

theorem R.one {v : AVal} {x : Value} (h : R σ v x) (h1 : v.one = true) : x.oneCell' = true := by
  cases v <;> simp only [R] at h
  case s u => exact h.1 ▸ h.2
  case ptr => obtain ⟨m, _, rfl⟩ := h; rfl
  case slice => obtain ⟨m, q, _, _, rfl⟩ := h; rfl
  case map => obtain ⟨m, _, rfl⟩ := h; rfl
  case func => obtain ⟨xs, ys, _, _, rfl⟩ := h; rfl
  case iface => obtain ⟨y, _, rfl⟩ := h; rfl
  case agg => cases h1
  case tuple => cases h1
  case sym => obtain ⟨z, _, rfl⟩ := h; rfl
  case opq => exact h.2

theorem RL.ones : ∀ {vs : List AVal} {l : List Value}, RL σ vs l → vs.all AVal.one = true → ∀ x ∈ l, x.oneCell' = true
  | [], l, h, _, x, hx => by rw [h.of_nil] at hx; cases hx
  | v :: vs, l, h, ho, x, hx => by
    obtain ⟨y, ys, h1, h2, rfl⟩ := h.of_cons
    simp only [List.all_cons, Bool.and_eq_true] at ho
    rcases List.mem_cons.1 hx with rfl | hx
    · exact h1.one ho.1
    · exact RL.ones h2 ho.2 x hx

theorem R.cells {v : AVal} {x : Value} (h : R σ v x) : RL σ v.cells x.cells.toList := by
  cases v <;> simp only [R] at h
  case agg => obtain ⟨l, h, rfl⟩ := h; simpa [AVal.cells, Value.cells] using h
  case s u =>
    obtain ⟨rfl, h1⟩ := h
    have : x.cells = #[x] := by cases x <;> first | rfl | cases h1
    rw [this]
    exact .cons (by rw [R]; exact ⟨rfl, h1⟩) .nil
  case ptr => obtain ⟨m, h, rfl⟩ := h; exact .cons (by simp only [R]; exact ⟨m, h, rfl⟩) .nil
  case slice => obtain ⟨m, q, h, h', rfl⟩ := h; exact .cons (by simp only [R]; exact ⟨m, q, h, h', rfl⟩) .nil
  case map => obtain ⟨m, h, rfl⟩ := h; exact .cons (by simp only [R]; exact ⟨m, h, rfl⟩) .nil
  case func => obtain ⟨xs, ys, h, h', rfl⟩ := h; exact .cons (by simp only [R]; exact ⟨xs, ys, h, h', rfl⟩) .nil
  case iface => obtain ⟨y, h, rfl⟩ := h; exact .cons (by simp only [R]; exact ⟨y, h, rfl⟩) .nil
  case tuple => obtain ⟨l, h, rfl⟩ := h; exact .cons (by simp only [R]; exact ⟨l, h, rfl⟩) .nil
  case sym => obtain ⟨z, h, rfl⟩ := h; exact .cons (by simp only [R]; exact ⟨z, h, rfl⟩) .nil
  case opq k =>
    have : x.cells = #[x] := by
      have h1 := h.2
      cases x <;> first | rfl | cases h1
    rw [this]
    exact .cons (by rw [R]; exact h) .nil

theorem atom_one {v : Value} (h : atom v = true) : v.oneCell' = true := by cases v <;> first | rfl | cases h

theorem lift1_R {v : Value} {x : AVal} (h : lift1 v = some x) : R σ x v := by
  unfold lift1 at h
  split at h
  · rename_i ha
    cases h
    rw [R]
    exact ⟨rfl, atom_one ha⟩
  · cases h

theorem liftL_R : ∀ {l : List Value} {r : List AVal}, liftL l = some r → RL σ r l
  | [], r, h => by cases h; exact .nil
  | v :: l, r, h => by
    unfold liftL at h
    split at h
    · rename_i x r' h1 h2
      cases h
      exact .cons (lift1_R h1) (liftL_R h2)
    · cases h

theorem lift_R {v : Value} {x : AVal} (h : lift v = some x) : R σ x v := by
  unfold lift at h
  split at h
  · rename_i cs
    split at h
    · rename_i l hl
      cases h
      rw [R]
      exact ⟨cs.toList, liftL_R hl, by simp⟩
    · cases h
  · rename_i cs
    split at h
    · rename_i l hl
      cases h
      rw [R]
      exact ⟨cs.toList, liftL_R hl, by simp⟩
    · cases h
  · exact lift1_R h

theorem valL_R : ∀ {vs : List AVal} {l k : List Value}, valL vs = some l → RL σ vs k → k = l
  | [], l, k, h, hr => by cases h; exact hr.of_nil
  | .s v :: vs, l, k, h, hr => by
    unfold valL at h
    split at h
    · rename_i r hr'
      cases h
      obtain ⟨x, xs, h1, h2, rfl⟩ := hr.of_cons
      simp only [R] at h1
      rw [h1.1, valL_R hr' h2]
    · cases h
  | .ptr _ _ :: _, _, _, h, _ => by cases h
  | .slice _ _ _ _ :: _, _, _, h, _ => by cases h
  | .map _ :: _, _, _, h, _ => by cases h
  | .func _ _ _ :: _, _, _, h, _ => by cases h
  | .iface _ _ :: _, _, _, h, _ => by cases h
  | .agg _ :: _, _, _, h, _ => by cases h
  | .tuple _ :: _, _, _, h, _ => by cases h
  | .sym _ _ :: _, _, _, h, _ => by cases h
  | .opq _ :: _, _, _, h, _ => by cases h

theorem val_R {v : AVal} {x y : Value} (h : v.val = some x) (hr : R σ v y) : y = x := by
  unfold AVal.val at h
  split at h
  · cases h; simp only [R] at hr; exact hr.1
  · split at h
    · rename_i l hl
      cases h
      simp only [R] at hr
      obtain ⟨k, hk, rfl⟩ := hr
      rw [valL_R hl hk]
    · cases h
  · cases h
end lists
end Go.Proofs.YtagccbpjpcnmeaaGreatDoor.Ex
