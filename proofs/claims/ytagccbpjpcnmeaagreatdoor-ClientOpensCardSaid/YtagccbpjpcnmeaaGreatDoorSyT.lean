/-
  ClientOpens by the executor: the terms that may be; making them.
-/
import Derived.Test.YtagccbpjpcnmeaaGreatDoorSyM
import Derived.Test.YtagccbpjpcnmeaaGreatDoorQBuild
set_option linter.unusedVariables false
set_option linter.unusedSimpArgs false
namespace Go.Proofs.YtagccbpjpcnmeaaGreatDoor.Ex
open Go Go.RowKit Go.Proofs.YtagccbpjpcnmeaaGreatDoor

section
variable {σ : Sig}

theorem one_of {a : AVal} {l : List Value} (h : RL σ [a] l) : ∃ x, R σ a x ∧ l = [x] := by
  obtain ⟨x, r, h1, h2, rfl⟩ := h.of_cons
  obtain rfl := h2.of_nil
  exact ⟨x, h1, rfl⟩
theorem two_of {a b : AVal} {l : List Value} (h : RL σ [a, b] l) : ∃ x y, R σ a x ∧ R σ b y ∧ l = [x, y] := by
  obtain ⟨x, r, h1, h2, rfl⟩ := h.of_cons
  obtain ⟨y, h3, rfl⟩ := one_of h2
  exact ⟨x, y, h1, h3, rfl⟩
theorem three_of {a b c : AVal} {l : List Value} (h : RL σ [a, b, c] l) : ∃ x y z, R σ a x ∧ R σ b y ∧ R σ c z ∧ l = [x, y, z] := by
  obtain ⟨x, r, h1, h2, rfl⟩ := h.of_cons
  obtain ⟨y, z, h3, h4, rfl⟩ := two_of h2
  exact ⟨x, y, z, h1, h3, h4, rfl⟩
theorem four_of {a b c d : AVal} {l : List Value} (h : RL σ [a, b, c, d] l) : ∃ x y z u, R σ a x ∧ R σ b y ∧ R σ c z ∧ R σ d u ∧ l = [x, y, z, u] := by
  obtain ⟨x, r, h1, h2, rfl⟩ := h.of_cons
  obtain ⟨y, z, u, h3, h4, h5, rfl⟩ := three_of h2
  exact ⟨x, y, z, u, h1, h3, h4, h5, rfl⟩
theorem ptr_of {b o : Nat} {x : Value} (h : R σ (.ptr b o) x) : ∃ m, σ.blk b = some m ∧ x = .pointer (some ⟨m, o, none⟩) := by rw [R] at h; exact h
theorem agg_of {t : List AVal} {x : Value} (h : R σ (.agg t) x) : ∃ l, RL σ t l ∧ x = .agg l.toArray := by rw [R] at h; exact h
theorem zero_of {v : AVal} {x : Value} (h : isZero v = true) (hx : R σ v x) : x = .int .i64 0 := by
  unfold isZero at h
  split at h
  · exact lit_of hx
  · cases h

theorem int_det {v : AVal} {k k' : IntKind} {z z' : Int} (h : R σ v (.int k z)) (h' : R σ v (.int k' z')) : z = z' := by
  cases v with
  | s u =>
    have e1 := lit_of h
    have e2 := lit_of h'
    rw [← e1] at e2
    cases e2; rfl
  | ptr b o => obtain ⟨_, _, e⟩ := ptr_of h; cases e
  | slice b o n c => rw [R] at h; obtain ⟨_, _, _, _, e⟩ := h; cases e
  | map b => rw [R] at h; obtain ⟨_, _, e⟩ := h; cases e
  | func fn f c => rw [R] at h; obtain ⟨_, _, _, _, e⟩ := h; cases e
  | iface t v => rw [R] at h; obtain ⟨_, _, e⟩ := h; cases e
  | agg vs => rw [R] at h; obtain ⟨_, _, e⟩ := h; cases e
  | tuple vs => rw [R] at h; obtain ⟨_, _, e⟩ := h; cases e
  | sym k n =>
    obtain ⟨y, h1, e⟩ := sym_of h
    obtain ⟨y', h2, e'⟩ := sym_of h'
    cases e; cases e'
    exact Option.some.inj (h1.symm.trans h2)
  | opq n =>
    rw [R] at h h'
    have := Option.some.inj (h.1.symm.trans h'.1)
    cases this; rfl

theorem zero_i64 : i64ok 0 := by simp [i64ok]

theorem mayA_ok {g : Given} {L : List TermD} {h : List HEnt} {A B : List TermD} {k : Nat} {t : List AVal} {l : List Value} (hB : BaseC g σ) (hsy : ∀ x z, σ.sym x = some z → -9223372036854775808 ≤ z ∧ z ≤ 9223372036854775807) (hL : Fine 0 L) (hc : Chain σ L h A B) (hn : h.length ≤ 1000)
    (hk : k = 0 ∨ k = 1) (hm : mayA (decide (g.draw < 0)) h k t = true) (hx : RL σ t l) : ∃ d : TermD, l = d.vals ∧ d.ok ∧ mayD (side k A B).length d = true := by
  have hlen : (side k A B).length ≤ 2000000 := by
    obtain ⟨h1, h2⟩ := hc.fine hL
    have := h1.len
    have := h2.len
    rcases hk with rfl | rfl <;> simp only [side] <;> omega
  have th : ∀ {a : AVal} {x : Value}, inSt h k a = true → R σ a x → ∃ z, x = .int .i64 z ∧ thereD (side k A B).length z = true := fun hi hx => hc.there hL hn hk hi hx
  have ti : ∀ {z : Int}, thereD (side k A B).length z = true → i64ok z := fun h => there_i64 h hlen
  unfold mayA at hm
  split at hm
  · split at hm
    · cases hm
    · rename_i hneg
      simp only [Bool.and_eq_true, decide_eq_false_iff_not] at hm hneg
      obtain ⟨x, y, z, u, h1, h2, h3, h4, rfl⟩ := four_of hx
      obtain rfl := lit_of h1
      obtain ⟨d, h5, rfl⟩ := sym_of h2
      obtain rfl := zero_of hm.1 h3
      obtain rfl := zero_of hm.2 h4
      obtain rfl := Option.some.inj (hB.1.2.2.1.symm.trans h5)
      exact ⟨⟨1, g.draw, 0, 0⟩, rfl, ⟨by simp, hsy _ _ h5, zero_i64, zero_i64⟩, by simp [mayD]; omega⟩
  · simp only [Bool.and_eq_true] at hm
    obtain ⟨x, y, z, u, h1, h2, h3, h4, rfl⟩ := four_of hx
    obtain rfl := lit_of h1
    obtain rfl := lit_of h2
    obtain rfl := zero_of hm.2.1 h3
    obtain rfl := zero_of hm.2.2 h4
    have := Nat.le_of_ble_eq_true hm.1
    exact ⟨⟨2, _, 0, 0⟩, rfl, ⟨by simp, by simp [i64ok]; omega, zero_i64, zero_i64⟩, by simp [mayD]⟩
  · simp only [Bool.and_eq_true] at hm
    obtain ⟨x, y, z, u, h1, h2, h3, h4, rfl⟩ := four_of hx
    obtain rfl := lit_of h1
    obtain ⟨d, h5, rfl⟩ := sym_of h2
    obtain rfl := zero_of hm.1 h3
    obtain rfl := zero_of hm.2 h4
    exact ⟨⟨2, d, 0, 0⟩, rfl, ⟨by simp, hsy _ _ h5, zero_i64, zero_i64⟩, by simp [mayD]⟩
  · simp only [Bool.and_eq_true] at hm
    obtain ⟨x, y, z, u, h1, h2, h3, h4, rfl⟩ := four_of hx
    obtain rfl := lit_of h1
    obtain rfl := zero_of hm.1.1 h2
    obtain ⟨a, rfl, ha⟩ := th hm.1.2 h3
    obtain ⟨b, rfl, hb⟩ := th hm.2 h4
    exact ⟨⟨3, 0, a, b⟩, rfl, ⟨by simp, zero_i64, ti ha, ti hb⟩, by simp [mayD, ha, hb]⟩
  · simp only [Bool.and_eq_true] at hm
    obtain ⟨x, y, z, u, h1, h2, h3, h4, rfl⟩ := four_of hx
    obtain rfl := lit_of h1
    obtain rfl := zero_of hm.1.1 h2
    obtain ⟨a, rfl, ha⟩ := th hm.1.2 h3
    obtain ⟨b, rfl, hb⟩ := th hm.2 h4
    exact ⟨⟨6, 0, a, b⟩, rfl, ⟨by simp, zero_i64, ti ha, ti hb⟩, by simp [mayD, ha, hb]⟩
  · simp only [Bool.and_eq_true, Bool.or_eq_true] at hm
    obtain ⟨x, y, z, u, h1, h2, h3, h4, rfl⟩ := four_of hx
    obtain rfl := lit_of h1
    obtain rfl := lit_of h2
    have := Nat.le_of_ble_eq_true hm.1
    obtain ⟨a, rfl, ha⟩ := th hm.2.1 h3
    rcases hm.2.2 with h6 | h6
    · obtain ⟨b, rfl, hb⟩ := th h6 h4
      exact ⟨⟨4, _, a, b⟩, rfl, ⟨by simp, by simp [i64ok]; omega, ti ha, ti hb⟩, by simp [mayD, ha, hb]⟩
    · obtain rfl := zero_of h6 h4
      exact ⟨⟨4, _, a, 0⟩, rfl, ⟨by simp, by simp [i64ok]; omega, ti ha, zero_i64⟩, by simp [mayD, ha]⟩
  · simp only [Bool.and_eq_true] at hm
    obtain ⟨x, y, z, u, h1, h2, h3, h4, rfl⟩ := four_of hx
    obtain rfl := lit_of h1
    obtain rfl := zero_of hm.1.1 h2
    obtain ⟨a, rfl, ha⟩ := th hm.1.2 h3
    obtain rfl := zero_of hm.2 h4
    exact ⟨⟨5, 0, a, 0⟩, rfl, ⟨by simp, zero_i64, ti ha, zero_i64⟩, by simp [mayD, ha]⟩
  · simp only [Bool.and_eq_true] at hm
    obtain ⟨x, y, z, u, h1, h2, h3, h4, rfl⟩ := four_of hx
    obtain rfl := lit_of h1
    obtain rfl := zero_of hm.1.1 h2
    obtain ⟨a, rfl, ha⟩ := th hm.1.2 h3
    obtain rfl := zero_of hm.2 h4
    exact ⟨⟨7, 0, a, 0⟩, rfl, ⟨by simp, zero_i64, ti ha, zero_i64⟩, by simp [mayD, ha]⟩
  · cases hm
end

section
variable {g : Given} {B : World} {σ : Sig} {S S' : St} {w w' : World}

/-- One number more, and another footprint. -/
def Sig.more (σ : Sig) (n : Nat) (z : Int) (F : Nat → Prop) : Sig := { σ with sym := fun y => if y = n then some z else σ.sym y, foot := F }

theorem Sig.le_more {n : Nat} {z : Int} {F : Nat → Prop} (h : σ.sym n = none) : σ.le (σ.more n z F) := ⟨fun _ _ h => ⟨h, rfl⟩, fun x y hx => by
  have : x ≠ n := fun e => by rw [e, h] at hx; cases hx
  simp [Sig.more, this, hx], fun _ _ h => h⟩

theorem Rep.more (h : Rep g.env (knowC g) B σ S w) {z : Int} (hz : 1 ≤ z ∧ z ≤ 1048576) {F : Nat → Prop} {e : HEnt}
    (hkeep : ∀ i, i < w.heap.size → ¬ σ.foot i → w'.heap[i]? = w.heap[i]?) (hsz : w.heap.size ≤ w'.heap.size) (hout : Outs w w') (hfoot : ∀ i, F i → (σ.foot i ∨ w.heap.size ≤ i) ∧ i < w'.heap.size)
    (hres : ResC (σ.more S.nsym z F) (e :: S.hist) w') : Rep g.env (knowC g) B (σ.more S.nsym z F) { S with nsym := S.nsym + 1, hist := e :: S.hist } w' := by
  have hnone := h.free S.nsym (Nat.le_refl _)
  have hlow : ∀ x z, σ.sym x = some z → x < S.nsym := fun x z hx => Nat.lt_of_not_le fun hc => by rw [(h.free x hc).1] at hx; cases hx
  refine h.outer (Sig.le_more hnone.1) rfl (fun b m hb => .inl hb) hkeep hsz hout hfoot ?_ hres ?_ ?_
  · obtain ⟨⟨b, b0, b1, b2, b3, b4⟩, hterm, hd⟩ := h.base
    have put : ∀ x z', σ.sym x = some z' → (σ.more S.nsym z F).sym x = some z' := fun x z' hx => (Sig.le_more hnone.1).sym _ _ hx
    refine ⟨⟨b, put _ _ b0, put _ _ b1, put _ _ b2, put _ _ b3, put _ _ b4⟩, fun x z' hx hz' => ?_, hd⟩
    simp only [Sig.more] at hz'
    split at hz'
    · cases hz'; exact hz
    · exact hterm x z' hx hz'
  · intro x z' hx
    simp only [Sig.more] at hx
    split at hx
    · cases hx; omega
    · exact h.syms x z' hx
  · intro x hx
    have hx : S.nsym + 1 ≤ x := hx
    have := h.free x (by omega)
    refine ⟨?_, this.2⟩
    simp only [Sig.more, if_neg (show x ≠ S.nsym by omega)]
    exact this.1
end
end Go.Proofs.YtagccbpjpcnmeaaGreatDoor.Ex
