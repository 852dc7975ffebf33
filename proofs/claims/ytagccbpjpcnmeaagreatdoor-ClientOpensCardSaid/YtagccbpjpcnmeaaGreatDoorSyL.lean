/-
  ClientOpens by the executor: comparisons of numbers that are not known.
-/
import Derived.Test.YtagccbpjpcnmeaaGreatDoorSyK
set_option linter.unusedVariables false
set_option linter.unusedSimpArgs false
namespace Go.Proofs.YtagccbpjpcnmeaaGreatDoor.Ex
open Go Go.RowKit Go.Proofs.YtagccbpjpcnmeaaGreatDoor

section runs
variable (P : Program) (t : TypeId) (xo yo : Operand) (x y : Int) (w : World)

theorem lss_run : (do eqGuard .lss t xo yo (.int .i64 x) (.int .i64 y); binOp .lss t (.int .i64 x) (.int .i64 y) : Sem Value).run P w = .ok (.bool (decide (x < y))) w := by
  simp [eqGuard, binOp, Op.intCmp]
theorem gtr_run : (do eqGuard .gtr t xo yo (.int .i64 x) (.int .i64 y); binOp .gtr t (.int .i64 x) (.int .i64 y) : Sem Value).run P w = .ok (.bool (decide (y < x))) w := by
  simp [eqGuard, binOp, Op.intCmp]
theorem leq_run : (do eqGuard .leq t xo yo (.int .i64 x) (.int .i64 y); binOp .leq t (.int .i64 x) (.int .i64 y) : Sem Value).run P w = .ok (.bool (decide (x ≤ y))) w := by
  simp [eqGuard, binOp, Op.intCmp]
theorem geq_run : (do eqGuard .geq t xo yo (.int .i64 x) (.int .i64 y); binOp .geq t (.int .i64 x) (.int .i64 y) : Sem Value).run P w = .ok (.bool (decide (y ≤ x))) w := by
  simp [eqGuard, binOp, Op.intCmp]
theorem eql_run : (do eqGuard .eql t xo yo (.int .i64 x) (.int .i64 y); binOp .eql t (.int .i64 x) (.int .i64 y) : Sem Value).run P w = .ok (.bool (decide (x = y))) w := by
  simp [eqGuard, binOp, Op.intCmp]
  rfl
theorem neq_run : (do eqGuard .neq t xo yo (.int .i64 x) (.int .i64 y); binOp .neq t (.int .i64 x) (.int .i64 y) : Sem Value).run P w = .ok (.bool (decide (x ≠ y))) w := by
  by_cases h : x = y <;> simp [eqGuard, binOp, Op.intCmp, h]
theorem quo_run (h : i64ok x) : (do eqGuard .quo t xo yo (.int .i64 x) (.int .i64 8); binOp .quo t (.int .i64 x) (.int .i64 8) : Sem Value).run P w = .ok (.int .i64 (x.tdiv 8)) w := by
  have := IntWalk.i64_quo' x 8 ⟨h.1, h.2, by omega⟩
  simp [eqGuard, binOp, Op.intDiv, this]
theorem sub_run (h : i64ok (x - y)) : (do eqGuard .sub t xo yo (.int .i64 x) (.int .i64 y); binOp .sub t (.int .i64 x) (.int .i64 y) : Sem Value).run P w = .ok (.int .i64 (x - y)) w := by
  have := IntWalk.i64_in (x - y) ⟨h.1, h.2⟩
  simp [eqGuard, binOp, Op.intArith, this]
end runs

theorem tdiv8 {x : Int} (h : i64ok x) : -1152921504606846976 ≤ x.tdiv 8 ∧ x.tdiv 8 ≤ 1152921504606846976 ∧ (0 ≤ x → 0 ≤ x.tdiv 8) := by
  unfold i64ok at h
  by_cases h0 : 0 ≤ x
  · rw [Int.tdiv_eq_ediv_of_nonneg h0]
    omega
  · have h1 := Int.neg_tdiv x 8
    rw [Int.tdiv_eq_ediv_of_nonneg (by omega : 0 ≤ -x)] at h1
    omega

/-- What the law is called with. -/
structure Given where
  a : Option Addr
  n : Nat
  c : Nat
  dev : Int
  draw : Int

def BaseC (g : Given) (σ : Sig) : Prop :=
  (σ.opq 0 = some (.slice g.a g.n g.c) ∧ σ.sym 0 = some g.dev ∧ σ.sym 1 = some g.draw ∧ σ.sym 2 = some (g.n : Int) ∧ σ.sym 3 = some (g.dev.tdiv 8) ∧ σ.sym 4 = some (-1 - g.dev.tdiv 8)) ∧
    (∀ x z, 100 ≤ x → σ.sym x = some z → 1 ≤ z ∧ z ≤ 1048576) ∧ i64ok g.dev

noncomputable def Given.env (g : Given) : Env := envC (decide (2000 < g.n)) (decide (512 ≤ g.dev)) (decide (g.dev < 0)) (decide (g.draw < 0))

theorem bool_of {σ : Sig} {r : Result Value} {a b : Bool} {w : World} (h : r = .ok (.bool a) w) (e : b = a) : ∃ u, r = .ok u w ∧ R σ (.s (.bool b)) u := ⟨_, h, by rw [R, e]; exact ⟨rfl, rfl⟩⟩

theorem cmpLit_ok (g : Given) {op : BinOp} {x : Nat} {z : Int} {v : AVal} (hf : cmpLit (decide (2000 < g.n)) (decide (512 ≤ g.dev)) (decide (g.dev < 0)) (decide (g.draw < 0)) op x z = some v) {σ : Sig} {y : Int} (hB : BaseC g σ) (hy : σ.sym x = some y)
    (P : Program) (t : TypeId) (xo yo : Operand) (w : World) : ∃ u, (do eqGuard op t xo yo (.int .i64 y) (.int .i64 z); binOp op t (.int .i64 y) (.int .i64 z) : Sem Value).run P w = .ok u w ∧ R σ v u := by
  obtain ⟨⟨_, b0, b1, b2, b3, b4⟩, hterm, hd⟩ := hB
  have ht8 := tdiv8 hd
  have hterm' : Nat.ble 100 x = true → 1 ≤ y ∧ y ≤ 1048576 := fun h => hterm x y (Nat.le_of_ble_eq_true h) hy
  unfold cmpLit at hf
  split at hf
  · cases hf
    have := hterm' (by assumption)
    exact bool_of (lss_run P t xo yo y 1 w) (by simp; omega)
  · cases hf
    have := hterm' (by assumption)
    exact bool_of (lss_run P t xo yo y 0 w) (by simp; omega)
  · cases hf
    have := hterm' (by assumption)
    exact bool_of (gtr_run P t xo yo y 0 w) (by simp; omega)
  · cases hf
    have := hterm' (by assumption)
    exact bool_of (eql_run P t xo yo y 0 w) (by simp; omega)
  · cases hf
    have := hterm' (by assumption)
    exact bool_of (neq_run P t xo yo y 0 w) (by simp; omega)
  · cases hf
    obtain rfl := Option.some.inj (b2.symm.trans hy)
    exact bool_of (gtr_run P t xo yo g.n 2000 w) (by simp; omega)
  · cases hf
    obtain rfl := Option.some.inj (b0.symm.trans hy)
    exact bool_of (lss_run P t xo yo g.dev 0 w) rfl
  · cases hf
    obtain rfl := Option.some.inj (b0.symm.trans hy)
    exact bool_of (geq_run P t xo yo g.dev 512 w) rfl
  · cases hf
    obtain rfl := Option.some.inj (b1.symm.trans hy)
    exact bool_of (lss_run P t xo yo g.draw 0 w) rfl
  · cases hf
    obtain rfl := Option.some.inj (b0.symm.trans hy)
    exact bool_of (geq_run P t xo yo g.dev 0 w) (by by_cases h : g.dev < 0 <;> simp [h] <;> omega)
  · cases hf
    have := hterm' (by assumption)
    exact bool_of (geq_run P t xo yo y 1 w) (by simp; omega)
  · cases hf
    have := hterm' (by assumption)
    exact bool_of (leq_run P t xo yo y 0 w) (by simp; omega)
  · cases hf
    obtain rfl := Option.some.inj (b0.symm.trans hy)
    exact ⟨_, quo_run P t xo yo g.dev w hd, by rw [R]; exact ⟨_, b3, rfl⟩⟩
  · split at hf
    · rename_i hneg
      cases hf
      obtain rfl := Option.some.inj (b4.symm.trans hy)
      simp only [decide_eq_false_iff_not] at hneg
      exact bool_of (lss_run P t xo yo _ 0 w) (by simp; omega)
    · cases hf
  · split at hf
    · rename_i hneg
      cases hf
      obtain rfl := Option.some.inj (b4.symm.trans hy)
      simp only [decide_eq_false_iff_not] at hneg
      exact bool_of (geq_run P t xo yo _ 0 w) (by simp; omega)
    · cases hf
  · cases hf

theorem sym_of {σ : Sig} {k : IntKind} {n : Nat} {x : Value} (h : R σ (.sym k n) x) : ∃ z, σ.sym n = some z ∧ x = .int k z := by rw [R] at h; exact h
theorem lit_of {σ : Sig} {v x : Value} (h : R σ (.s v) x) : x = v := by rw [R] at h; exact h.1

theorem binC_ok (g : Given) {op : BinOp} {a b v : AVal} (hf : binC (decide (2000 < g.n)) (decide (512 ≤ g.dev)) (decide (g.dev < 0)) (decide (g.draw < 0)) op a b = some v) {σ : Sig} {x y : Value} (hB : BaseC g σ) (ha : R σ a x) (hb : R σ b y)
    (P : Program) (t : TypeId) (xo yo : Operand) (w : World) : ∃ u, (do eqGuard op t xo yo x y; binOp op t x y : Sem Value).run P w = .ok u w ∧ R σ v u := by
  unfold binC at hf
  split at hf
  · obtain ⟨z, h1, rfl⟩ := sym_of ha
    obtain rfl := lit_of hb
    exact cmpLit_ok g hf hB h1 P t xo yo w
  · split at hf
    · cases hf
      obtain rfl := lit_of ha
      obtain ⟨z, h1, rfl⟩ := sym_of hb
      obtain ⟨⟨_, b0, b1, b2, b3, b4⟩, hterm, hd⟩ := hB
      have ht8 := tdiv8 hd
      obtain rfl := Option.some.inj (b3.symm.trans h1)
      have e : Int.negSucc 0 = (-1 : Int) := rfl
      exact ⟨_, sub_run P t xo yo (Int.negSucc 0) (g.dev.tdiv 8) w (by rw [e]; unfold i64ok; omega), by rw [R]; exact ⟨_, b4, by rw [e]⟩⟩
    · cases hf
  · obtain ⟨z, h1, rfl⟩ := sym_of ha
    obtain ⟨z', h2, rfl⟩ := sym_of hb
    split at hf
    · rename_i hxy
      cases hf
      obtain rfl := Nat.eq_of_beq_eq_true hxy
      obtain rfl := Option.some.inj (h1.symm.trans h2)
      exact bool_of (eql_run P t xo yo z z w) (by simp)
    · rename_i hxy
      cases hf
      obtain rfl := Nat.eq_of_beq_eq_true hxy
      obtain rfl := Option.some.inj (h1.symm.trans h2)
      exact bool_of (neq_run P t xo yo z z w) (by simp)
    · cases hf
  · cases hf
end Go.Proofs.YtagccbpjpcnmeaaGreatDoor.Ex
