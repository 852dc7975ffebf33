/-
  The program's store: made, there, may.
-/
import Derived.Test.YtagccbpjpcnmeaaGreatDoorQRef
set_option linter.unusedVariables false
set_option linter.unusedSimpArgs false
namespace Go.Proofs.YtagccbpjpcnmeaaGreatDoor
open Go Go.RowKit

theorem neq_map (b : Nat) (W : World) : (binOp .neq 102 (.map (some b)) (.map none)).run Tryz.prog W = .ok (.bool true) W := by kernel_rfl

theorem smade_any (s : Nat) (F : Nat → Prop) (L : List TermD) (w : World) (h : ProgStore w s F L) :
    Calls Tryz.prog 32 #[.pointer (some ⟨s, 0, none⟩)] w fun e w' => e = .returned (.bool true) ∧ w' = w := by
  obtain ⟨v, b, D, hrow, _⟩ := h
  have c1 : w.cell? ⟨s, 1, none⟩ = some (.map (some b)) := by rw [cell_row hrow]; rfl
  clear hrow
  have hneq := neq_map b
  go_enter Tryz.func32, Tryz.ntmps32
  go_wp2
  go_ret
  exact ⟨rfl, rfl⟩

theorem smade_nil (w : World) : Calls Tryz.prog 32 #[.pointer none] w fun e w' => e = .returned (.bool false) ∧ w' = w := by
  go_enter Tryz.func32, Tryz.ntmps32
  go_wp2
  go_ret
  exact ⟨rfl, rfl⟩

theorem sthere_any (s : Nat) (F : Nat → Prop) (L : List TermD) (n : Int) (w : World) (h : ProgStore w s F L) (hl : L.length ≤ 2000000) :
    Calls Tryz.prog 112 #[.pointer (some ⟨s, 0, none⟩), .int .i64 n] w fun e w' => e = .returned (.bool (thereD L.length n)) ∧ w' = w := by
  obtain ⟨v, b, D, hrow, hown, _⟩ := h
  obtain ⟨a, c, rfl, _⟩ := ownT_len hown
  have c0 : w.cell? ⟨s, 0, none⟩ = some (.slice a L.length c) := by rw [cell_row hrow]; rfl
  clear hown hrow
  by_cases h1 : 1 ≤ n
  · by_cases h2 : n ≤ L.length
    · go_enter Tryz.func112, Tryz.ntmps112
      go_wp2
      go_ret
      exact ⟨by simp [thereD, h1, h2], rfl⟩
    · go_enter Tryz.func112, Tryz.ntmps112
      go_wp2
      go_ret
      exact ⟨by simp [thereD, h1, h2], rfl⟩
  · go_enter Tryz.func112, Tryz.ntmps112
    go_wp2
    go_ret
    exact ⟨by simp only [thereD, decide_eq_false (show ¬ 1 ≤ n by omega), Bool.false_and]; rfl, rfl⟩

theorem below_drewN {B : Nat} {a w : World} (h : Below B a w) (n : Nat) : Below B a (w.drewN n) := ⟨h.os, h.tape, h.output, h.size, h.block⟩

set_option maxRecDepth 100000 in
set_option maxHeartbeats 1600000 in
theorem smay_any (r : Nat) (F : Nat → Prop) (L : List TermD) (t : TermD) (ht : t.ok) (w : World) (h : ProgStore w r F L) (hl : L.length ≤ 2000000) :
    Calls Tryz.prog 56 #[.pointer (some ⟨r, 0, none⟩), .agg #[.int .u8 t.kind, .int .i64 t.n, .int .i64 t.a, .int .i64 t.b]] w fun e w' => e = .returned (.bool (mayD L.length t)) ∧ Below w.heap.size w w' := by
  obtain ⟨k, n, a, b⟩ := t
  obtain ⟨⟨hk0, hk1⟩, _⟩ := ht
  simp only at hk0 hk1 ⊢
  have hb1 := fun (k n a b : Int) => (Below.refl w.heap.size w).alloc (Nat.le_refl _) (.cells #[.int .u8 k, .int .i64 n, .int .i64 a, .int .i64 b] 95)
  have hth := fun (x k n a b : Int) (d : Nat) => sthere_any r F L x _ (h.kept ((Turned.new (fun _ => False) (hb1 k n a b)).drewN d) (fun _ _ h => h)) hl
  have Hb1 := Lib.hid hb1; clear hb1
  have Hth := Lib.hid hth; clear hth
  clear h
  have cases8 : k = 1 ∨ k = 2 ∨ k = 3 ∨ k = 6 ∨ k = 4 ∨ k = 5 ∨ k = 7 ∨ (k ≠ 1 ∧ k ≠ 2 ∧ k ≠ 3 ∧ k ≠ 6 ∧ k ≠ 4 ∧ k ≠ 5 ∧ k ≠ 7) := by omega
  have c1 : ¬ 0 ≤ n ∨ (0 ≤ n ∧ ¬ a = 0) ∨ (0 ≤ n ∧ a = 0 ∧ ¬ b = 0) ∨ (0 ≤ n ∧ a = 0 ∧ b = 0) := by omega
  have c2 : ¬ a = 0 ∨ (a = 0 ∧ ¬ b = 0) ∨ (a = 0 ∧ b = 0) := by omega
  have c3 : ¬ n = 0 ∨ (n = 0 ∧ thereD L.length a = false) ∨ (n = 0 ∧ thereD L.length a = true ∧ thereD L.length b = false) ∨ (n = 0 ∧ thereD L.length a = true ∧ thereD L.length b = true) := by
    cases thereD L.length a <;> cases thereD L.length b <;> by_cases h0 : n = 0 <;> simp [h0]
  have c4 : ¬ 0 ≤ n ∨ (0 ≤ n ∧ thereD L.length a = false) ∨ (0 ≤ n ∧ thereD L.length a = true ∧ b = 0) ∨ (0 ≤ n ∧ thereD L.length a = true ∧ ¬ b = 0 ∧ thereD L.length b = false) ∨ (0 ≤ n ∧ thereD L.length a = true ∧ ¬ b = 0 ∧ thereD L.length b = true) := by
    cases thereD L.length a <;> cases thereD L.length b <;> by_cases h0 : 0 ≤ n <;> by_cases hb : b = 0 <;> simp [h0, hb]
  have c5 : ¬ n = 0 ∨ (n = 0 ∧ thereD L.length a = false) ∨ (n = 0 ∧ thereD L.length a = true ∧ ¬ b = 0) ∨ (n = 0 ∧ thereD L.length a = true ∧ b = 0) := by
    cases thereD L.length a <;> by_cases h0 : n = 0 <;> by_cases hb : b = 0 <;> simp [h0, hb]
  rcases cases8 with rfl | rfl | rfl | rfl | rfl | rfl | rfl | ⟨e1, e2, e3, e6, e4, e5, e7⟩
  · clear c2 c3 c4 c5
    rcases c1 with h1 | ⟨h1, h2⟩ | ⟨h1, rfl, h3⟩ | ⟨h1, rfl, rfl⟩
    all_goals
      have t00 : thereD L.length 0 = false := by simp [thereD]
      go_enter Tryz.func56, Tryz.ntmps56
      go_wp2_with fail
      go_quiet ((go_at_call 112; exact Calls.quiet_of_same (Hth.out _ _ _ _ _ _)))
      go_wp2
      go_ret
      exact ⟨by simp [mayD, *] <;> (intro h0; omega), below_drewN (Hb1.out _ _ _ _) _⟩
  · clear c1 c3 c4 c5
    rcases c2 with h2 | ⟨rfl, h3⟩ | ⟨rfl, rfl⟩
    all_goals
      have t00 : thereD L.length 0 = false := by simp [thereD]
      go_enter Tryz.func56, Tryz.ntmps56
      go_wp2_with fail
      go_quiet ((go_at_call 112; exact Calls.quiet_of_same (Hth.out _ _ _ _ _ _)))
      go_wp2
      go_ret
      exact ⟨by simp [mayD, *] <;> (intro h0; omega), below_drewN (Hb1.out _ _ _ _) _⟩
  · clear c1 c2 c4 c5
    rcases c3 with h1 | ⟨rfl, h2⟩ | ⟨rfl, h2, h3⟩ | ⟨rfl, h2, h3⟩
    all_goals
      have t00 : thereD L.length 0 = false := by simp [thereD]
      go_enter Tryz.func56, Tryz.ntmps56
      go_wp2_with fail
      go_quiet ((go_at_call 112; exact Calls.quiet_of_same (Hth.out _ _ _ _ _ _)))
      go_wp2
      go_ret
      exact ⟨by simp [mayD, *] <;> (intro h0; omega), below_drewN (Hb1.out _ _ _ _) _⟩
  · clear c1 c2 c4 c5
    rcases c3 with h1 | ⟨rfl, h2⟩ | ⟨rfl, h2, h3⟩ | ⟨rfl, h2, h3⟩
    all_goals
      have t00 : thereD L.length 0 = false := by simp [thereD]
      go_enter Tryz.func56, Tryz.ntmps56
      go_wp2_with fail
      go_quiet ((go_at_call 112; exact Calls.quiet_of_same (Hth.out _ _ _ _ _ _)))
      go_wp2
      go_ret
      exact ⟨by simp [mayD, *] <;> (intro h0; omega), below_drewN (Hb1.out _ _ _ _) _⟩
  · clear c1 c2 c3 c5
    rcases c4 with h1 | ⟨h1, h2⟩ | ⟨h1, h2, rfl⟩ | ⟨h1, h2, h3, h4⟩ | ⟨h1, h2, h3, h4⟩
    all_goals
      have t00 : thereD L.length 0 = false := by simp [thereD]
      go_enter Tryz.func56, Tryz.ntmps56
      go_wp2_with fail
      go_quiet ((go_at_call 112; exact Calls.quiet_of_same (Hth.out _ _ _ _ _ _)))
      go_wp2
      go_ret
      exact ⟨by simp [mayD, *] <;> (intro h0; omega), below_drewN (Hb1.out _ _ _ _) _⟩
  · clear c1 c2 c3 c4
    rcases c5 with h1 | ⟨rfl, h2⟩ | ⟨rfl, h2, h3⟩ | ⟨rfl, h2, rfl⟩
    all_goals
      have t00 : thereD L.length 0 = false := by simp [thereD]
      go_enter Tryz.func56, Tryz.ntmps56
      go_wp2_with fail
      go_quiet ((go_at_call 112; exact Calls.quiet_of_same (Hth.out _ _ _ _ _ _)))
      go_wp2
      go_ret
      exact ⟨by simp [mayD, *] <;> (intro h0; omega), below_drewN (Hb1.out _ _ _ _) _⟩
  · clear c1 c2 c3 c4
    rcases c5 with h1 | ⟨rfl, h2⟩ | ⟨rfl, h2, h3⟩ | ⟨rfl, h2, rfl⟩
    all_goals
      have t00 : thereD L.length 0 = false := by simp [thereD]
      go_enter Tryz.func56, Tryz.ntmps56
      go_wp2_with fail
      go_quiet ((go_at_call 112; exact Calls.quiet_of_same (Hth.out _ _ _ _ _ _)))
      go_wp2
      go_ret
      exact ⟨by simp [mayD, *] <;> (intro h0; omega), below_drewN (Hb1.out _ _ _ _) _⟩
  · clear c1 c2 c3 c4 c5
    have t00 : thereD L.length 0 = false := by simp [thereD]
    go_enter Tryz.func56, Tryz.ntmps56
    go_wp2_with fail
    go_quiet ((go_at_call 112; exact Calls.quiet_of_same (Hth.out _ _ _ _ _ _)))
    go_wp2
    go_ret
    exact ⟨by simp [mayD, *] <;> (intro h0; omega), below_drewN (Hb1.out _ _ _ _) _⟩
end Go.Proofs.YtagccbpjpcnmeaaGreatDoor
