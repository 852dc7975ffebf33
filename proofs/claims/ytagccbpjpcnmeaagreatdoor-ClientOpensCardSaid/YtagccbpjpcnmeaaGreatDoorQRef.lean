/-
  The document's store: there, May, Get, New; its list compared with a term.
-/
import Derived.Test.YtagccbpjpcnmeaaGreatDoorQStore
import Derived.Test.YtagccbpjpcnmeaaGreatDoorQPure
import Derived.Deep.QuietTactic
import Derived.BigQuiet
import Derived.Deep.RegionHeld3
set_option linter.unusedVariables false
set_option linter.unusedSimpArgs false
namespace Go.Proofs.YtagccbpjpcnmeaaGreatDoor
open Go Go.RowKit

theorem ownT_len {v : Value} {L : List TermD} {w : World} (h : OwnT v L w) : ∃ a c, v = .slice a L.length c ∧ L.length ≤ c := by
  rcases h.2 with ⟨h1, h2⟩ | ⟨g, cap, cur, h1, _, _, h4, _⟩
  · exact ⟨none, 0, by rw [h1, h2], by omega⟩
  · exact ⟨_, cap, h1, h4⟩

theorem ownT_at {a : Option Addr} {n c : Nat} {L : List TermD} {w : World} (h : OwnT (.slice a n c) L w) : Terms w a L.length (fun i => L.getD i zeroT) := by
  rcases h.2 with ⟨_, h2⟩ | ⟨g, cap, cur, h1, _, hg, h4, _, hs, ht⟩
  · intro i hi; omega
  · obtain ⟨rfl, _, _⟩ : a = some ⟨g, 0, none⟩ ∧ n = L.length ∧ c = cap := by simpa using h1
    intro i hi
    refine ⟨g, 0, rfl, ?_⟩
    have hc : ∀ j, j < 4 → w.cell? ⟨g, 0 + i * 4 + j, none⟩ = (L.getD i zeroT).vals[j]? := fun j hj => by
      rw [cell_row hg, Nat.zero_add, ← flat4 zeroT L i j hi hj, ← ht, List.getElem?_take]
      have hm : (i + 1) * 4 ≤ L.length * 4 := Nat.mul_le_mul_right 4 hi
      rw [if_pos (by omega), Array.getElem?_toList]
    exact ⟨hc 0 (by omega), hc 1 (by omega), hc 2 (by omega), hc 3 (by omega)⟩

theorem rthere_any (r : Nat) (F : Nat → Prop) (L : List TermD) (n : Int) (w : World) (h : RefStore w r F L) (hl : L.length ≤ 2000000) :
    Calls Tryz.prog 120 #[.pointer (some ⟨r, 0, none⟩), .int .i64 n] w fun e w' => e = .returned (.bool (thereD L.length n)) ∧ w' = w := by
  obtain ⟨v, hrow, hown, _⟩ := h
  obtain ⟨a, c, rfl, _⟩ := ownT_len hown
  have c0 : w.cell? ⟨r, 0, none⟩ = some (.slice a L.length c) := by rw [cell_row hrow]; rfl
  clear hown hrow
  by_cases h1 : 1 ≤ n
  · by_cases h2 : n ≤ L.length
    · go_enter Tryz.func120, Tryz.ntmps120
      go_wp2
      go_ret
      exact ⟨by simp [thereD, h1, h2], rfl⟩
    · go_enter Tryz.func120, Tryz.ntmps120
      go_wp2
      go_ret
      exact ⟨by simp [thereD, h1, h2], rfl⟩
  · go_enter Tryz.func120, Tryz.ntmps120
    go_wp2
    go_ret
    exact ⟨by simp only [thereD, decide_eq_false (show ¬ 1 ≤ n by omega), Bool.false_and]; rfl, rfl⟩

set_option maxRecDepth 100000 in
set_option maxHeartbeats 1600000 in
theorem rmay_any (r : Nat) (F : Nat → Prop) (L : List TermD) (t : TermD) (ht : t.ok) (w : World) (h : RefStore w r F L) (hl : L.length ≤ 2000000) :
    Calls Tryz.prog 57 #[.pointer (some ⟨r, 0, none⟩), .agg #[.int .u8 t.kind, .int .i64 t.n, .int .i64 t.a, .int .i64 t.b]] w fun e w' => e = .returned (.bool (mayD L.length t)) ∧ Below w.heap.size w w' := by
  obtain ⟨k, n, a, b⟩ := t
  obtain ⟨⟨hk0, hk1⟩, _⟩ := ht
  simp only at hk0 hk1 ⊢
  have hb1 := fun (k n a b : Int) => (Below.refl w.heap.size w).alloc (Nat.le_refl _) (.cells #[.int .u8 k, .int .i64 n, .int .i64 a, .int .i64 b] 95)
  have hth := fun (x k n a b : Int) => rthere_any r F L x _ (h.kept (Turned.new (fun _ => False) (hb1 k n a b)) (fun _ _ h => h)) hl
  have Hb1 := Lib.hid hb1; clear hb1
  have Hth := Lib.hid hth; clear hth
  clear h
  have cases8 : k = 1 ∨ k = 2 ∨ k = 3 ∨ k = 6 ∨ k = 4 ∨ k = 5 ∨ k = 7 ∨ (k ≠ 1 ∧ k ≠ 2 ∧ k ≠ 3 ∧ k ≠ 6 ∧ k ≠ 4 ∧ k ≠ 5 ∧ k ≠ 7) := by omega
  have c1 : ¬ 0 ≤ n ∨ (0 ≤ n ∧ ¬ a = 0) ∨ (0 ≤ n ∧ a = 0 ∧ ¬ b = 0) ∨ (0 ≤ n ∧ a = 0 ∧ b = 0) := by omega
  have c2 : ¬ a = 0 ∨ (a = 0 ∧ ¬ b = 0) ∨ (a = 0 ∧ b = 0) := by omega
  have c3 : ¬ n = 0 ∨ (n = 0 ∧ thereD L.length a = false) ∨ (n = 0 ∧ thereD L.length a = true ∧ thereD L.length b = false) ∨ (n = 0 ∧ thereD L.length a = true ∧ thereD L.length b = true) := by
    cases thereD L.length a <;> cases thereD L.length b <;> by_cases h0 : n = 0 <;> simp [h0]
  have c4 : ¬ 0 ≤ n ∨ (0 ≤ n ∧ thereD L.length a = false) ∨ (0 ≤ n ∧ thereD L.length a = true ∧ b = 0) ∨ (0 ≤ n ∧ thereD L.length a = true ∧ ¬ b = 0 ∧ thereD L.length b = false) ∨ (0 ≤ n ∧ thereD L.length a = true ∧ ¬ b = 0 ∧ thereD L.length b = true) := by
    cases thereD L.length a <;> cases thereD L.length b <;> by_cases h0 : 0 ≤ n <;> by_cases hb : b = 0 <;> simp [h0, hb]
  have c5 : ¬ n = 0 ∨ (n = 0 ∧ thereD L.length a = false) ∨ (n = 0 ∧ thereD L.length a = true ∧ ¬ b = 0) ∨ (n = 0 ∧ thereD L.length a = true ∧ b = 0) := by
    cases thereD L.length a <;> by_cases h0 : n = 0 <;> by_cases hb : b = 0 <;> simp [h0, hb]
  rcases cases8 with rfl | rfl | rfl | rfl | rfl | rfl | rfl | ⟨e1, e2, e3, e6, e4, e5, e7⟩
  · clear c2 c3 c4 c5
    rcases c1 with h1 | ⟨h1, h2⟩ | ⟨h1, rfl, h3⟩ | ⟨h1, rfl, rfl⟩
    all_goals
      go_enter Tryz.func57, Tryz.ntmps57
      go_wp2_with (go_at_call 120; refine (Hth.out _ _ _ _ _).mono ?_; rintro e w' ⟨rfl, rfl⟩)
      go_ret
      exact ⟨by simp [mayD, *] <;> (intro h0; omega), Hb1.out _ _ _ _⟩
  · clear c1 c3 c4 c5
    rcases c2 with h2 | ⟨rfl, h3⟩ | ⟨rfl, rfl⟩
    all_goals
      go_enter Tryz.func57, Tryz.ntmps57
      go_wp2_with (go_at_call 120; refine (Hth.out _ _ _ _ _).mono ?_; rintro e w' ⟨rfl, rfl⟩)
      go_ret
      exact ⟨by simp [mayD, *] <;> (intro h0; omega), Hb1.out _ _ _ _⟩
  · clear c1 c2 c4 c5
    rcases c3 with h1 | ⟨rfl, h2⟩ | ⟨rfl, h2, h3⟩ | ⟨rfl, h2, h3⟩
    all_goals
      go_enter Tryz.func57, Tryz.ntmps57
      go_wp2_with (go_at_call 120; refine (Hth.out _ _ _ _ _).mono ?_; rintro e w' ⟨rfl, rfl⟩)
      go_ret
      exact ⟨by simp [mayD, *] <;> (intro h0; omega), Hb1.out _ _ _ _⟩
  · clear c1 c2 c4 c5
    rcases c3 with h1 | ⟨rfl, h2⟩ | ⟨rfl, h2, h3⟩ | ⟨rfl, h2, h3⟩
    all_goals
      go_enter Tryz.func57, Tryz.ntmps57
      go_wp2_with (go_at_call 120; refine (Hth.out _ _ _ _ _).mono ?_; rintro e w' ⟨rfl, rfl⟩)
      go_ret
      exact ⟨by simp [mayD, *] <;> (intro h0; omega), Hb1.out _ _ _ _⟩
  · clear c1 c2 c3 c5
    rcases c4 with h1 | ⟨h1, h2⟩ | ⟨h1, h2, rfl⟩ | ⟨h1, h2, h3, h4⟩ | ⟨h1, h2, h3, h4⟩
    all_goals
      go_enter Tryz.func57, Tryz.ntmps57
      go_wp2_with (go_at_call 120; refine (Hth.out _ _ _ _ _).mono ?_; rintro e w' ⟨rfl, rfl⟩)
      go_ret
      exact ⟨by simp [mayD, *] <;> (intro h0; omega), Hb1.out _ _ _ _⟩
  · clear c1 c2 c3 c4
    rcases c5 with h1 | ⟨rfl, h2⟩ | ⟨rfl, h2, h3⟩ | ⟨rfl, h2, rfl⟩
    all_goals
      go_enter Tryz.func57, Tryz.ntmps57
      go_wp2_with (go_at_call 120; refine (Hth.out _ _ _ _ _).mono ?_; rintro e w' ⟨rfl, rfl⟩)
      go_ret
      exact ⟨by simp [mayD, *] <;> (intro h0; omega), Hb1.out _ _ _ _⟩
  · clear c1 c2 c3 c4
    rcases c5 with h1 | ⟨rfl, h2⟩ | ⟨rfl, h2, h3⟩ | ⟨rfl, h2, rfl⟩
    all_goals
      go_enter Tryz.func57, Tryz.ntmps57
      go_wp2_with (go_at_call 120; refine (Hth.out _ _ _ _ _).mono ?_; rintro e w' ⟨rfl, rfl⟩)
      go_ret
      exact ⟨by simp [mayD, *] <;> (intro h0; omega), Hb1.out _ _ _ _⟩
  · clear c1 c2 c3 c4 c5
    go_enter Tryz.func57, Tryz.ntmps57
    go_wp2_with (go_at_call 120; refine (Hth.out _ _ _ _ _).mono ?_; rintro e w' ⟨rfl, rfl⟩)
    go_ret
    exact ⟨by simp [mayD, *] <;> (intro h0; omega), Hb1.out _ _ _ _⟩
end Go.Proofs.YtagccbpjpcnmeaaGreatDoor
