/-
  The statements' own helpers on lists of steps: Beyond, markStep, isStep, SameSteps, LeftSteps, TwinSteps.
-/
import Derived.Test.YtbdcgdjhkcnekaaGreatDoorRows
import Derived.WalkKit
import Derived.WalkSpells
import Derived.WalkLawsBesides
import Derived.Lib.Hide
import Derived.Laws.StructEq
import Derived.Deep.QuietTactic
import Derived.BigQuiet
import Derived.Deep.RegionHeld3
namespace Go.Proofs.YtbdcgdjhkcnekaaGreatDoor
open Go.RowKit

/-- A step, as data. -/
structure StepD where
  kind : Int
  node : Int
  a : Int
  b : Int
  l : Int
deriving DecidableEq

def StepD.ok (s : StepD) : Prop := (0 ≤ s.kind ∧ s.kind ≤ 255) ∧ (-9223372036854775808 ≤ s.node ∧ s.node ≤ 9223372036854775807) ∧ (-9223372036854775808 ≤ s.a ∧ s.a ≤ 9223372036854775807) ∧
  (-9223372036854775808 ≤ s.b ∧ s.b ≤ 9223372036854775807) ∧ (-9223372036854775808 ≤ s.l ∧ s.l ≤ 9223372036854775807)

def mark (n : Int) : StepD := ⟨0, -1000 - n, 0, 0, 0⟩

def StepD.arr (s : StepD) : Array Value := #[.int .u8 s.kind, .int .i64 s.node, .int .i64 s.a, .int .i64 s.b, .int .i64 s.l]

/-- What five cells hold. -/
def StepAt (w : World) (b o : Nat) (s : StepD) : Prop :=
  w.cell? ⟨b, o, none⟩ = some (.int .u8 s.kind) ∧ w.cell? ⟨b, o + 1, none⟩ = some (.int .i64 s.node) ∧ w.cell? ⟨b, o + 2, none⟩ = some (.int .i64 s.a) ∧
  w.cell? ⟨b, o + 3, none⟩ = some (.int .i64 s.b) ∧ w.cell? ⟨b, o + 4, none⟩ = some (.int .i64 s.l)

theorem eq_step (k n a b l k' n' a' b' l' : Int) (w : World) : (Op.equalIn 10000 72 (.agg #[.int .u8 k, .int .i64 n, .int .i64 a, .int .i64 b, .int .i64 l]) (.agg #[.int .u8 k', .int .i64 n', .int .i64 a', .int .i64 b', .int .i64 l'])).run Tryz.prog w =
    .ok (decide ((⟨k, n, a, b, l⟩ : StepD) = ⟨k', n', a', b', l'⟩)) w := by
  rw [run_equalIn_struct (P := Tryz.prog) w 9999 _ _ _ (by kernel_rfl) (by kernel_rfl)]
  simp only [Program.fieldsOf, Tryz.underlying72, StepD.mk.injEq]
  simp [Op.eqFields, go_sem]
  by_cases h0 : k = k' <;> by_cases h1 : n = n' <;> by_cases h2 : a = a' <;> by_cases h3 : b = b' <;> by_cases h4 : l = l' <;> simp [h0, h1, h2, h3, h4]

theorem binop_eql_step (s t : StepD) (w : World) : (binOp .eql 72 (.agg #[.int .u8 s.kind, .int .i64 s.node, .int .i64 s.a, .int .i64 s.b, .int .i64 s.l]) (.agg #[.int .u8 t.kind, .int .i64 t.node, .int .i64 t.a, .int .i64 t.b, .int .i64 t.l])).run Tryz.prog w = .ok (.bool (decide (s = t))) w := by
  rw [run_eql_struct, eq_step]; rfl
theorem binop_neq_step (s t : StepD) (w : World) : (binOp .neq 72 (.agg #[.int .u8 s.kind, .int .i64 s.node, .int .i64 s.a, .int .i64 s.b, .int .i64 s.l]) (.agg #[.int .u8 t.kind, .int .i64 t.node, .int .i64 t.a, .int .i64 t.b, .int .i64 t.l])).run Tryz.prog w = .ok (.bool (!decide (s = t))) w := by
  rw [run_neq_struct, eq_step]; rfl

set_option maxHeartbeats 400000 in
theorem markStep_any (n : Int) (h0 : 0 ≤ n) (h1 : n ≤ 1000000) (w : World) :
    Calls Tryz.prog 139 #[.int .i64 n] w fun e w' => e = .returned (.agg #[.int .u8 (mark n).kind, .int .i64 (mark n).node, .int .i64 (mark n).a, .int .i64 (mark n).b, .int .i64 (mark n).l]) ∧ Below w.heap.size w w' := by
  go_enter Tryz.func139, Tryz.ntmps139
  go_wp2
  exact bodyPost_ret (v := .agg (mark n).arr) (by simp [results, Tryz.results139, go_sem, mark, StepD.arr]) rfl ⟨rfl, (Below.refl _ _).alloc (Nat.le_refl _) _⟩

/-- A step that a call has laid in a block of its own, and what lay below. -/
theorem keepStep {w W w1 : World} {s : StepD} {b : Nat} (h : b < W.heap.size ∧ Below b w W ∧ W.cell? ⟨b, 0, none⟩ = some (.int .u8 s.kind) ∧ W.cell? ⟨b, 1, none⟩ = some (.int .i64 s.node) ∧ W.cell? ⟨b, 2, none⟩ = some (.int .i64 s.a) ∧
      W.cell? ⟨b, 3, none⟩ = some (.int .i64 s.b) ∧ W.cell? ⟨b, 4, none⟩ = some (.int .i64 s.l)) (hb : Below W.heap.size W w1) :
    b < w1.heap.size ∧ Below b w w1 ∧ w1.cell? ⟨b, 0, none⟩ = some (.int .u8 s.kind) ∧ w1.cell? ⟨b, 1, none⟩ = some (.int .i64 s.node) ∧ w1.cell? ⟨b, 2, none⟩ = some (.int .i64 s.a) ∧
      w1.cell? ⟨b, 3, none⟩ = some (.int .i64 s.b) ∧ w1.cell? ⟨b, 4, none⟩ = some (.int .i64 s.l) := by
  obtain ⟨h0, h1, h2, h3, h4, h5, h6⟩ := h
  have hs := hb.size
  refine ⟨by omega, h1.trans (hb.mono (by omega)), ?_, ?_, ?_, ?_, ?_⟩
  all_goals (rw [hb.cell h0]; assumption)

set_option maxHeartbeats 400000 in
theorem isStep_any (s : StepD) (n : Int) (h0 : 0 ≤ n) (h1 : n ≤ 1000000) (w : World) :
    Calls Tryz.prog 172 #[.agg s.arr, .int .i64 n] w fun e w' => e = .returned (.bool (decide (s = mark n))) ∧ Below w.heap.size w w' := by
  unfold StepD.arr
  have heq := binop_eql_step s (mark n)
  go_enter Tryz.func172, Tryz.ntmps172
  go_wp2_with fail
  go_region_held3 (fun w' => w.heap.size < w'.heap.size ∧ Below w.heap.size w w' ∧ w'.cell? ⟨w.heap.size, 0, none⟩ = some (.int .u8 s.kind) ∧ w'.cell? ⟨w.heap.size, 1, none⟩ = some (.int .i64 s.node) ∧ w'.cell? ⟨w.heap.size, 2, none⟩ = some (.int .i64 s.a) ∧
      w'.cell? ⟨w.heap.size, 3, none⟩ = some (.int .i64 s.b) ∧ w'.cell? ⟨w.heap.size, 4, none⟩ = some (.int .i64 s.l))
    (first | exact ⟨by simp, ((Below.refl _ _).alloc (Nat.le_refl _) _).drew, by simp, by simp, by simp, by simp, by simp⟩ | exact keepStep ⟨by simp, ((Below.refl _ _).alloc (Nat.le_refl _) _).drew, by simp, by simp, by simp, by simp, by simp⟩ hb1 | go_keep)
    (first | (go_at_call 139; refine (markStep_any n h0 h1 _).mono ?_; rintro e w1 ⟨rfl, hb1⟩))
  rename_i hS
  go_wp2
  go_ret
  exact ⟨rfl, hS.2.1⟩

/-- The steps of a slice, nil or not. -/
def Steps (w : World) (a : Option Addr) (n : Nat) (f : Nat → StepD) : Prop := ∀ i, i < n → ∃ b o, a = some ⟨b, o, none⟩ ∧ StepAt w b (o + i * 5) (f i)

def sameB (f g : Nat → StepD) (n : Nat) : Bool := decide (∀ i, i < n → f i = g i)

def SameRel (f g : Nat → StepD) (n : Nat) (w : World) (i : Value) (wr : World) : Prop :=
  ∃ k d : Nat, k ≤ n ∧ i = .int .i64 k ∧ (∀ j, j < k → f j = g j) ∧ wr = w.drewN d

set_option maxHeartbeats 400000 in
theorem same_walk (a a' : Option Addr) (n c c' : Nat) (f g : Nat → StepD) (hn : n ≤ 300000) (w : World) (hf : Steps w a n f) (hg : Steps w a' n g) :
    Calls Tryz.prog 6 #[.slice a n c, .slice a' n c'] w fun e w' => e = .returned (.bool (sameB f g n)) ∧ ∃ k, w' = w.drewN k := by
  have Hf := Lib.hid hf; clear hf
  have Hg := Lib.hid hg; clear hg
  go_enter Tryz.func6, Tryz.ntmps6
  go_wp2
  go_loopw [13] (fun i wr => SameRel f g n w i wr) (fun i _ => n - (intOf i).toNat)
  case atStart => exact ⟨0, 0, Nat.zero_le _, rfl, fun j hj => by omega, rfl⟩
  case round =>
    obtain ⟨k, d, hk, rfl, hall, rfl⟩ := hrel
    have Hall := Lib.hid hall; clear hall
    by_cases hlt : k < n
    · obtain ⟨b, o, rfl, a0, a1, a2, a3, a4⟩ := Hf.out k hlt
      obtain ⟨b', o', rfl, b0, b1, b2, b3, b4⟩ := Hg.out k hlt
      have heq := binop_neq_step (f k) (g k)
      go_wp2_with fail
      go_quiet (fail)
      go_wp2
      · have h1 : (!decide (f k = g k)) = true := by assumption
        have h2 : f k ≠ g k := by simpa using h1
        go_ret
        exact ⟨by rw [show sameB f g n = false from decide_eq_false (fun h => h2 (h k hlt))]; rfl, d + nq, World.drewN_drewN _ _ _⟩
      · have h1 : (!decide (f k = g k)) = false := by assumption
        have h2 : f k = g k := by simpa using h1
        refine ⟨⟨k + 1, d + nq, by omega, by go_num, fun j hj => ?_, rfl⟩, by simp [intOf]; omega⟩
        rcases Nat.lt_or_ge j k with h | h
        · exact Hall.out j h
        · obtain rfl : j = k := by omega
          exact h2
    · go_wp2
      go_ret
      exact ⟨by rw [show sameB f g n = true from decide_eq_true (fun i hi => Hall.out i (by omega))]; rfl, d, rfl⟩
end Go.Proofs.YtbdcgdjhkcnekaaGreatDoor
