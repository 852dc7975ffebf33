/- tree.resolution of any node of a tree that may be. -/
import Derived.Test.YtedpljclnpiggaaGreatDoorV09
import Derived.Test.YtedpljclnpiggaaGreatDoorV06
import Derived.Test.YtedpljclnpiggaaGreatDoorV13
set_option linter.unusedVariables false
set_option linter.unusedSimpArgs false
set_option maxRecDepth 100000
set_option maxHeartbeats 12800000
namespace Go.Proofs.YtedpljclnpiggaaGreatDoor
section
open Go Go.RowKit
theorem alv_0 (a : Option Addr) (c : Nat) (w : World) :
    Calls Tryz.prog 206 #[.agg #[.slice a 0 c]] w fun e w' => e = .returned (.int .i64 0) ∧ Below w.heap.size w w' := by
 have hb := (Below.refl w.heap.size w).alloc (Nat.le_refl _) (.cells #[.slice a 0 c] 44)
 have Hb := hQ hb; clear hb
 go_enter Tryz.func206, Tryz.ntmps206
 go_wp2_with fail
 go_quiet (fail)
 go_wp2
 go_ret
 exact ⟨rfl, bDr Hb.out _⟩
theorem alv_1 (a : Option Addr) (c : Nat) (w : World) :
    Calls Tryz.prog 206 #[.agg #[.slice a 1 c]] w fun e w' => e = .returned (.int .i64 1) ∧ Below w.heap.size w w' := by
 have hb := (Below.refl w.heap.size w).alloc (Nat.le_refl _) (.cells #[.slice a 1 c] 44)
 have Hb := hQ hb; clear hb
 go_enter Tryz.func206, Tryz.ntmps206
 go_wp2_with fail
 go_quiet ((go_at_call 298; exact Calls.quiet_of_same (awidth_1 _)))
 go_wp2
 go_ret
 exact ⟨rfl, bDr Hb.out _⟩
theorem alv_2 (a : Option Addr) (c : Nat) (w : World) :
    Calls Tryz.prog 206 #[.agg #[.slice a 2 c]] w fun e w' => e = .returned (.int .i64 0) ∧ Below w.heap.size w w' := by
 have hb := (Below.refl w.heap.size w).alloc (Nat.le_refl _) (.cells #[.slice a 2 c] 44)
 have Hb := hQ hb; clear hb
 go_enter Tryz.func206, Tryz.ntmps206
 go_wp2_with fail
 go_quiet ((go_at_call 298; exact Calls.quiet_of_same (awidth_1 _)))
 go_wp2
 go_ret
 exact ⟨rfl, bDr Hb.out _⟩
theorem alv_3 (a : Option Addr) (c : Nat) (w : World) :
    Calls Tryz.prog 206 #[.agg #[.slice a 3 c]] w fun e w' => e = .returned (.int .i64 2) ∧ Below w.heap.size w w' := by
 have hb := (Below.refl w.heap.size w).alloc (Nat.le_refl _) (.cells #[.slice a 3 c] 44)
 have Hb := hQ hb; clear hb
 go_enter Tryz.func206, Tryz.ntmps206
 go_wp2_with fail
 go_quiet ((go_at_call 298; exact Calls.quiet_of_same (awidth_2 _)))
 go_wp2
 go_ret
 exact ⟨rfl, bDr Hb.out _⟩
theorem alv_4 (a : Option Addr) (c : Nat) (w : World) :
    Calls Tryz.prog 206 #[.agg #[.slice a 4 c]] w fun e w' => e = .returned (.int .i64 0) ∧ Below w.heap.size w w' := by
 have hb := (Below.refl w.heap.size w).alloc (Nat.le_refl _) (.cells #[.slice a 4 c] 44)
 have Hb := hQ hb; clear hb
 go_enter Tryz.func206, Tryz.ntmps206
 go_wp2_with fail
 go_quiet ((go_at_call 298; exact Calls.quiet_of_same (awidth_2 _)))
 go_wp2
 go_ret
 exact ⟨rfl, bDr Hb.out _⟩
theorem alv_5 (a : Option Addr) (c : Nat) (w : World) :
    Calls Tryz.prog 206 #[.agg #[.slice a 5 c]] w fun e w' => e = .returned (.int .i64 0) ∧ Below w.heap.size w w' := by
 have hb := (Below.refl w.heap.size w).alloc (Nat.le_refl _) (.cells #[.slice a 5 c] 44)
 have Hb := hQ hb; clear hb
 go_enter Tryz.func206, Tryz.ntmps206
 go_wp2_with fail
 go_quiet ((go_at_call 298; exact Calls.quiet_of_same (awidth_3 _)))
 go_wp2
 go_ret
 exact ⟨rfl, bDr Hb.out _⟩
theorem alv_6 (a : Option Addr) (c : Nat) (w : World) :
    Calls Tryz.prog 206 #[.agg #[.slice a 6 c]] w fun e w' => e = .returned (.int .i64 0) ∧ Below w.heap.size w w' := by
 have hb := (Below.refl w.heap.size w).alloc (Nat.le_refl _) (.cells #[.slice a 6 c] 44)
 have Hb := hQ hb; clear hb
 go_enter Tryz.func206, Tryz.ntmps206
 go_wp2_with fail
 go_quiet ((go_at_call 298; exact Calls.quiet_of_same (awidth_3 _)))
 go_wp2
 go_ret
 exact ⟨rfl, bDr Hb.out _⟩
theorem alv_7 (a : Option Addr) (c : Nat) (w : World) :
    Calls Tryz.prog 206 #[.agg #[.slice a 7 c]] w fun e w' => e = .returned (.int .i64 4) ∧ Below w.heap.size w w' := by
 have hb := (Below.refl w.heap.size w).alloc (Nat.le_refl _) (.cells #[.slice a 7 c] 44)
 have Hb := hQ hb; clear hb
 go_enter Tryz.func206, Tryz.ntmps206
 go_wp2_with fail
 go_quiet ((go_at_call 298; exact Calls.quiet_of_same (awidth_4 _)))
 go_wp2
 go_ret
 exact ⟨rfl, bDr Hb.out _⟩
theorem alv_8 (a : Option Addr) (c : Nat) (w : World) :
    Calls Tryz.prog 206 #[.agg #[.slice a 8 c]] w fun e w' => e = .returned (.int .i64 0) ∧ Below w.heap.size w w' := by
 have hb := (Below.refl w.heap.size w).alloc (Nat.le_refl _) (.cells #[.slice a 8 c] 44)
 have Hb := hQ hb; clear hb
 go_enter Tryz.func206, Tryz.ntmps206
 go_wp2_with fail
 go_quiet ((go_at_call 298; exact Calls.quiet_of_same (awidth_4 _)))
 go_wp2
 go_ret
 exact ⟨rfl, bDr Hb.out _⟩
theorem alv_9 (a : Option Addr) (c : Nat) (w : World) :
    Calls Tryz.prog 206 #[.agg #[.slice a 9 c]] w fun e w' => e = .returned (.int .i64 0) ∧ Below w.heap.size w w' := by
 have hb := (Below.refl w.heap.size w).alloc (Nat.le_refl _) (.cells #[.slice a 9 c] 44)
 have Hb := hQ hb; clear hb
 go_enter Tryz.func206, Tryz.ntmps206
 go_wp2_with fail
 go_quiet ((go_at_call 298; exact Calls.quiet_of_same (awidth_5 _)))
 go_wp2
 go_ret
 exact ⟨rfl, bDr Hb.out _⟩
theorem alv_10 (a : Option Addr) (c : Nat) (w : World) :
    Calls Tryz.prog 206 #[.agg #[.slice a 10 c]] w fun e w' => e = .returned (.int .i64 0) ∧ Below w.heap.size w w' := by
 have hb := (Below.refl w.heap.size w).alloc (Nat.le_refl _) (.cells #[.slice a 10 c] 44)
 have Hb := hQ hb; clear hb
 go_enter Tryz.func206, Tryz.ntmps206
 go_wp2_with fail
 go_quiet ((go_at_call 298; exact Calls.quiet_of_same (awidth_5 _)))
 go_wp2
 go_ret
 exact ⟨rfl, bDr Hb.out _⟩
theorem alv_11 (a : Option Addr) (c : Nat) (w : World) :
    Calls Tryz.prog 206 #[.agg #[.slice a 11 c]] w fun e w' => e = .returned (.int .i64 0) ∧ Below w.heap.size w w' := by
 have hb := (Below.refl w.heap.size w).alloc (Nat.le_refl _) (.cells #[.slice a 11 c] 44)
 have Hb := hQ hb; clear hb
 go_enter Tryz.func206, Tryz.ntmps206
 go_wp2_with fail
 go_quiet ((go_at_call 298; exact Calls.quiet_of_same (awidth_6 _)))
 go_wp2
 go_ret
 exact ⟨rfl, bDr Hb.out _⟩
theorem alv_12 (a : Option Addr) (c : Nat) (w : World) :
    Calls Tryz.prog 206 #[.agg #[.slice a 12 c]] w fun e w' => e = .returned (.int .i64 0) ∧ Below w.heap.size w w' := by
 have hb := (Below.refl w.heap.size w).alloc (Nat.le_refl _) (.cells #[.slice a 12 c] 44)
 have Hb := hQ hb; clear hb
 go_enter Tryz.func206, Tryz.ntmps206
 go_wp2_with fail
 go_quiet ((go_at_call 298; exact Calls.quiet_of_same (awidth_6 _)))
 go_wp2
 go_ret
 exact ⟨rfl, bDr Hb.out _⟩
theorem alv_13 (a : Option Addr) (c : Nat) (w : World) :
    Calls Tryz.prog 206 #[.agg #[.slice a 13 c]] w fun e w' => e = .returned (.int .i64 0) ∧ Below w.heap.size w w' := by
 have hb := (Below.refl w.heap.size w).alloc (Nat.le_refl _) (.cells #[.slice a 13 c] 44)
 have Hb := hQ hb; clear hb
 go_enter Tryz.func206, Tryz.ntmps206
 go_wp2_with fail
 go_quiet ((go_at_call 298; exact Calls.quiet_of_same (awidth_7 _)))
 go_wp2
 go_ret
 exact ⟨rfl, bDr Hb.out _⟩
theorem alv_14 (a : Option Addr) (c : Nat) (w : World) :
    Calls Tryz.prog 206 #[.agg #[.slice a 14 c]] w fun e w' => e = .returned (.int .i64 0) ∧ Below w.heap.size w w' := by
 have hb := (Below.refl w.heap.size w).alloc (Nat.le_refl _) (.cells #[.slice a 14 c] 44)
 have Hb := hQ hb; clear hb
 go_enter Tryz.func206, Tryz.ntmps206
 go_wp2_with fail
 go_quiet ((go_at_call 298; exact Calls.quiet_of_same (awidth_7 _)))
 go_wp2
 go_ret
 exact ⟨rfl, bDr Hb.out _⟩
theorem alv_15 (a : Option Addr) (c : Nat) (w : World) :
    Calls Tryz.prog 206 #[.agg #[.slice a 15 c]] w fun e w' => e = .returned (.int .i64 8) ∧ Below w.heap.size w w' := by
 have hb := (Below.refl w.heap.size w).alloc (Nat.le_refl _) (.cells #[.slice a 15 c] 44)
 have Hb := hQ hb; clear hb
 go_enter Tryz.func206, Tryz.ntmps206
 go_wp2_with fail
 go_quiet ((go_at_call 298; exact Calls.quiet_of_same (awidth_8 _)))
 go_wp2
 go_ret
 exact ⟨rfl, bDr Hb.out _⟩
theorem alv_16 (a : Option Addr) (c : Nat) (w : World) :
    Calls Tryz.prog 206 #[.agg #[.slice a 16 c]] w fun e w' => e = .returned (.int .i64 0) ∧ Below w.heap.size w w' := by
 have hb := (Below.refl w.heap.size w).alloc (Nat.le_refl _) (.cells #[.slice a 16 c] 44)
 have Hb := hQ hb; clear hb
 go_enter Tryz.func206, Tryz.ntmps206
 go_wp2_with fail
 go_quiet ((go_at_call 298; exact Calls.quiet_of_same (awidth_8 _)))
 go_wp2
 go_ret
 exact ⟨rfl, bDr Hb.out _⟩
theorem alv_big (a : Option Addr) (n c : Nat) (h : 17 ≤ n) (hn : n ≤ 262144) (w : World) :
    Calls Tryz.prog 206 #[.agg #[.slice a n c]] w fun e w' => e = .returned (.int .i64 0) ∧ Below w.heap.size w w' := by
 have hb := (Below.refl w.heap.size w).alloc (Nat.le_refl _) (.cells #[.slice a n c] 44)
 have Hb := hQ hb; clear hb
 have hd : 8 < ((n : Int) + 1).tdiv 2 := by rw [Int.tdiv_eq_ediv_of_nonneg (by omega)]; omega
 have hd2 : 8 < ((n : Int) + 1) / 2 := by omega
 have hI : 17 ≤ (n : Int) := by omega
 have hI2 : (n : Int) ≤ 262144 := by omega
 go_enter Tryz.func206, Tryz.ntmps206
 go_wp2_with fail
 go_quiet (fail)
 go_wp2
 go_ret
 exact ⟨rfl, bDr Hb.out _⟩
theorem leavesD_big {n : Nat} (h : 17 ≤ n) : lvD n = 0 := by
 unfold lvD
 rw [if_neg (by omega), if_neg (by omega), if_neg (by omega), if_neg (by omega)]
theorem aleaves_any (a : Option Addr) (n c : Nat) (hn : n ≤ 262144) (w : World) :
    Calls Tryz.prog 206 #[.agg #[.slice a n c]] w fun e w' => e = .returned (.int .i64 (lvD n : Nat)) ∧ Below w.heap.size w w' := by
 have hc : n = 0 ∨ n = 1 ∨ n = 2 ∨ n = 3 ∨ n = 4 ∨ n = 5 ∨ n = 6 ∨ n = 7 ∨ n = 8 ∨ n = 9 ∨ n = 10 ∨ n = 11 ∨ n = 12 ∨ n = 13 ∨ n = 14 ∨ n = 15 ∨ n = 16 ∨ 17 ≤ n := by omega
 rcases hc with rfl | rfl | rfl | rfl | rfl | rfl | rfl | rfl | rfl | rfl | rfl | rfl | rfl | rfl | rfl | rfl | rfl | h
 · exact alv_0 a c w
 · exact alv_1 a c w
 · exact alv_2 a c w
 · exact alv_3 a c w
 · exact alv_4 a c w
 · exact alv_5 a c w
 · exact alv_6 a c w
 · exact alv_7 a c w
 · exact alv_8 a c w
 · exact alv_9 a c w
 · exact alv_10 a c w
 · exact alv_11 a c w
 · exact alv_12 a c w
 · exact alv_13 a c w
 · exact alv_14 a c w
 · exact alv_15 a c w
 · exact alv_16 a c w
 · rw [leavesD_big h]
   exact alv_big a n c h hn w
theorem arlv_0 (a : Option Addr) (c : Nat) (w : World) :
    Calls Tryz.prog 191 #[.agg #[.slice a 0 c]] w fun e w' => e = .returned (.int .i64 0) ∧ Below w.heap.size w w' := by
 have hb := (Below.refl w.heap.size w).alloc (Nat.le_refl _) (.cells #[.slice a 0 c] 44)
 have Hb := hQ hb; clear hb
 go_enter Tryz.func191, Tryz.ntmps191
 go_wp2
 refine wp_loop_rounds 5 ?_
 rw [rounds_succ]
 go_wp2
 rw [rounds_succ]
 go_wp2
 rw [rounds_succ]
 go_wp2
 rw [rounds_succ]
 go_wp2
 rw [rounds_succ]
 go_wp2
 go_ret
 exact ⟨rfl, Hb.out⟩
theorem arlv_1 (a : Option Addr) (c : Nat) (w : World) :
    Calls Tryz.prog 191 #[.agg #[.slice a 1 c]] w fun e w' => e = .returned (.int .i64 1) ∧ Below w.heap.size w w' := by
 have hb := (Below.refl w.heap.size w).alloc (Nat.le_refl _) (.cells #[.slice a 1 c] 44)
 have Hb := hQ hb; clear hb
 go_enter Tryz.func191, Tryz.ntmps191
 go_wp2
 refine wp_loop_rounds 1 ?_
 rw [rounds_succ]
 go_wp2
 go_ret
 exact ⟨rfl, Hb.out⟩
theorem arlv_2 (a : Option Addr) (c : Nat) (w : World) :
    Calls Tryz.prog 191 #[.agg #[.slice a 2 c]] w fun e w' => e = .returned (.int .i64 0) ∧ Below w.heap.size w w' := by
 have hb := (Below.refl w.heap.size w).alloc (Nat.le_refl _) (.cells #[.slice a 2 c] 44)
 have Hb := hQ hb; clear hb
 go_enter Tryz.func191, Tryz.ntmps191
 go_wp2
 refine wp_loop_rounds 5 ?_
 rw [rounds_succ]
 go_wp2
 rw [rounds_succ]
 go_wp2
 rw [rounds_succ]
 go_wp2
 rw [rounds_succ]
 go_wp2
 rw [rounds_succ]
 go_wp2
 go_ret
 exact ⟨rfl, Hb.out⟩
theorem arlv_3 (a : Option Addr) (c : Nat) (w : World) :
    Calls Tryz.prog 191 #[.agg #[.slice a 3 c]] w fun e w' => e = .returned (.int .i64 2) ∧ Below w.heap.size w w' := by
 have hb := (Below.refl w.heap.size w).alloc (Nat.le_refl _) (.cells #[.slice a 3 c] 44)
 have Hb := hQ hb; clear hb
 go_enter Tryz.func191, Tryz.ntmps191
 go_wp2
 refine wp_loop_rounds 2 ?_
 rw [rounds_succ]
 go_wp2
 rw [rounds_succ]
 go_wp2
 go_ret
 exact ⟨rfl, Hb.out⟩
theorem arlv_4 (a : Option Addr) (c : Nat) (w : World) :
    Calls Tryz.prog 191 #[.agg #[.slice a 4 c]] w fun e w' => e = .returned (.int .i64 0) ∧ Below w.heap.size w w' := by
 have hb := (Below.refl w.heap.size w).alloc (Nat.le_refl _) (.cells #[.slice a 4 c] 44)
 have Hb := hQ hb; clear hb
 go_enter Tryz.func191, Tryz.ntmps191
 go_wp2
 refine wp_loop_rounds 5 ?_
 rw [rounds_succ]
 go_wp2
 rw [rounds_succ]
 go_wp2
 rw [rounds_succ]
 go_wp2
 rw [rounds_succ]
 go_wp2
 rw [rounds_succ]
 go_wp2
 go_ret
 exact ⟨rfl, Hb.out⟩
theorem arlv_5 (a : Option Addr) (c : Nat) (w : World) :
    Calls Tryz.prog 191 #[.agg #[.slice a 5 c]] w fun e w' => e = .returned (.int .i64 0) ∧ Below w.heap.size w w' := by
 have hb := (Below.refl w.heap.size w).alloc (Nat.le_refl _) (.cells #[.slice a 5 c] 44)
 have Hb := hQ hb; clear hb
 go_enter Tryz.func191, Tryz.ntmps191
 go_wp2
 refine wp_loop_rounds 5 ?_
 rw [rounds_succ]
 go_wp2
 rw [rounds_succ]
 go_wp2
 rw [rounds_succ]
 go_wp2
 rw [rounds_succ]
 go_wp2
 rw [rounds_succ]
 go_wp2
 go_ret
 exact ⟨rfl, Hb.out⟩
theorem arlv_6 (a : Option Addr) (c : Nat) (w : World) :
    Calls Tryz.prog 191 #[.agg #[.slice a 6 c]] w fun e w' => e = .returned (.int .i64 0) ∧ Below w.heap.size w w' := by
 have hb := (Below.refl w.heap.size w).alloc (Nat.le_refl _) (.cells #[.slice a 6 c] 44)
 have Hb := hQ hb; clear hb
 go_enter Tryz.func191, Tryz.ntmps191
 go_wp2
 refine wp_loop_rounds 5 ?_
 rw [rounds_succ]
 go_wp2
 rw [rounds_succ]
 go_wp2
 rw [rounds_succ]
 go_wp2
 rw [rounds_succ]
 go_wp2
 rw [rounds_succ]
 go_wp2
 go_ret
 exact ⟨rfl, Hb.out⟩
theorem arlv_7 (a : Option Addr) (c : Nat) (w : World) :
    Calls Tryz.prog 191 #[.agg #[.slice a 7 c]] w fun e w' => e = .returned (.int .i64 4) ∧ Below w.heap.size w w' := by
 have hb := (Below.refl w.heap.size w).alloc (Nat.le_refl _) (.cells #[.slice a 7 c] 44)
 have Hb := hQ hb; clear hb
 go_enter Tryz.func191, Tryz.ntmps191
 go_wp2
 refine wp_loop_rounds 3 ?_
 rw [rounds_succ]
 go_wp2
 rw [rounds_succ]
 go_wp2
 rw [rounds_succ]
 go_wp2
 go_ret
 exact ⟨rfl, Hb.out⟩
theorem arlv_8 (a : Option Addr) (c : Nat) (w : World) :
    Calls Tryz.prog 191 #[.agg #[.slice a 8 c]] w fun e w' => e = .returned (.int .i64 0) ∧ Below w.heap.size w w' := by
 have hb := (Below.refl w.heap.size w).alloc (Nat.le_refl _) (.cells #[.slice a 8 c] 44)
 have Hb := hQ hb; clear hb
 go_enter Tryz.func191, Tryz.ntmps191
 go_wp2
 refine wp_loop_rounds 5 ?_
 rw [rounds_succ]
 go_wp2
 rw [rounds_succ]
 go_wp2
 rw [rounds_succ]
 go_wp2
 rw [rounds_succ]
 go_wp2
 rw [rounds_succ]
 go_wp2
 go_ret
 exact ⟨rfl, Hb.out⟩
theorem arlv_9 (a : Option Addr) (c : Nat) (w : World) :
    Calls Tryz.prog 191 #[.agg #[.slice a 9 c]] w fun e w' => e = .returned (.int .i64 0) ∧ Below w.heap.size w w' := by
 have hb := (Below.refl w.heap.size w).alloc (Nat.le_refl _) (.cells #[.slice a 9 c] 44)
 have Hb := hQ hb; clear hb
 go_enter Tryz.func191, Tryz.ntmps191
 go_wp2
 refine wp_loop_rounds 5 ?_
 rw [rounds_succ]
 go_wp2
 rw [rounds_succ]
 go_wp2
 rw [rounds_succ]
 go_wp2
 rw [rounds_succ]
 go_wp2
 rw [rounds_succ]
 go_wp2
 go_ret
 exact ⟨rfl, Hb.out⟩
theorem arlv_10 (a : Option Addr) (c : Nat) (w : World) :
    Calls Tryz.prog 191 #[.agg #[.slice a 10 c]] w fun e w' => e = .returned (.int .i64 0) ∧ Below w.heap.size w w' := by
 have hb := (Below.refl w.heap.size w).alloc (Nat.le_refl _) (.cells #[.slice a 10 c] 44)
 have Hb := hQ hb; clear hb
 go_enter Tryz.func191, Tryz.ntmps191
 go_wp2
 refine wp_loop_rounds 5 ?_
 rw [rounds_succ]
 go_wp2
 rw [rounds_succ]
 go_wp2
 rw [rounds_succ]
 go_wp2
 rw [rounds_succ]
 go_wp2
 rw [rounds_succ]
 go_wp2
 go_ret
 exact ⟨rfl, Hb.out⟩
theorem arlv_11 (a : Option Addr) (c : Nat) (w : World) :
    Calls Tryz.prog 191 #[.agg #[.slice a 11 c]] w fun e w' => e = .returned (.int .i64 0) ∧ Below w.heap.size w w' := by
 have hb := (Below.refl w.heap.size w).alloc (Nat.le_refl _) (.cells #[.slice a 11 c] 44)
 have Hb := hQ hb; clear hb
 go_enter Tryz.func191, Tryz.ntmps191
 go_wp2
 refine wp_loop_rounds 5 ?_
 rw [rounds_succ]
 go_wp2
 rw [rounds_succ]
 go_wp2
 rw [rounds_succ]
 go_wp2
 rw [rounds_succ]
 go_wp2
 rw [rounds_succ]
 go_wp2
 go_ret
 exact ⟨rfl, Hb.out⟩
theorem arlv_12 (a : Option Addr) (c : Nat) (w : World) :
    Calls Tryz.prog 191 #[.agg #[.slice a 12 c]] w fun e w' => e = .returned (.int .i64 0) ∧ Below w.heap.size w w' := by
 have hb := (Below.refl w.heap.size w).alloc (Nat.le_refl _) (.cells #[.slice a 12 c] 44)
 have Hb := hQ hb; clear hb
 go_enter Tryz.func191, Tryz.ntmps191
 go_wp2
 refine wp_loop_rounds 5 ?_
 rw [rounds_succ]
 go_wp2
 rw [rounds_succ]
 go_wp2
 rw [rounds_succ]
 go_wp2
 rw [rounds_succ]
 go_wp2
 rw [rounds_succ]
 go_wp2
 go_ret
 exact ⟨rfl, Hb.out⟩
theorem arlv_13 (a : Option Addr) (c : Nat) (w : World) :
    Calls Tryz.prog 191 #[.agg #[.slice a 13 c]] w fun e w' => e = .returned (.int .i64 0) ∧ Below w.heap.size w w' := by
 have hb := (Below.refl w.heap.size w).alloc (Nat.le_refl _) (.cells #[.slice a 13 c] 44)
 have Hb := hQ hb; clear hb
 go_enter Tryz.func191, Tryz.ntmps191
 go_wp2
 refine wp_loop_rounds 5 ?_
 rw [rounds_succ]
 go_wp2
 rw [rounds_succ]
 go_wp2
 rw [rounds_succ]
 go_wp2
 rw [rounds_succ]
 go_wp2
 rw [rounds_succ]
 go_wp2
 go_ret
 exact ⟨rfl, Hb.out⟩
theorem arlv_14 (a : Option Addr) (c : Nat) (w : World) :
    Calls Tryz.prog 191 #[.agg #[.slice a 14 c]] w fun e w' => e = .returned (.int .i64 0) ∧ Below w.heap.size w w' := by
 have hb := (Below.refl w.heap.size w).alloc (Nat.le_refl _) (.cells #[.slice a 14 c] 44)
 have Hb := hQ hb; clear hb
 go_enter Tryz.func191, Tryz.ntmps191
 go_wp2
 refine wp_loop_rounds 5 ?_
 rw [rounds_succ]
 go_wp2
 rw [rounds_succ]
 go_wp2
 rw [rounds_succ]
 go_wp2
 rw [rounds_succ]
 go_wp2
 rw [rounds_succ]
 go_wp2
 go_ret
 exact ⟨rfl, Hb.out⟩
theorem arlv_15 (a : Option Addr) (c : Nat) (w : World) :
    Calls Tryz.prog 191 #[.agg #[.slice a 15 c]] w fun e w' => e = .returned (.int .i64 8) ∧ Below w.heap.size w w' := by
 have hb := (Below.refl w.heap.size w).alloc (Nat.le_refl _) (.cells #[.slice a 15 c] 44)
 have Hb := hQ hb; clear hb
 go_enter Tryz.func191, Tryz.ntmps191
 go_wp2
 refine wp_loop_rounds 4 ?_
 rw [rounds_succ]
 go_wp2
 rw [rounds_succ]
 go_wp2
 rw [rounds_succ]
 go_wp2
 rw [rounds_succ]
 go_wp2
 go_ret
 exact ⟨rfl, Hb.out⟩
theorem arlv_16 (a : Option Addr) (c : Nat) (w : World) :
    Calls Tryz.prog 191 #[.agg #[.slice a 16 c]] w fun e w' => e = .returned (.int .i64 0) ∧ Below w.heap.size w w' := by
 have hb := (Below.refl w.heap.size w).alloc (Nat.le_refl _) (.cells #[.slice a 16 c] 44)
 have Hb := hQ hb; clear hb
 go_enter Tryz.func191, Tryz.ntmps191
 go_wp2
 refine wp_loop_rounds 5 ?_
 rw [rounds_succ]
 go_wp2
 rw [rounds_succ]
 go_wp2
 rw [rounds_succ]
 go_wp2
 rw [rounds_succ]
 go_wp2
 rw [rounds_succ]
 go_wp2
 go_ret
 exact ⟨rfl, Hb.out⟩
theorem arlv_big (a : Option Addr) (n c : Nat) (h : 17 ≤ n) (w : World) :
    Calls Tryz.prog 191 #[.agg #[.slice a n c]] w fun e w' => e = .returned (.int .i64 0) ∧ Below w.heap.size w w' := by
 have hb := (Below.refl w.heap.size w).alloc (Nat.le_refl _) (.cells #[.slice a n c] 44)
 have Hb := hQ hb; clear hb
 have h1 : ((n : Int) == 1) = false := beq_eq_false_iff_ne.2 (by omega)
 have h3 : ((n : Int) == 3) = false := beq_eq_false_iff_ne.2 (by omega)
 have h7 : ((n : Int) == 7) = false := beq_eq_false_iff_ne.2 (by omega)
 have h15 : ((n : Int) == 15) = false := beq_eq_false_iff_ne.2 (by omega)
 go_enter Tryz.func191, Tryz.ntmps191
 go_wp2
 refine wp_loop_rounds 5 ?_
 rw [rounds_succ]
 go_wp2
 rw [rounds_succ]
 go_wp2
 rw [rounds_succ]
 go_wp2
 rw [rounds_succ]
 go_wp2
 rw [rounds_succ]
 go_wp2
 go_ret
 exact ⟨rfl, Hb.out⟩
theorem arleaves_any (a : Option Addr) (n c : Nat) (w : World) :
    Calls Tryz.prog 191 #[.agg #[.slice a n c]] w fun e w' => e = .returned (.int .i64 (lvD n : Nat)) ∧ Below w.heap.size w w' := by
 have hc : n = 0 ∨ n = 1 ∨ n = 2 ∨ n = 3 ∨ n = 4 ∨ n = 5 ∨ n = 6 ∨ n = 7 ∨ n = 8 ∨ n = 9 ∨ n = 10 ∨ n = 11 ∨ n = 12 ∨ n = 13 ∨ n = 14 ∨ n = 15 ∨ n = 16 ∨ 17 ≤ n := by omega
 rcases hc with rfl | rfl | rfl | rfl | rfl | rfl | rfl | rfl | rfl | rfl | rfl | rfl | rfl | rfl | rfl | rfl | rfl | h
 · exact arlv_0 a c w
 · exact arlv_1 a c w
 · exact arlv_2 a c w
 · exact arlv_3 a c w
 · exact arlv_4 a c w
 · exact arlv_5 a c w
 · exact arlv_6 a c w
 · exact arlv_7 a c w
 · exact arlv_8 a c w
 · exact arlv_9 a c w
 · exact arlv_10 a c w
 · exact arlv_11 a c w
 · exact arlv_12 a c w
 · exact arlv_13 a c w
 · exact arlv_14 a c w
 · exact arlv_15 a c w
 · exact arlv_16 a c w
 · rw [leavesD_big h]
   exact arlv_big a n c h w
end
section
open Go Go.RowKit
theorem ablank_any (p m e : Int) (a : Option Addr) (k c : Nat) (w : World) :
    Calls Tryz.prog 284 #[.agg #[.int .i64 p, .int .i64 m, .int .i64 e, .slice a k c]] w fun r w' => r = .returned (.bool (decide (p = 0) && decide (m = 0) && decide (e = 0) && decide (k = 0))) ∧ Below w.heap.size w w' := by
 have hb := (Below.refl w.heap.size w).alloc (Nat.le_refl _) (.cells #[.int .i64 p, .int .i64 m, .int .i64 e, .slice a k c] 125)
 have Hb := hQ hb; clear hb
 have hc : p ≠ 0 ∨ (p = 0 ∧ m ≠ 0) ∨ (p = 0 ∧ m = 0 ∧ e ≠ 0) ∨ (p = 0 ∧ m = 0 ∧ e = 0 ∧ k ≠ 0) ∨ (p = 0 ∧ m = 0 ∧ e = 0 ∧ k = 0) := by omega
 rcases hc with h | ⟨rfl, h⟩ | ⟨rfl, rfl, h⟩ | ⟨rfl, rfl, rfl, h⟩ | ⟨rfl, rfl, rfl, rfl⟩
 · have h0 : (p == 0) = false := beq_eq_false_iff_ne.2 h
   go_enter Tryz.func284, Tryz.ntmps284
   go_wp2
   go_ret
   exact ⟨by simp [h], Hb.out⟩
 · have h0 : (m == 0) = false := beq_eq_false_iff_ne.2 h
   go_enter Tryz.func284, Tryz.ntmps284
   go_wp2
   go_ret
   exact ⟨by simp [h], Hb.out⟩
 · have h0 : (e == 0) = false := beq_eq_false_iff_ne.2 h
   go_enter Tryz.func284, Tryz.ntmps284
   go_wp2
   go_ret
   exact ⟨by simp [h], Hb.out⟩
 · have h0 : ((k : Int) == 0) = false := beq_eq_false_iff_ne.2 (by omega)
   go_enter Tryz.func284, Tryz.ntmps284
   go_wp2
   go_ret
   exact ⟨by simp [h], Hb.out⟩
 · go_enter Tryz.func284, Tryz.ntmps284
   go_wp2
   go_ret
   exact ⟨by simp, Hb.out⟩
theorem span_facts : ∀ n ∈ [1, 2, 4, 8], ∀ x ∈ List.range (2 * n - 1), x % 2 = 1 → 2 * spL x < 2 * n - 1 ∧ x < 15 := by decide
theorem span_in {n x : Nat} (hn : isN n) (hx : x < 2 * n - 1) (ho : x % 2 = 1) : 2 * spL x < 2 * n - 1 ∧ x < 15 := span_facts n (by rcases hn with rfl | rfl | rfl | rfl <;> decide) x (List.mem_range.2 hx) ho
theorem un_step {T : List NodeD} {last first : Int} {l : List Int} {i : Nat} (hi : i < l.length) :
    unD T last first (l.drop i) = if l.getD i 0 < first ∨ last < l.getD i 0 ∨ (nodeD T (2 * l.getD i 0).toNat).pub = 0 then false else unD T last (l.getD i 0 + 1) (l.drop (i + 1)) := by
 rw [List.drop_eq_getElem_cons hi, List.getD_eq_getElem?_getD, List.getElem?_eq_getElem hi]
 rfl
theorem un_end {T : List NodeD} {last first : Int} {l : List Int} : unD T last first (l.drop l.length) = true := by rw [List.drop_length]; rfl
def ParRel (T : List NodeD) (x : Nat) (l : List Int) (W : World) (i f : Value) (wr : World) : Prop :=
 ∃ (k : Nat) (first : Int), k ≤ l.length ∧ i = .int .i64 k ∧ f = .int .i64 first ∧ 0 ≤ first ∧ wr = W ∧ unD T (spL x : Nat) first (l.drop k) = unD T (spL x : Nat) (spF x : Nat) l
theorem aparent_T (B n x : Nat) (hn : isN n) (T : List NodeD) (hTn : T.length = 2 * n - 1) (hx : x < T.length) (ho : x % 2 = 1) (hul : (nodeD T x).um.length ≤ 9223372036854775807) (a : Option Addr) (c : Nat) (w : World) (he : TzF w) (h3 : 3 ≤ B) (hB : B ≤ w.heap.size) (hT : TreeAt B w a T) :
    Calls Tryz.prog 283 #[.agg #[.slice a T.length c], .int .i64 x] w fun r w' => r = .returned (.bool (parentD T x)) ∧ Below w.heap.size w w' := by
 have hb := (Below.refl w.heap.size w).alloc (Nat.le_refl _) (.cells #[.slice a T.length c] 44)
 obtain ⟨hs1, hs2⟩ := span_in hn (by omega : x < 2 * n - 1) ho
 have hbox := rAl (w := w) #[.slice a T.length c] 44 (0, 0)
 have hT1 := hT.below (hb.mono hB)
 have HT1 := hQ hT1
 have Hbox := hQ hbox; clear hbox
 obtain ⟨b, o, rfl, hnode⟩ := hT x hx
 obtain ⟨ua, uc, k3, hnum0⟩ := hnode.c3
 have hnum := hnum0.below (hb.mono hB)
 have hbl : b < w.heap.size := Nat.lt_of_lt_of_le hnode.lt hB
 clear hnum0
 have k0 := hnode.c0
 have k1 := hnode.c1
 have k2 := hnode.c2
 have hpar : parentD T x = if (nodeD T x).pub < 1 ∨ (nodeD T x).mem ≠ 0 ∨ (nodeD T x).ep ≠ 0 then blankD (nodeD T x) else unD T (spL x : Nat) (spF x : Nat) (nodeD T x).um := rfl
 generalize nodeD T x = d at k0 k1 k2 k3 hnum hpar hul
 obtain ⟨p, m, e, um⟩ := d
 simp only at k0 k1 k2 k3 hnum hpar hul
 have hb2 := hb.alloc (by simp) (.cells #[.int .i64 p, .int .i64 m, .int .i64 e, .slice ua um.length uc] 125)
 have hxI : (x : Int) < T.length := by omega
 have h15 : (T.length : Int) ≤ 15 := by rcases hn with h | h | h | h <;> omega
 have H15 := hQ h15
 have Hs1 := hQ (show 2 * spL x < T.length by omega)
 clear hs1
 have Hb2 := hQ hb2
 clear hT hnode hTn hT1
 by_cases hbad : p < 1 ∨ m ≠ 0 ∨ e ≠ 0
 · rw [if_pos hbad] at hpar
   have Hpar := hQ hpar
   clear hpar hb hb2 hnum he
   have hc : p < 1 ∨ (¬ p < 1 ∧ m ≠ 0) ∨ (¬ p < 1 ∧ m = 0 ∧ e ≠ 0) := by omega
   clear hbad
   rcases hc with h | ⟨hp, h⟩ | ⟨hp, rfl, h⟩
   · go_enter Tryz.func283, Tryz.ntmps283
     go_wp2_with fail
     refine (ablank_any p m e ua um.length uc _).mono ?_
     rintro r w3 ⟨rfl, hb3⟩
     have Hb3 := hQ (Hb2.out.trans (hb3.mono Hb2.out.size)); clear hb3
     go_wp2
     go_ret
     exact ⟨by rw [Hpar.out]; first | (simp [blankD]; done) | (simp [blankD]; intros; omega), Hb3.out⟩
   · have h0 : (m == 0) = false := beq_eq_false_iff_ne.2 h
     go_enter Tryz.func283, Tryz.ntmps283
     go_wp2_with fail
     refine (ablank_any p m e ua um.length uc _).mono ?_
     rintro r w3 ⟨rfl, hb3⟩
     have Hb3 := hQ (Hb2.out.trans (hb3.mono Hb2.out.size)); clear hb3
     go_wp2
     go_ret
     exact ⟨by rw [Hpar.out]; first | (simp [blankD]; done) | (simp [blankD]; intros; omega), Hb3.out⟩
   · have h0 : (e == 0) = false := beq_eq_false_iff_ne.2 h
     go_enter Tryz.func283, Tryz.ntmps283
     go_wp2_with fail
     refine (ablank_any p 0 e ua um.length uc _).mono ?_
     rintro r w3 ⟨rfl, hb3⟩
     have Hb3 := hQ (Hb2.out.trans (hb3.mono Hb2.out.size)); clear hb3
     go_wp2
     go_ret
     exact ⟨by rw [Hpar.out]; first | (simp [blankD]; done) | (simp [blankD]; intros; omega), Hb3.out⟩
 · rw [if_neg hbad] at hpar
   obtain ⟨hp, rfl, rfl⟩ : ¬ p < 1 ∧ m = 0 ∧ e = 0 := by omega
   have Hpar := hQ hpar
   have He := hQ (he.below hb2 (Nat.le_trans h3 hB))
   have HN := hQ hnum
   clear hpar hb hb2 hnum he hbad
   go_enter Tryz.func283, Tryz.ntmps283
   go_wp2_with fail
   refine (aspan_any x hs2 ho _ He.out).mono ?_
   rintro r wx ⟨rfl, dr, hwx⟩
   have hbx : Below w.heap.size w wx := by rw [hwx]; exact bDr Hb2.out dr
   have hboxx : wx.heap[w.heap.size]? = some (.cells #[.slice (some ⟨b, o, none⟩) T.length c] 44 (0, 0)) := by
    rw [hwx]
    exact (Below.heap_alloc _ _ _ (by simp)).trans Hbox.out
   have hndx : wx.heap[w.heap.size + 1]? = some (.cells #[.int .i64 p, .int .i64 0, .int .i64 0, .slice ua um.length uc] 125 (0, 0)) := by
    rw [hwx]
    have := rAl (w := w.alloc (.cells #[.slice (some ⟨b, o, none⟩) T.length c] 44)) #[.int .i64 p, .int .i64 0, .int .i64 0, .slice ua um.length uc] 125 (0, 0)
    simpa using this
   have hTx : TreeAt B wx (some ⟨b, o, none⟩) T := by
    rw [hwx]
    exact HT1.out.below (bDr ((Below.refl B _).alloc (by simp; omega) _) dr)
   have hNx : NumsAt B wx ua um := by
    rw [hwx]
    exact HN.out.below (bDr ((Below.refl B _).alloc (by simp; omega) _) dr)
   clear hwx k0 k1 k2 k3
   have k3 := (cRw hndx 3).trans rfl
   have kb := (cRw hboxx 0).trans rfl
   obtain ⟨q, hq⟩ : ∃ q, q = w.heap.size := ⟨_, rfl⟩
   rw [← hq] at k3 kb ⊢
   have HTx := hQ hTx
   have HNx := hQ hNx
   have Hbx := hQ hbx
   have HQ := hQ hq
   clear hTx hNx hbx hndx hboxx hq He HN HT1 Hbox Hb2
   have hulI : (um.length : Int) ≤ 9223372036854775807 := by omega
   go_wp2
   clear hbl hxI h3 hB hs2 ho hx hp h15
   go_loopw [38, 6] (fun i f wr => ParRel T x um wx i f wr) (fun i _ _ => um.length - (intOf i).toNat)
   case atStart => exact ⟨0, _, Nat.zero_le _, rfl, rfl, by omega, rfl, rfl⟩
   case round =>
    obtain ⟨k, first, hk, rfl, rfl, hf0, rfl, hun⟩ := hrel
    by_cases hlt : k < um.length
    · rw [un_step hlt] at hun
      obtain ⟨ub, uo, rfl, hub, ku⟩ := HNx.out k hlt
      generalize um.getD k 0 = u at ku hun
      have hkI : (k : Int) < um.length := by omega
      by_cases h1 : u < first
      · rw [if_pos (.inl h1)] at hun
        have Hun := hQ hun; clear hun
        go_wp2
        go_ret
        exact ⟨by rw [Hpar.out, ← Hun.out]; rfl, Hbx.out⟩
      · by_cases h2 : ((spL x : Nat) : Int) < u
        · rw [if_pos (.inr (.inl h2))] at hun
          have Hun := hQ hun; clear hun
          go_wp2
          go_ret
          exact ⟨by rw [Hpar.out, ← Hun.out]; rfl, Hbx.out⟩
        · obtain ⟨v, rfl⟩ : ∃ v : Nat, u = v := ⟨u.toNat, by omega⟩
          have hv2 : 2 * v < T.length := by have := Hs1.out; omega
          obtain ⟨b', o', e', hnv⟩ := HTx.out (2 * v) hv2
          obtain ⟨rfl, rfl⟩ : b = b' ∧ o = o' := by simpa using e'
          have kv := hnv.c0
          clear hnv e'
          rw [show (2 * (v : Int)).toNat = 2 * v by omega] at hun
          have hvI : 2 * (v : Int) < T.length := by omega
          have hv7 : (v : Int) ≤ 7 := by have := H15.out; omega
          have hv0 : 0 ≤ 2 * (v : Int) := by omega
          have kw : wr.cell? ⟨b, o + (2 * (v : Int)).toNat * 4, none⟩ = some (.int .i64 (nodeD T (2 * v)).pub) := by rw [show (2 * (v : Int)).toNat = 2 * v by omega]; exact kv
          clear hv2
          by_cases h3 : (nodeD T (2 * v)).pub = 0
          · rw [if_pos (.inr (.inr h3))] at hun
            rw [h3] at kv kw
            have Hun := hQ hun; clear hun
            go_wp2
            go_ret
            exact ⟨by rw [Hpar.out, ← Hun.out]; rfl, Hbx.out⟩
          · rw [if_neg (fun h => h.elim h1 (fun h => h.elim h2 h3))] at hun
            have hp0 : ((nodeD T (2 * v)).pub == 0) = false := beq_eq_false_iff_ne.2 h3
            generalize (nodeD T (2 * v)).pub = pv at kv kw hp0
            have Hun := hQ hun; clear hun h3
            go_wp2
            exact ⟨⟨k + 1, (v : Int) + 1, by omega, by go_num, rfl, by omega, rfl, Hun.out⟩, by simp [intOf]; omega⟩
    · obtain rfl : k = um.length := by omega
      rw [un_end] at hun
      have Hun := hQ hun; clear hun
      go_wp2
      go_ret
      exact ⟨by rw [Hpar.out, ← Hun.out]; rfl, Hbx.out⟩
end
section
open Go Go.RowKit
def um2 (d : NodeD) : List Nat := d.um.map fun u => (2 * u).toNat
def resD (T : List NodeD) : Nat → Nat → List Nat
 | 0, _ => []
 | f + 1, x => if (nodeD T x).pub ≠ 0 then x :: um2 (nodeD T x) else if x % 2 = 1 then resD T f (lefX x) ++ resD T f (rigX x) else []
theorem un_len {T : List NodeD} {last : Int} : ∀ (l : List Int) (first : Int), first ≤ last + 1 → unD T last first l = true → (l.length : Int) ≤ last + 1 - first ∧ ∀ u ∈ l, first ≤ u ∧ u ≤ last
 | [], first, h, _ => ⟨by simp; omega, fun u hu => by simp at hu⟩
 | u :: r, first, h, hun => by
  unfold unD at hun
  split at hun
  · cases hun
  · rename_i hc
    have h1 : first ≤ u ∧ u ≤ last := by constructor <;> (apply Classical.byContradiction; intro h2; exact hc (by omega))
    obtain ⟨h2, h3⟩ := un_len r (u + 1) (by omega) hun
    refine ⟨by simp; omega, fun y hy => ?_⟩
    rcases List.mem_cons.1 hy with rfl | hy
    · exact h1
    · have := h3 y hy; omega
theorem sp_facts : ∀ x ∈ List.range 15, x % 2 = 1 → spF x ≤ spL x + 1 ∧ spL x ≤ 7 := by decide
theorem um_ok {T : List NodeD} (h : OkT' T) {x : Nat} (hx : x < T.length) : 0 ≤ (nodeD T x).pub ∧ (nodeD T x).um.length ≤ 8 ∧ (∀ u ∈ (nodeD T x).um, 0 ≤ u ∧ 2 * u < T.length) := by
 rcases h with h | ⟨hl, hg, _⟩
 · omega
 obtain ⟨hn, hTn⟩ := leaves_isN hl
 have hbl : ∀ d : NodeD, blankD d = true → d.pub = 0 ∧ d.um = [] := fun d h => by
  unfold blankD at h
  simp only [Bool.and_eq_true, decide_eq_true_eq] at h
  exact ⟨h.1.1.1, List.length_eq_zero_iff.1 h.2⟩
 rcases hg x hx with ⟨ho, hp⟩ | ⟨_, hb | ⟨h1, _, _, h4, _⟩⟩
 · obtain ⟨hs1, hs2⟩ := span_in hn (by omega : x < 2 * lvD T.length - 1) ho
   have hs3 := sp_facts x (List.mem_range.2 hs2) ho
   unfold parentD at hp
   split at hp
   · obtain ⟨h1, h2⟩ := hbl _ hp
     rw [h1, h2]
     exact ⟨by omega, by simp, fun u hu => by simp at hu⟩
   · rename_i hc
     obtain ⟨h1, h2⟩ := un_len _ _ (by omega) hp
     refine ⟨?_, by omega, fun u hu => by have := h2 u hu; omega⟩
     apply Classical.byContradiction
     intro h3
     exact hc (.inl (by omega))
 · obtain ⟨h1, h2⟩ := hbl _ hb
   rw [h1, h2]
   exact ⟨by omega, by simp, fun u hu => by simp at hu⟩
 · have e := List.length_eq_zero_iff.1 h4
   rw [e]
   exact ⟨by omega, by simp, fun u hu => by simp at hu⟩
theorem kid_all : ∀ n ∈ [1, 2, 4, 8], ∀ x ∈ List.range (2 * n - 1), x % 2 = 1 → lefX x < 2 * n - 1 ∧ rigX x < 2 * n - 1 ∧ levD (lefX x) < levD x ∧ levD (rigX x) < levD x := by decide
theorem kid {n x : Nat} (hn : isN n) (hx : x < 2 * n - 1) (ho : x % 2 = 1) : lefX x < 2 * n - 1 ∧ rigX x < 2 * n - 1 ∧ levD (lefX x) < levD x ∧ levD (rigX x) < levD x :=
 kid_all n (by rcases hn with rfl | rfl | rfl | rfl <;> decide) x (List.mem_range.2 hx) ho
theorem lev_lt : ∀ x, levD x < 4 := fun x => by unfold levD; split <;> decide
theorem res_len {T : List NodeD} (h : OkT' T) : ∀ (f x : Nat), x < T.length → (resD T f x).length ≤ 9 * 2 ^ f
 | 0, _, _ => by simp [resD]
 | f + 1, x, hx => by
  have hu := um_ok h hx
  obtain ⟨hn, hTn⟩ := leaves_isN (ok_leaves h (by omega))
  have hp : 1 ≤ 2 ^ f := Nat.one_le_two_pow
  unfold resD
  split
  · simp [um2]; omega
  · split
    · rename_i ho
      have hk := kid hn (by omega : x < 2 * lvD T.length - 1) ho
      have h1 := res_len h f (lefX x) (by omega)
      have h2 := res_len h f (rigX x) (by omega)
      rw [List.length_append, Nat.pow_succ]
      omega
    · simp
structure ResIn (w : World) (v v' : Value) (l : List Nat) (wr : World) : Prop where
 own : wr.ownsRow 0 3 1 v' l.length ((natI l).map intV)
 blk : ∀ g, v'.ownBlock = some g → v.ownBlock = some g ∨ w.heap.size ≤ g
 tur : Turned (fun k => v.ownBlock = some k) w wr
theorem ResIn.len {w wr : World} {v v' : Value} {l : List Nat} (h : ResIn w v v' l wr) : ∃ a c, v' = .slice a l.length c := by
 rcases h.own.2 with ⟨e, h2⟩ | ⟨g, cap, cur, e, _⟩
 · exact ⟨none, 0, by rw [e, h2]⟩
 · exact ⟨_, _, e⟩
theorem ResIn.start {w : World} {v : Value} {l : List Nat} (h : OwnI v (natI l) w) : ResIn w v v l w := ⟨by unfold OwnI at h; rw [nIl] at h; exact h, fun g hg => .inl hg, Turned.refl _ _⟩
theorem ResIn.new {w wr w2 : World} {v v' : Value} {l : List Nat} (h : ResIn w v v' l wr) (hb : Below wr.heap.size wr w2) : ResIn w v v' l w2 := by
 refine ⟨⟨h.own.1, ?_⟩, h.blk, h.tur.trans (Turned.new (fun _ => False) hb) (fun _ _ h => h.elim)⟩
 rcases h.own.2 with h0 | ⟨g, cap, cur, e, hB, hg, rest⟩
 · exact .inl h0
 · exact .inr ⟨g, cap, cur, e, hB, (hb.block g (Array.getElem?_eq_some_iff.1 hg).1).trans hg, rest⟩
theorem ResIn.more {w wr w5 : World} {v v' : Value} {l : List Nat} {g c y : Nat} (h : ResIn w v v' l wr)
    (hown : w5.ownsRow 0 3 1 (.slice (some ⟨g, 0, none⟩) (l.length + 1) c) (l.length + 1) ((natI l).map intV ++ [intV y])) (hgrow : (wr.alloc (.cells #[.int .i64 y] 3)).grownBy w5 v'.ownBlock) (hat : v'.ownBlock = some g ∨ g = wr.heap.size + 1) :
    ResIn w v (.slice (some ⟨g, 0, none⟩) (l.length + 1) c) (l ++ [y]) w5 := by
 refine ⟨by rw [natI_snoc, List.map_append, List.length_append]; exact hown, fun g' hg' => ?_, (h.tur.alloc _).grown hgrow (fun k hk e => (h.blk k e).elim id (fun h2 => by omega))⟩
 obtain rfl : g = g' := by simpa [Value.ownBlock] using hg'
 rcases hat with e | e
 · exact h.blk g e
 · have := h.tur.size; exact .inr (by omega)
theorem ResIn.then' {w wa wr : World} {v va v' : Value} {l : List Nat} (h : ResIn w v va l wa) {l2 : List Nat} (k : ResIn wa va v' l2 wr) : ResIn w v v' l2 wr :=
 ⟨k.own, fun g hg => (k.blk g hg).elim (h.blk g) (fun h2 => .inr (Nat.le_trans h.tur.size h2)), h.tur.trans k.tur (fun j hj e => (h.blk j e).elim id (fun h2 => by omega))⟩
theorem ResIn.ownI {w wr : World} {v v' : Value} {l : List Nat} (h : ResIn w v v' l wr) : OwnI v' (natI l) wr := by
 unfold OwnI
 rw [nIl]
 exact h.own
end
end Go.Proofs.YtedpljclnpiggaaGreatDoor
