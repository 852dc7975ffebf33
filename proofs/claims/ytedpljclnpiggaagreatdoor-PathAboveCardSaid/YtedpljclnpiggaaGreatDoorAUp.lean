/-
  The document's index at trees of 1, 2, 4 and 8 leaves. (printed by bin/gen_aridx.py)
-/
import Derived.Test.YtedpljclnpiggaaGreatDoorATree
set_option linter.unusedVariables false
set_option linter.unusedSimpArgs false
namespace Go.Proofs.YtedpljclnpiggaaGreatDoor
open Go Go.RowKit

set_option maxRecDepth 100000 in
theorem artree_1 (w : World) : Calls Tryz.prog 333 #[.int .i64 1] w fun e w' => e = .returned (.bool true) ∧ w' = w := by
  go_enter Tryz.func333, Tryz.ntmps333
  go_wp2
  refine wp_loop_rounds 1 ?_
  rw [rounds_succ]
  go_wp2
  go_ret
  exact ⟨rfl, rfl⟩

set_option maxRecDepth 100000 in
theorem artree_2 (w : World) : Calls Tryz.prog 333 #[.int .i64 2] w fun e w' => e = .returned (.bool true) ∧ w' = w := by
  go_enter Tryz.func333, Tryz.ntmps333
  go_wp2
  refine wp_loop_rounds 2 ?_
  rw [rounds_succ]
  go_wp2
  rw [rounds_succ]
  go_wp2
  go_ret
  exact ⟨rfl, rfl⟩

set_option maxRecDepth 100000 in
theorem artree_4 (w : World) : Calls Tryz.prog 333 #[.int .i64 4] w fun e w' => e = .returned (.bool true) ∧ w' = w := by
  go_enter Tryz.func333, Tryz.ntmps333
  go_wp2
  refine wp_loop_rounds 3 ?_
  rw [rounds_succ]
  go_wp2
  rw [rounds_succ]
  go_wp2
  rw [rounds_succ]
  go_wp2
  go_ret
  exact ⟨rfl, rfl⟩

set_option maxRecDepth 100000 in
theorem artree_8 (w : World) : Calls Tryz.prog 333 #[.int .i64 8] w fun e w' => e = .returned (.bool true) ∧ w' = w := by
  go_enter Tryz.func333, Tryz.ntmps333
  go_wp2
  refine wp_loop_rounds 4 ?_
  rw [rounds_succ]
  go_wp2
  rw [rounds_succ]
  go_wp2
  rw [rounds_succ]
  go_wp2
  rw [rounds_succ]
  go_wp2
  go_ret
  exact ⟨rfl, rfl⟩

set_option maxRecDepth 100000 in
theorem arlev_1 (w : World) : Calls Tryz.prog 332 #[.int .i64 1] w fun e w' => e = .returned (.int .i64 1) ∧ w' = w := by
  go_enter Tryz.func332, Tryz.ntmps332
  go_wp2
  refine wp_loop_rounds 2 ?_
  rw [rounds_succ]
  go_wp2
  rw [rounds_succ]
  go_wp2
  go_ret
  exact ⟨rfl, rfl⟩

set_option maxRecDepth 100000 in
theorem arhalf_1 (w : World) : Calls Tryz.prog 318 #[.int .i64 1] w fun e w' => e = .returned (.int .i64 1) ∧ w' = w := by
  go_enter Tryz.func318, Tryz.ntmps318
  go_wp2_with (first | (go_at_call 332; refine (arlev_1 _).mono ?_; rintro e wx ⟨rfl, hwx⟩; subst wx))
  refine wp_loop_rounds 1 ?_
  rw [rounds_succ]
  go_wp2_with (first | (go_at_call 332; refine (arlev_1 _).mono ?_; rintro e wx ⟨rfl, hwx⟩; subst wx))
  go_ret
  exact ⟨rfl, rfl⟩

set_option maxRecDepth 100000 in
theorem arleft_1 (w : World) : Calls Tryz.prog 299 #[.int .i64 1] w fun e w' => e = .returned (.tuple #[.int .i64 0, .bool true]) ∧ w' = w := by
  go_enter Tryz.func299, Tryz.ntmps299
  go_wp2_with (first | (go_at_call 318; refine (arhalf_1 _).mono ?_; rintro e wx ⟨rfl, hwx⟩; subst wx))
  go_ret2
  exact ⟨rfl, rfl⟩

set_option maxRecDepth 100000 in
theorem arright_1 (w : World) : Calls Tryz.prog 300 #[.int .i64 1] w fun e w' => e = .returned (.tuple #[.int .i64 2, .bool true]) ∧ w' = w := by
  go_enter Tryz.func300, Tryz.ntmps300
  go_wp2_with (first | (go_at_call 318; refine (arhalf_1 _).mono ?_; rintro e wx ⟨rfl, hwx⟩; subst wx))
  go_ret2
  exact ⟨rfl, rfl⟩

set_option maxRecDepth 100000 in
theorem arspan_1 (w : World) : Calls Tryz.prog 291 #[.int .i64 1] w fun e w' => e = .returned (.tuple #[.int .i64 0, .int .i64 1]) ∧ w' = w := by
  go_enter Tryz.func291, Tryz.ntmps291
  go_wp2_with (first | (go_at_call 318; refine (arhalf_1 _).mono ?_; rintro e wx ⟨rfl, hwx⟩; subst wx))
  go_ret2
  exact ⟨rfl, rfl⟩

set_option maxRecDepth 100000 in
theorem arlev_3 (w : World) : Calls Tryz.prog 332 #[.int .i64 3] w fun e w' => e = .returned (.int .i64 2) ∧ w' = w := by
  go_enter Tryz.func332, Tryz.ntmps332
  go_wp2
  refine wp_loop_rounds 3 ?_
  rw [rounds_succ]
  go_wp2
  rw [rounds_succ]
  go_wp2
  rw [rounds_succ]
  go_wp2
  go_ret
  exact ⟨rfl, rfl⟩

set_option maxRecDepth 100000 in
theorem arhalf_3 (w : World) : Calls Tryz.prog 318 #[.int .i64 3] w fun e w' => e = .returned (.int .i64 2) ∧ w' = w := by
  go_enter Tryz.func318, Tryz.ntmps318
  go_wp2_with (first | (go_at_call 332; refine (arlev_3 _).mono ?_; rintro e wx ⟨rfl, hwx⟩; subst wx))
  refine wp_loop_rounds 2 ?_
  rw [rounds_succ]
  go_wp2_with (first | (go_at_call 332; refine (arlev_3 _).mono ?_; rintro e wx ⟨rfl, hwx⟩; subst wx))
  rw [rounds_succ]
  go_wp2_with (first | (go_at_call 332; refine (arlev_3 _).mono ?_; rintro e wx ⟨rfl, hwx⟩; subst wx))
  go_ret
  exact ⟨rfl, rfl⟩

set_option maxRecDepth 100000 in
theorem arleft_3 (w : World) : Calls Tryz.prog 299 #[.int .i64 3] w fun e w' => e = .returned (.tuple #[.int .i64 1, .bool true]) ∧ w' = w := by
  go_enter Tryz.func299, Tryz.ntmps299
  go_wp2_with (first | (go_at_call 318; refine (arhalf_3 _).mono ?_; rintro e wx ⟨rfl, hwx⟩; subst wx))
  go_ret2
  exact ⟨rfl, rfl⟩

set_option maxRecDepth 100000 in
theorem arright_3 (w : World) : Calls Tryz.prog 300 #[.int .i64 3] w fun e w' => e = .returned (.tuple #[.int .i64 5, .bool true]) ∧ w' = w := by
  go_enter Tryz.func300, Tryz.ntmps300
  go_wp2_with (first | (go_at_call 318; refine (arhalf_3 _).mono ?_; rintro e wx ⟨rfl, hwx⟩; subst wx))
  go_ret2
  exact ⟨rfl, rfl⟩

set_option maxRecDepth 100000 in
theorem arspan_3 (w : World) : Calls Tryz.prog 291 #[.int .i64 3] w fun e w' => e = .returned (.tuple #[.int .i64 0, .int .i64 3]) ∧ w' = w := by
  go_enter Tryz.func291, Tryz.ntmps291
  go_wp2_with (first | (go_at_call 318; refine (arhalf_3 _).mono ?_; rintro e wx ⟨rfl, hwx⟩; subst wx))
  go_ret2
  exact ⟨rfl, rfl⟩

set_option maxRecDepth 100000 in
theorem arlev_5 (w : World) : Calls Tryz.prog 332 #[.int .i64 5] w fun e w' => e = .returned (.int .i64 1) ∧ w' = w := by
  go_enter Tryz.func332, Tryz.ntmps332
  go_wp2
  refine wp_loop_rounds 2 ?_
  rw [rounds_succ]
  go_wp2
  rw [rounds_succ]
  go_wp2
  go_ret
  exact ⟨rfl, rfl⟩

set_option maxRecDepth 100000 in
theorem arhalf_5 (w : World) : Calls Tryz.prog 318 #[.int .i64 5] w fun e w' => e = .returned (.int .i64 1) ∧ w' = w := by
  go_enter Tryz.func318, Tryz.ntmps318
  go_wp2_with (first | (go_at_call 332; refine (arlev_5 _).mono ?_; rintro e wx ⟨rfl, hwx⟩; subst wx))
  refine wp_loop_rounds 1 ?_
  rw [rounds_succ]
  go_wp2_with (first | (go_at_call 332; refine (arlev_5 _).mono ?_; rintro e wx ⟨rfl, hwx⟩; subst wx))
  go_ret
  exact ⟨rfl, rfl⟩

set_option maxRecDepth 100000 in
theorem arleft_5 (w : World) : Calls Tryz.prog 299 #[.int .i64 5] w fun e w' => e = .returned (.tuple #[.int .i64 4, .bool true]) ∧ w' = w := by
  go_enter Tryz.func299, Tryz.ntmps299
  go_wp2_with (first | (go_at_call 318; refine (arhalf_5 _).mono ?_; rintro e wx ⟨rfl, hwx⟩; subst wx))
  go_ret2
  exact ⟨rfl, rfl⟩

set_option maxRecDepth 100000 in
theorem arright_5 (w : World) : Calls Tryz.prog 300 #[.int .i64 5] w fun e w' => e = .returned (.tuple #[.int .i64 6, .bool true]) ∧ w' = w := by
  go_enter Tryz.func300, Tryz.ntmps300
  go_wp2_with (first | (go_at_call 318; refine (arhalf_5 _).mono ?_; rintro e wx ⟨rfl, hwx⟩; subst wx))
  go_ret2
  exact ⟨rfl, rfl⟩

set_option maxRecDepth 100000 in
theorem arspan_5 (w : World) : Calls Tryz.prog 291 #[.int .i64 5] w fun e w' => e = .returned (.tuple #[.int .i64 2, .int .i64 3]) ∧ w' = w := by
  go_enter Tryz.func291, Tryz.ntmps291
  go_wp2_with (first | (go_at_call 318; refine (arhalf_5 _).mono ?_; rintro e wx ⟨rfl, hwx⟩; subst wx))
  go_ret2
  exact ⟨rfl, rfl⟩

set_option maxRecDepth 100000 in
theorem arlev_7 (w : World) : Calls Tryz.prog 332 #[.int .i64 7] w fun e w' => e = .returned (.int .i64 3) ∧ w' = w := by
  go_enter Tryz.func332, Tryz.ntmps332
  go_wp2
  refine wp_loop_rounds 4 ?_
  rw [rounds_succ]
  go_wp2
  rw [rounds_succ]
  go_wp2
  rw [rounds_succ]
  go_wp2
  rw [rounds_succ]
  go_wp2
  go_ret
  exact ⟨rfl, rfl⟩

set_option maxRecDepth 100000 in
theorem arhalf_7 (w : World) : Calls Tryz.prog 318 #[.int .i64 7] w fun e w' => e = .returned (.int .i64 4) ∧ w' = w := by
  go_enter Tryz.func318, Tryz.ntmps318
  go_wp2_with (first | (go_at_call 332; refine (arlev_7 _).mono ?_; rintro e wx ⟨rfl, hwx⟩; subst wx))
  refine wp_loop_rounds 3 ?_
  rw [rounds_succ]
  go_wp2_with (first | (go_at_call 332; refine (arlev_7 _).mono ?_; rintro e wx ⟨rfl, hwx⟩; subst wx))
  rw [rounds_succ]
  go_wp2_with (first | (go_at_call 332; refine (arlev_7 _).mono ?_; rintro e wx ⟨rfl, hwx⟩; subst wx))
  rw [rounds_succ]
  go_wp2_with (first | (go_at_call 332; refine (arlev_7 _).mono ?_; rintro e wx ⟨rfl, hwx⟩; subst wx))
  go_ret
  exact ⟨rfl, rfl⟩

set_option maxRecDepth 100000 in
theorem arleft_7 (w : World) : Calls Tryz.prog 299 #[.int .i64 7] w fun e w' => e = .returned (.tuple #[.int .i64 3, .bool true]) ∧ w' = w := by
  go_enter Tryz.func299, Tryz.ntmps299
  go_wp2_with (first | (go_at_call 318; refine (arhalf_7 _).mono ?_; rintro e wx ⟨rfl, hwx⟩; subst wx))
  go_ret2
  exact ⟨rfl, rfl⟩

set_option maxRecDepth 100000 in
theorem arright_7 (w : World) : Calls Tryz.prog 300 #[.int .i64 7] w fun e w' => e = .returned (.tuple #[.int .i64 11, .bool true]) ∧ w' = w := by
  go_enter Tryz.func300, Tryz.ntmps300
  go_wp2_with (first | (go_at_call 318; refine (arhalf_7 _).mono ?_; rintro e wx ⟨rfl, hwx⟩; subst wx))
  go_ret2
  exact ⟨rfl, rfl⟩

set_option maxRecDepth 100000 in
theorem arspan_7 (w : World) : Calls Tryz.prog 291 #[.int .i64 7] w fun e w' => e = .returned (.tuple #[.int .i64 0, .int .i64 7]) ∧ w' = w := by
  go_enter Tryz.func291, Tryz.ntmps291
  go_wp2_with (first | (go_at_call 318; refine (arhalf_7 _).mono ?_; rintro e wx ⟨rfl, hwx⟩; subst wx))
  go_ret2
  exact ⟨rfl, rfl⟩

set_option maxRecDepth 100000 in
theorem arlev_9 (w : World) : Calls Tryz.prog 332 #[.int .i64 9] w fun e w' => e = .returned (.int .i64 1) ∧ w' = w := by
  go_enter Tryz.func332, Tryz.ntmps332
  go_wp2
  refine wp_loop_rounds 2 ?_
  rw [rounds_succ]
  go_wp2
  rw [rounds_succ]
  go_wp2
  go_ret
  exact ⟨rfl, rfl⟩

set_option maxRecDepth 100000 in
theorem arhalf_9 (w : World) : Calls Tryz.prog 318 #[.int .i64 9] w fun e w' => e = .returned (.int .i64 1) ∧ w' = w := by
  go_enter Tryz.func318, Tryz.ntmps318
  go_wp2_with (first | (go_at_call 332; refine (arlev_9 _).mono ?_; rintro e wx ⟨rfl, hwx⟩; subst wx))
  refine wp_loop_rounds 1 ?_
  rw [rounds_succ]
  go_wp2_with (first | (go_at_call 332; refine (arlev_9 _).mono ?_; rintro e wx ⟨rfl, hwx⟩; subst wx))
  go_ret
  exact ⟨rfl, rfl⟩

set_option maxRecDepth 100000 in
theorem arleft_9 (w : World) : Calls Tryz.prog 299 #[.int .i64 9] w fun e w' => e = .returned (.tuple #[.int .i64 8, .bool true]) ∧ w' = w := by
  go_enter Tryz.func299, Tryz.ntmps299
  go_wp2_with (first | (go_at_call 318; refine (arhalf_9 _).mono ?_; rintro e wx ⟨rfl, hwx⟩; subst wx))
  go_ret2
  exact ⟨rfl, rfl⟩

set_option maxRecDepth 100000 in
theorem arright_9 (w : World) : Calls Tryz.prog 300 #[.int .i64 9] w fun e w' => e = .returned (.tuple #[.int .i64 10, .bool true]) ∧ w' = w := by
  go_enter Tryz.func300, Tryz.ntmps300
  go_wp2_with (first | (go_at_call 318; refine (arhalf_9 _).mono ?_; rintro e wx ⟨rfl, hwx⟩; subst wx))
  go_ret2
  exact ⟨rfl, rfl⟩

set_option maxRecDepth 100000 in
theorem arspan_9 (w : World) : Calls Tryz.prog 291 #[.int .i64 9] w fun e w' => e = .returned (.tuple #[.int .i64 4, .int .i64 5]) ∧ w' = w := by
  go_enter Tryz.func291, Tryz.ntmps291
  go_wp2_with (first | (go_at_call 318; refine (arhalf_9 _).mono ?_; rintro e wx ⟨rfl, hwx⟩; subst wx))
  go_ret2
  exact ⟨rfl, rfl⟩

set_option maxRecDepth 100000 in
theorem arlev_11 (w : World) : Calls Tryz.prog 332 #[.int .i64 11] w fun e w' => e = .returned (.int .i64 2) ∧ w' = w := by
  go_enter Tryz.func332, Tryz.ntmps332
  go_wp2
  refine wp_loop_rounds 3 ?_
  rw [rounds_succ]
  go_wp2
  rw [rounds_succ]
  go_wp2
  rw [rounds_succ]
  go_wp2
  go_ret
  exact ⟨rfl, rfl⟩

set_option maxRecDepth 100000 in
theorem arhalf_11 (w : World) : Calls Tryz.prog 318 #[.int .i64 11] w fun e w' => e = .returned (.int .i64 2) ∧ w' = w := by
  go_enter Tryz.func318, Tryz.ntmps318
  go_wp2_with (first | (go_at_call 332; refine (arlev_11 _).mono ?_; rintro e wx ⟨rfl, hwx⟩; subst wx))
  refine wp_loop_rounds 2 ?_
  rw [rounds_succ]
  go_wp2_with (first | (go_at_call 332; refine (arlev_11 _).mono ?_; rintro e wx ⟨rfl, hwx⟩; subst wx))
  rw [rounds_succ]
  go_wp2_with (first | (go_at_call 332; refine (arlev_11 _).mono ?_; rintro e wx ⟨rfl, hwx⟩; subst wx))
  go_ret
  exact ⟨rfl, rfl⟩

set_option maxRecDepth 100000 in
theorem arleft_11 (w : World) : Calls Tryz.prog 299 #[.int .i64 11] w fun e w' => e = .returned (.tuple #[.int .i64 9, .bool true]) ∧ w' = w := by
  go_enter Tryz.func299, Tryz.ntmps299
  go_wp2_with (first | (go_at_call 318; refine (arhalf_11 _).mono ?_; rintro e wx ⟨rfl, hwx⟩; subst wx))
  go_ret2
  exact ⟨rfl, rfl⟩

set_option maxRecDepth 100000 in
theorem arright_11 (w : World) : Calls Tryz.prog 300 #[.int .i64 11] w fun e w' => e = .returned (.tuple #[.int .i64 13, .bool true]) ∧ w' = w := by
  go_enter Tryz.func300, Tryz.ntmps300
  go_wp2_with (first | (go_at_call 318; refine (arhalf_11 _).mono ?_; rintro e wx ⟨rfl, hwx⟩; subst wx))
  go_ret2
  exact ⟨rfl, rfl⟩

set_option maxRecDepth 100000 in
theorem arspan_11 (w : World) : Calls Tryz.prog 291 #[.int .i64 11] w fun e w' => e = .returned (.tuple #[.int .i64 4, .int .i64 7]) ∧ w' = w := by
  go_enter Tryz.func291, Tryz.ntmps291
  go_wp2_with (first | (go_at_call 318; refine (arhalf_11 _).mono ?_; rintro e wx ⟨rfl, hwx⟩; subst wx))
  go_ret2
  exact ⟨rfl, rfl⟩

set_option maxRecDepth 100000 in
theorem arlev_13 (w : World) : Calls Tryz.prog 332 #[.int .i64 13] w fun e w' => e = .returned (.int .i64 1) ∧ w' = w := by
  go_enter Tryz.func332, Tryz.ntmps332
  go_wp2
  refine wp_loop_rounds 2 ?_
  rw [rounds_succ]
  go_wp2
  rw [rounds_succ]
  go_wp2
  go_ret
  exact ⟨rfl, rfl⟩

set_option maxRecDepth 100000 in
theorem arhalf_13 (w : World) : Calls Tryz.prog 318 #[.int .i64 13] w fun e w' => e = .returned (.int .i64 1) ∧ w' = w := by
  go_enter Tryz.func318, Tryz.ntmps318
  go_wp2_with (first | (go_at_call 332; refine (arlev_13 _).mono ?_; rintro e wx ⟨rfl, hwx⟩; subst wx))
  refine wp_loop_rounds 1 ?_
  rw [rounds_succ]
  go_wp2_with (first | (go_at_call 332; refine (arlev_13 _).mono ?_; rintro e wx ⟨rfl, hwx⟩; subst wx))
  go_ret
  exact ⟨rfl, rfl⟩

set_option maxRecDepth 100000 in
theorem arleft_13 (w : World) : Calls Tryz.prog 299 #[.int .i64 13] w fun e w' => e = .returned (.tuple #[.int .i64 12, .bool true]) ∧ w' = w := by
  go_enter Tryz.func299, Tryz.ntmps299
  go_wp2_with (first | (go_at_call 318; refine (arhalf_13 _).mono ?_; rintro e wx ⟨rfl, hwx⟩; subst wx))
  go_ret2
  exact ⟨rfl, rfl⟩

set_option maxRecDepth 100000 in
theorem arright_13 (w : World) : Calls Tryz.prog 300 #[.int .i64 13] w fun e w' => e = .returned (.tuple #[.int .i64 14, .bool true]) ∧ w' = w := by
  go_enter Tryz.func300, Tryz.ntmps300
  go_wp2_with (first | (go_at_call 318; refine (arhalf_13 _).mono ?_; rintro e wx ⟨rfl, hwx⟩; subst wx))
  go_ret2
  exact ⟨rfl, rfl⟩

set_option maxRecDepth 100000 in
theorem arspan_13 (w : World) : Calls Tryz.prog 291 #[.int .i64 13] w fun e w' => e = .returned (.tuple #[.int .i64 6, .int .i64 7]) ∧ w' = w := by
  go_enter Tryz.func291, Tryz.ntmps291
  go_wp2_with (first | (go_at_call 318; refine (arhalf_13 _).mono ?_; rintro e wx ⟨rfl, hwx⟩; subst wx))
  go_ret2
  exact ⟨rfl, rfl⟩

theorem arspan_any (x : Nat) (hx : x < 15) (ho : x % 2 = 1) (w : World) : Calls Tryz.prog 291 #[.int .i64 x] w fun r w' => r = .returned (.tuple #[.int .i64 (spF x : Nat), .int .i64 (spL x : Nat)]) ∧ w' = w := by
  have hc : x = 1 ∨ x = 3 ∨ x = 5 ∨ x = 7 ∨ x = 9 ∨ x = 11 ∨ x = 13 := by omega
  rcases hc with rfl | rfl | rfl | rfl | rfl | rfl | rfl
  · exact arspan_1 w
  · exact arspan_3 w
  · exact arspan_5 w
  · exact arspan_7 w
  · exact arspan_9 w
  · exact arspan_11 w
  · exact arspan_13 w

set_option maxRecDepth 100000 in
theorem arin_0_1 (w : World) : Calls Tryz.prog 319 #[.int .i64 0, .int .i64 1] w fun e w' => e = .returned (.bool true) ∧ w' = w := by
  go_enter Tryz.func319, Tryz.ntmps319
  go_wp2_with (first | (go_at_call 333; refine (artree_1 _).mono ?_; rintro e wx ⟨rfl, hwx⟩; subst wx))
  go_ret
  exact ⟨rfl, rfl⟩

set_option maxRecDepth 100000 in
theorem arparent_0_1 (w : World) : Calls Tryz.prog 292 #[.int .i64 0, .int .i64 1] w fun e w' => e = .returned (.tuple #[.int .i64 0, .bool false]) ∧ w' = w := by
  go_enter Tryz.func292, Tryz.ntmps292
  go_wp2_with (first | (go_at_call 319; refine (arin_0_1 _).mono ?_; rintro e wx ⟨rfl, hwx⟩; subst wx))
  go_ret2
  exact ⟨rfl, rfl⟩

set_option maxRecDepth 100000 in
theorem arin_0_2 (w : World) : Calls Tryz.prog 319 #[.int .i64 0, .int .i64 2] w fun e w' => e = .returned (.bool true) ∧ w' = w := by
  go_enter Tryz.func319, Tryz.ntmps319
  go_wp2_with (first | (go_at_call 333; refine (artree_2 _).mono ?_; rintro e wx ⟨rfl, hwx⟩; subst wx))
  go_ret
  exact ⟨rfl, rfl⟩

set_option maxRecDepth 100000 in
theorem arparent_0_2 (w : World) : Calls Tryz.prog 292 #[.int .i64 0, .int .i64 2] w fun e w' => e = .returned (.tuple #[.int .i64 1, .bool true]) ∧ w' = w := by
  go_enter Tryz.func292, Tryz.ntmps292
  go_wp2_with (first | (go_at_call 319; refine (arin_0_2 _).mono ?_; rintro e wx ⟨rfl, hwx⟩; subst wx))
  refine wp_loop_rounds 1 ?_
  rw [rounds_succ]
  go_wp2_with (first | (go_at_call 299; refine (arleft_1 _).mono ?_; rintro e wx ⟨rfl, hwx⟩; subst wx) | (go_at_call 300; refine (arright_1 _).mono ?_; rintro e wx ⟨rfl, hwx⟩; subst wx))
  go_ret2
  exact ⟨rfl, rfl⟩

set_option maxRecDepth 100000 in
theorem arin_1_2 (w : World) : Calls Tryz.prog 319 #[.int .i64 1, .int .i64 2] w fun e w' => e = .returned (.bool true) ∧ w' = w := by
  go_enter Tryz.func319, Tryz.ntmps319
  go_wp2_with (first | (go_at_call 333; refine (artree_2 _).mono ?_; rintro e wx ⟨rfl, hwx⟩; subst wx))
  go_ret
  exact ⟨rfl, rfl⟩

set_option maxRecDepth 100000 in
theorem arparent_1_2 (w : World) : Calls Tryz.prog 292 #[.int .i64 1, .int .i64 2] w fun e w' => e = .returned (.tuple #[.int .i64 0, .bool false]) ∧ w' = w := by
  go_enter Tryz.func292, Tryz.ntmps292
  go_wp2_with (first | (go_at_call 319; refine (arin_1_2 _).mono ?_; rintro e wx ⟨rfl, hwx⟩; subst wx))
  go_ret2
  exact ⟨rfl, rfl⟩

set_option maxRecDepth 100000 in
theorem arin_2_2 (w : World) : Calls Tryz.prog 319 #[.int .i64 2, .int .i64 2] w fun e w' => e = .returned (.bool true) ∧ w' = w := by
  go_enter Tryz.func319, Tryz.ntmps319
  go_wp2_with (first | (go_at_call 333; refine (artree_2 _).mono ?_; rintro e wx ⟨rfl, hwx⟩; subst wx))
  go_ret
  exact ⟨rfl, rfl⟩

set_option maxRecDepth 100000 in
theorem arparent_2_2 (w : World) : Calls Tryz.prog 292 #[.int .i64 2, .int .i64 2] w fun e w' => e = .returned (.tuple #[.int .i64 1, .bool true]) ∧ w' = w := by
  go_enter Tryz.func292, Tryz.ntmps292
  go_wp2_with (first | (go_at_call 319; refine (arin_2_2 _).mono ?_; rintro e wx ⟨rfl, hwx⟩; subst wx))
  refine wp_loop_rounds 1 ?_
  rw [rounds_succ]
  go_wp2_with (first | (go_at_call 299; refine (arleft_1 _).mono ?_; rintro e wx ⟨rfl, hwx⟩; subst wx) | (go_at_call 300; refine (arright_1 _).mono ?_; rintro e wx ⟨rfl, hwx⟩; subst wx))
  go_ret2
  exact ⟨rfl, rfl⟩

set_option maxRecDepth 100000 in
theorem arin_0_4 (w : World) : Calls Tryz.prog 319 #[.int .i64 0, .int .i64 4] w fun e w' => e = .returned (.bool true) ∧ w' = w := by
  go_enter Tryz.func319, Tryz.ntmps319
  go_wp2_with (first | (go_at_call 333; refine (artree_4 _).mono ?_; rintro e wx ⟨rfl, hwx⟩; subst wx))
  go_ret
  exact ⟨rfl, rfl⟩

set_option maxRecDepth 100000 in
theorem arparent_0_4 (w : World) : Calls Tryz.prog 292 #[.int .i64 0, .int .i64 4] w fun e w' => e = .returned (.tuple #[.int .i64 1, .bool true]) ∧ w' = w := by
  go_enter Tryz.func292, Tryz.ntmps292
  go_wp2_with (first | (go_at_call 319; refine (arin_0_4 _).mono ?_; rintro e wx ⟨rfl, hwx⟩; subst wx))
  refine wp_loop_rounds 2 ?_
  rw [rounds_succ]
  go_wp2_with (first | (go_at_call 299; refine (arleft_3 _).mono ?_; rintro e wx ⟨rfl, hwx⟩; subst wx) | (go_at_call 300; refine (arright_3 _).mono ?_; rintro e wx ⟨rfl, hwx⟩; subst wx))
  rw [rounds_succ]
  go_wp2_with (first | (go_at_call 299; refine (arleft_1 _).mono ?_; rintro e wx ⟨rfl, hwx⟩; subst wx) | (go_at_call 300; refine (arright_1 _).mono ?_; rintro e wx ⟨rfl, hwx⟩; subst wx))
  go_ret2
  exact ⟨rfl, rfl⟩

set_option maxRecDepth 100000 in
theorem arin_1_4 (w : World) : Calls Tryz.prog 319 #[.int .i64 1, .int .i64 4] w fun e w' => e = .returned (.bool true) ∧ w' = w := by
  go_enter Tryz.func319, Tryz.ntmps319
  go_wp2_with (first | (go_at_call 333; refine (artree_4 _).mono ?_; rintro e wx ⟨rfl, hwx⟩; subst wx))
  go_ret
  exact ⟨rfl, rfl⟩

set_option maxRecDepth 100000 in
theorem arparent_1_4 (w : World) : Calls Tryz.prog 292 #[.int .i64 1, .int .i64 4] w fun e w' => e = .returned (.tuple #[.int .i64 3, .bool true]) ∧ w' = w := by
  go_enter Tryz.func292, Tryz.ntmps292
  go_wp2_with (first | (go_at_call 319; refine (arin_1_4 _).mono ?_; rintro e wx ⟨rfl, hwx⟩; subst wx))
  refine wp_loop_rounds 1 ?_
  rw [rounds_succ]
  go_wp2_with (first | (go_at_call 299; refine (arleft_3 _).mono ?_; rintro e wx ⟨rfl, hwx⟩; subst wx) | (go_at_call 300; refine (arright_3 _).mono ?_; rintro e wx ⟨rfl, hwx⟩; subst wx))
  go_ret2
  exact ⟨rfl, rfl⟩

set_option maxRecDepth 100000 in
theorem arin_2_4 (w : World) : Calls Tryz.prog 319 #[.int .i64 2, .int .i64 4] w fun e w' => e = .returned (.bool true) ∧ w' = w := by
  go_enter Tryz.func319, Tryz.ntmps319
  go_wp2_with (first | (go_at_call 333; refine (artree_4 _).mono ?_; rintro e wx ⟨rfl, hwx⟩; subst wx))
  go_ret
  exact ⟨rfl, rfl⟩

set_option maxRecDepth 100000 in
theorem arparent_2_4 (w : World) : Calls Tryz.prog 292 #[.int .i64 2, .int .i64 4] w fun e w' => e = .returned (.tuple #[.int .i64 1, .bool true]) ∧ w' = w := by
  go_enter Tryz.func292, Tryz.ntmps292
  go_wp2_with (first | (go_at_call 319; refine (arin_2_4 _).mono ?_; rintro e wx ⟨rfl, hwx⟩; subst wx))
  refine wp_loop_rounds 2 ?_
  rw [rounds_succ]
  go_wp2_with (first | (go_at_call 299; refine (arleft_3 _).mono ?_; rintro e wx ⟨rfl, hwx⟩; subst wx) | (go_at_call 300; refine (arright_3 _).mono ?_; rintro e wx ⟨rfl, hwx⟩; subst wx))
  rw [rounds_succ]
  go_wp2_with (first | (go_at_call 299; refine (arleft_1 _).mono ?_; rintro e wx ⟨rfl, hwx⟩; subst wx) | (go_at_call 300; refine (arright_1 _).mono ?_; rintro e wx ⟨rfl, hwx⟩; subst wx))
  go_ret2
  exact ⟨rfl, rfl⟩

set_option maxRecDepth 100000 in
theorem arin_3_4 (w : World) : Calls Tryz.prog 319 #[.int .i64 3, .int .i64 4] w fun e w' => e = .returned (.bool true) ∧ w' = w := by
  go_enter Tryz.func319, Tryz.ntmps319
  go_wp2_with (first | (go_at_call 333; refine (artree_4 _).mono ?_; rintro e wx ⟨rfl, hwx⟩; subst wx))
  go_ret
  exact ⟨rfl, rfl⟩

set_option maxRecDepth 100000 in
theorem arparent_3_4 (w : World) : Calls Tryz.prog 292 #[.int .i64 3, .int .i64 4] w fun e w' => e = .returned (.tuple #[.int .i64 0, .bool false]) ∧ w' = w := by
  go_enter Tryz.func292, Tryz.ntmps292
  go_wp2_with (first | (go_at_call 319; refine (arin_3_4 _).mono ?_; rintro e wx ⟨rfl, hwx⟩; subst wx))
  go_ret2
  exact ⟨rfl, rfl⟩

set_option maxRecDepth 100000 in
theorem arin_4_4 (w : World) : Calls Tryz.prog 319 #[.int .i64 4, .int .i64 4] w fun e w' => e = .returned (.bool true) ∧ w' = w := by
  go_enter Tryz.func319, Tryz.ntmps319
  go_wp2_with (first | (go_at_call 333; refine (artree_4 _).mono ?_; rintro e wx ⟨rfl, hwx⟩; subst wx))
  go_ret
  exact ⟨rfl, rfl⟩

set_option maxRecDepth 100000 in
theorem arparent_4_4 (w : World) : Calls Tryz.prog 292 #[.int .i64 4, .int .i64 4] w fun e w' => e = .returned (.tuple #[.int .i64 5, .bool true]) ∧ w' = w := by
  go_enter Tryz.func292, Tryz.ntmps292
  go_wp2_with (first | (go_at_call 319; refine (arin_4_4 _).mono ?_; rintro e wx ⟨rfl, hwx⟩; subst wx))
  refine wp_loop_rounds 2 ?_
  rw [rounds_succ]
  go_wp2_with (first | (go_at_call 299; refine (arleft_3 _).mono ?_; rintro e wx ⟨rfl, hwx⟩; subst wx) | (go_at_call 300; refine (arright_3 _).mono ?_; rintro e wx ⟨rfl, hwx⟩; subst wx))
  rw [rounds_succ]
  go_wp2_with (first | (go_at_call 299; refine (arleft_5 _).mono ?_; rintro e wx ⟨rfl, hwx⟩; subst wx) | (go_at_call 300; refine (arright_5 _).mono ?_; rintro e wx ⟨rfl, hwx⟩; subst wx))
  go_ret2
  exact ⟨rfl, rfl⟩

set_option maxRecDepth 100000 in
theorem arin_5_4 (w : World) : Calls Tryz.prog 319 #[.int .i64 5, .int .i64 4] w fun e w' => e = .returned (.bool true) ∧ w' = w := by
  go_enter Tryz.func319, Tryz.ntmps319
  go_wp2_with (first | (go_at_call 333; refine (artree_4 _).mono ?_; rintro e wx ⟨rfl, hwx⟩; subst wx))
  go_ret
  exact ⟨rfl, rfl⟩

set_option maxRecDepth 100000 in
theorem arparent_5_4 (w : World) : Calls Tryz.prog 292 #[.int .i64 5, .int .i64 4] w fun e w' => e = .returned (.tuple #[.int .i64 3, .bool true]) ∧ w' = w := by
  go_enter Tryz.func292, Tryz.ntmps292
  go_wp2_with (first | (go_at_call 319; refine (arin_5_4 _).mono ?_; rintro e wx ⟨rfl, hwx⟩; subst wx))
  refine wp_loop_rounds 1 ?_
  rw [rounds_succ]
  go_wp2_with (first | (go_at_call 299; refine (arleft_3 _).mono ?_; rintro e wx ⟨rfl, hwx⟩; subst wx) | (go_at_call 300; refine (arright_3 _).mono ?_; rintro e wx ⟨rfl, hwx⟩; subst wx))
  go_ret2
  exact ⟨rfl, rfl⟩

set_option maxRecDepth 100000 in
theorem arin_6_4 (w : World) : Calls Tryz.prog 319 #[.int .i64 6, .int .i64 4] w fun e w' => e = .returned (.bool true) ∧ w' = w := by
  go_enter Tryz.func319, Tryz.ntmps319
  go_wp2_with (first | (go_at_call 333; refine (artree_4 _).mono ?_; rintro e wx ⟨rfl, hwx⟩; subst wx))
  go_ret
  exact ⟨rfl, rfl⟩

set_option maxRecDepth 100000 in
theorem arparent_6_4 (w : World) : Calls Tryz.prog 292 #[.int .i64 6, .int .i64 4] w fun e w' => e = .returned (.tuple #[.int .i64 5, .bool true]) ∧ w' = w := by
  go_enter Tryz.func292, Tryz.ntmps292
  go_wp2_with (first | (go_at_call 319; refine (arin_6_4 _).mono ?_; rintro e wx ⟨rfl, hwx⟩; subst wx))
  refine wp_loop_rounds 2 ?_
  rw [rounds_succ]
  go_wp2_with (first | (go_at_call 299; refine (arleft_3 _).mono ?_; rintro e wx ⟨rfl, hwx⟩; subst wx) | (go_at_call 300; refine (arright_3 _).mono ?_; rintro e wx ⟨rfl, hwx⟩; subst wx))
  rw [rounds_succ]
  go_wp2_with (first | (go_at_call 299; refine (arleft_5 _).mono ?_; rintro e wx ⟨rfl, hwx⟩; subst wx) | (go_at_call 300; refine (arright_5 _).mono ?_; rintro e wx ⟨rfl, hwx⟩; subst wx))
  go_ret2
  exact ⟨rfl, rfl⟩

set_option maxRecDepth 100000 in
theorem arin_0_8 (w : World) : Calls Tryz.prog 319 #[.int .i64 0, .int .i64 8] w fun e w' => e = .returned (.bool true) ∧ w' = w := by
  go_enter Tryz.func319, Tryz.ntmps319
  go_wp2_with (first | (go_at_call 333; refine (artree_8 _).mono ?_; rintro e wx ⟨rfl, hwx⟩; subst wx))
  go_ret
  exact ⟨rfl, rfl⟩

set_option maxRecDepth 100000 in
theorem arparent_0_8 (w : World) : Calls Tryz.prog 292 #[.int .i64 0, .int .i64 8] w fun e w' => e = .returned (.tuple #[.int .i64 1, .bool true]) ∧ w' = w := by
  go_enter Tryz.func292, Tryz.ntmps292
  go_wp2_with (first | (go_at_call 319; refine (arin_0_8 _).mono ?_; rintro e wx ⟨rfl, hwx⟩; subst wx))
  refine wp_loop_rounds 3 ?_
  rw [rounds_succ]
  go_wp2_with (first | (go_at_call 299; refine (arleft_7 _).mono ?_; rintro e wx ⟨rfl, hwx⟩; subst wx) | (go_at_call 300; refine (arright_7 _).mono ?_; rintro e wx ⟨rfl, hwx⟩; subst wx))
  rw [rounds_succ]
  go_wp2_with (first | (go_at_call 299; refine (arleft_3 _).mono ?_; rintro e wx ⟨rfl, hwx⟩; subst wx) | (go_at_call 300; refine (arright_3 _).mono ?_; rintro e wx ⟨rfl, hwx⟩; subst wx))
  rw [rounds_succ]
  go_wp2_with (first | (go_at_call 299; refine (arleft_1 _).mono ?_; rintro e wx ⟨rfl, hwx⟩; subst wx) | (go_at_call 300; refine (arright_1 _).mono ?_; rintro e wx ⟨rfl, hwx⟩; subst wx))
  go_ret2
  exact ⟨rfl, rfl⟩

set_option maxRecDepth 100000 in
theorem arin_1_8 (w : World) : Calls Tryz.prog 319 #[.int .i64 1, .int .i64 8] w fun e w' => e = .returned (.bool true) ∧ w' = w := by
  go_enter Tryz.func319, Tryz.ntmps319
  go_wp2_with (first | (go_at_call 333; refine (artree_8 _).mono ?_; rintro e wx ⟨rfl, hwx⟩; subst wx))
  go_ret
  exact ⟨rfl, rfl⟩

set_option maxRecDepth 100000 in
theorem arparent_1_8 (w : World) : Calls Tryz.prog 292 #[.int .i64 1, .int .i64 8] w fun e w' => e = .returned (.tuple #[.int .i64 3, .bool true]) ∧ w' = w := by
  go_enter Tryz.func292, Tryz.ntmps292
  go_wp2_with (first | (go_at_call 319; refine (arin_1_8 _).mono ?_; rintro e wx ⟨rfl, hwx⟩; subst wx))
  refine wp_loop_rounds 2 ?_
  rw [rounds_succ]
  go_wp2_with (first | (go_at_call 299; refine (arleft_7 _).mono ?_; rintro e wx ⟨rfl, hwx⟩; subst wx) | (go_at_call 300; refine (arright_7 _).mono ?_; rintro e wx ⟨rfl, hwx⟩; subst wx))
  rw [rounds_succ]
  go_wp2_with (first | (go_at_call 299; refine (arleft_3 _).mono ?_; rintro e wx ⟨rfl, hwx⟩; subst wx) | (go_at_call 300; refine (arright_3 _).mono ?_; rintro e wx ⟨rfl, hwx⟩; subst wx))
  go_ret2
  exact ⟨rfl, rfl⟩

set_option maxRecDepth 100000 in
theorem arin_2_8 (w : World) : Calls Tryz.prog 319 #[.int .i64 2, .int .i64 8] w fun e w' => e = .returned (.bool true) ∧ w' = w := by
  go_enter Tryz.func319, Tryz.ntmps319
  go_wp2_with (first | (go_at_call 333; refine (artree_8 _).mono ?_; rintro e wx ⟨rfl, hwx⟩; subst wx))
  go_ret
  exact ⟨rfl, rfl⟩

set_option maxRecDepth 100000 in
theorem arparent_2_8 (w : World) : Calls Tryz.prog 292 #[.int .i64 2, .int .i64 8] w fun e w' => e = .returned (.tuple #[.int .i64 1, .bool true]) ∧ w' = w := by
  go_enter Tryz.func292, Tryz.ntmps292
  go_wp2_with (first | (go_at_call 319; refine (arin_2_8 _).mono ?_; rintro e wx ⟨rfl, hwx⟩; subst wx))
  refine wp_loop_rounds 3 ?_
  rw [rounds_succ]
  go_wp2_with (first | (go_at_call 299; refine (arleft_7 _).mono ?_; rintro e wx ⟨rfl, hwx⟩; subst wx) | (go_at_call 300; refine (arright_7 _).mono ?_; rintro e wx ⟨rfl, hwx⟩; subst wx))
  rw [rounds_succ]
  go_wp2_with (first | (go_at_call 299; refine (arleft_3 _).mono ?_; rintro e wx ⟨rfl, hwx⟩; subst wx) | (go_at_call 300; refine (arright_3 _).mono ?_; rintro e wx ⟨rfl, hwx⟩; subst wx))
  rw [rounds_succ]
  go_wp2_with (first | (go_at_call 299; refine (arleft_1 _).mono ?_; rintro e wx ⟨rfl, hwx⟩; subst wx) | (go_at_call 300; refine (arright_1 _).mono ?_; rintro e wx ⟨rfl, hwx⟩; subst wx))
  go_ret2
  exact ⟨rfl, rfl⟩

set_option maxRecDepth 100000 in
theorem arin_3_8 (w : World) : Calls Tryz.prog 319 #[.int .i64 3, .int .i64 8] w fun e w' => e = .returned (.bool true) ∧ w' = w := by
  go_enter Tryz.func319, Tryz.ntmps319
  go_wp2_with (first | (go_at_call 333; refine (artree_8 _).mono ?_; rintro e wx ⟨rfl, hwx⟩; subst wx))
  go_ret
  exact ⟨rfl, rfl⟩

set_option maxRecDepth 100000 in
theorem arparent_3_8 (w : World) : Calls Tryz.prog 292 #[.int .i64 3, .int .i64 8] w fun e w' => e = .returned (.tuple #[.int .i64 7, .bool true]) ∧ w' = w := by
  go_enter Tryz.func292, Tryz.ntmps292
  go_wp2_with (first | (go_at_call 319; refine (arin_3_8 _).mono ?_; rintro e wx ⟨rfl, hwx⟩; subst wx))
  refine wp_loop_rounds 1 ?_
  rw [rounds_succ]
  go_wp2_with (first | (go_at_call 299; refine (arleft_7 _).mono ?_; rintro e wx ⟨rfl, hwx⟩; subst wx) | (go_at_call 300; refine (arright_7 _).mono ?_; rintro e wx ⟨rfl, hwx⟩; subst wx))
  go_ret2
  exact ⟨rfl, rfl⟩

set_option maxRecDepth 100000 in
theorem arin_4_8 (w : World) : Calls Tryz.prog 319 #[.int .i64 4, .int .i64 8] w fun e w' => e = .returned (.bool true) ∧ w' = w := by
  go_enter Tryz.func319, Tryz.ntmps319
  go_wp2_with (first | (go_at_call 333; refine (artree_8 _).mono ?_; rintro e wx ⟨rfl, hwx⟩; subst wx))
  go_ret
  exact ⟨rfl, rfl⟩

set_option maxRecDepth 100000 in
theorem arparent_4_8 (w : World) : Calls Tryz.prog 292 #[.int .i64 4, .int .i64 8] w fun e w' => e = .returned (.tuple #[.int .i64 5, .bool true]) ∧ w' = w := by
  go_enter Tryz.func292, Tryz.ntmps292
  go_wp2_with (first | (go_at_call 319; refine (arin_4_8 _).mono ?_; rintro e wx ⟨rfl, hwx⟩; subst wx))
  refine wp_loop_rounds 3 ?_
  rw [rounds_succ]
  go_wp2_with (first | (go_at_call 299; refine (arleft_7 _).mono ?_; rintro e wx ⟨rfl, hwx⟩; subst wx) | (go_at_call 300; refine (arright_7 _).mono ?_; rintro e wx ⟨rfl, hwx⟩; subst wx))
  rw [rounds_succ]
  go_wp2_with (first | (go_at_call 299; refine (arleft_3 _).mono ?_; rintro e wx ⟨rfl, hwx⟩; subst wx) | (go_at_call 300; refine (arright_3 _).mono ?_; rintro e wx ⟨rfl, hwx⟩; subst wx))
  rw [rounds_succ]
  go_wp2_with (first | (go_at_call 299; refine (arleft_5 _).mono ?_; rintro e wx ⟨rfl, hwx⟩; subst wx) | (go_at_call 300; refine (arright_5 _).mono ?_; rintro e wx ⟨rfl, hwx⟩; subst wx))
  go_ret2
  exact ⟨rfl, rfl⟩

set_option maxRecDepth 100000 in
theorem arin_5_8 (w : World) : Calls Tryz.prog 319 #[.int .i64 5, .int .i64 8] w fun e w' => e = .returned (.bool true) ∧ w' = w := by
  go_enter Tryz.func319, Tryz.ntmps319
  go_wp2_with (first | (go_at_call 333; refine (artree_8 _).mono ?_; rintro e wx ⟨rfl, hwx⟩; subst wx))
  go_ret
  exact ⟨rfl, rfl⟩

set_option maxRecDepth 100000 in
theorem arparent_5_8 (w : World) : Calls Tryz.prog 292 #[.int .i64 5, .int .i64 8] w fun e w' => e = .returned (.tuple #[.int .i64 3, .bool true]) ∧ w' = w := by
  go_enter Tryz.func292, Tryz.ntmps292
  go_wp2_with (first | (go_at_call 319; refine (arin_5_8 _).mono ?_; rintro e wx ⟨rfl, hwx⟩; subst wx))
  refine wp_loop_rounds 2 ?_
  rw [rounds_succ]
  go_wp2_with (first | (go_at_call 299; refine (arleft_7 _).mono ?_; rintro e wx ⟨rfl, hwx⟩; subst wx) | (go_at_call 300; refine (arright_7 _).mono ?_; rintro e wx ⟨rfl, hwx⟩; subst wx))
  rw [rounds_succ]
  go_wp2_with (first | (go_at_call 299; refine (arleft_3 _).mono ?_; rintro e wx ⟨rfl, hwx⟩; subst wx) | (go_at_call 300; refine (arright_3 _).mono ?_; rintro e wx ⟨rfl, hwx⟩; subst wx))
  go_ret2
  exact ⟨rfl, rfl⟩

set_option maxRecDepth 100000 in
theorem arin_6_8 (w : World) : Calls Tryz.prog 319 #[.int .i64 6, .int .i64 8] w fun e w' => e = .returned (.bool true) ∧ w' = w := by
  go_enter Tryz.func319, Tryz.ntmps319
  go_wp2_with (first | (go_at_call 333; refine (artree_8 _).mono ?_; rintro e wx ⟨rfl, hwx⟩; subst wx))
  go_ret
  exact ⟨rfl, rfl⟩

set_option maxRecDepth 100000 in
theorem arparent_6_8 (w : World) : Calls Tryz.prog 292 #[.int .i64 6, .int .i64 8] w fun e w' => e = .returned (.tuple #[.int .i64 5, .bool true]) ∧ w' = w := by
  go_enter Tryz.func292, Tryz.ntmps292
  go_wp2_with (first | (go_at_call 319; refine (arin_6_8 _).mono ?_; rintro e wx ⟨rfl, hwx⟩; subst wx))
  refine wp_loop_rounds 3 ?_
  rw [rounds_succ]
  go_wp2_with (first | (go_at_call 299; refine (arleft_7 _).mono ?_; rintro e wx ⟨rfl, hwx⟩; subst wx) | (go_at_call 300; refine (arright_7 _).mono ?_; rintro e wx ⟨rfl, hwx⟩; subst wx))
  rw [rounds_succ]
  go_wp2_with (first | (go_at_call 299; refine (arleft_3 _).mono ?_; rintro e wx ⟨rfl, hwx⟩; subst wx) | (go_at_call 300; refine (arright_3 _).mono ?_; rintro e wx ⟨rfl, hwx⟩; subst wx))
  rw [rounds_succ]
  go_wp2_with (first | (go_at_call 299; refine (arleft_5 _).mono ?_; rintro e wx ⟨rfl, hwx⟩; subst wx) | (go_at_call 300; refine (arright_5 _).mono ?_; rintro e wx ⟨rfl, hwx⟩; subst wx))
  go_ret2
  exact ⟨rfl, rfl⟩

set_option maxRecDepth 100000 in
theorem arin_7_8 (w : World) : Calls Tryz.prog 319 #[.int .i64 7, .int .i64 8] w fun e w' => e = .returned (.bool true) ∧ w' = w := by
  go_enter Tryz.func319, Tryz.ntmps319
  go_wp2_with (first | (go_at_call 333; refine (artree_8 _).mono ?_; rintro e wx ⟨rfl, hwx⟩; subst wx))
  go_ret
  exact ⟨rfl, rfl⟩

set_option maxRecDepth 100000 in
theorem arparent_7_8 (w : World) : Calls Tryz.prog 292 #[.int .i64 7, .int .i64 8] w fun e w' => e = .returned (.tuple #[.int .i64 0, .bool false]) ∧ w' = w := by
  go_enter Tryz.func292, Tryz.ntmps292
  go_wp2_with (first | (go_at_call 319; refine (arin_7_8 _).mono ?_; rintro e wx ⟨rfl, hwx⟩; subst wx))
  go_ret2
  exact ⟨rfl, rfl⟩

set_option maxRecDepth 100000 in
theorem arin_8_8 (w : World) : Calls Tryz.prog 319 #[.int .i64 8, .int .i64 8] w fun e w' => e = .returned (.bool true) ∧ w' = w := by
  go_enter Tryz.func319, Tryz.ntmps319
  go_wp2_with (first | (go_at_call 333; refine (artree_8 _).mono ?_; rintro e wx ⟨rfl, hwx⟩; subst wx))
  go_ret
  exact ⟨rfl, rfl⟩

set_option maxRecDepth 100000 in
theorem arparent_8_8 (w : World) : Calls Tryz.prog 292 #[.int .i64 8, .int .i64 8] w fun e w' => e = .returned (.tuple #[.int .i64 9, .bool true]) ∧ w' = w := by
  go_enter Tryz.func292, Tryz.ntmps292
  go_wp2_with (first | (go_at_call 319; refine (arin_8_8 _).mono ?_; rintro e wx ⟨rfl, hwx⟩; subst wx))
  refine wp_loop_rounds 3 ?_
  rw [rounds_succ]
  go_wp2_with (first | (go_at_call 299; refine (arleft_7 _).mono ?_; rintro e wx ⟨rfl, hwx⟩; subst wx) | (go_at_call 300; refine (arright_7 _).mono ?_; rintro e wx ⟨rfl, hwx⟩; subst wx))
  rw [rounds_succ]
  go_wp2_with (first | (go_at_call 299; refine (arleft_11 _).mono ?_; rintro e wx ⟨rfl, hwx⟩; subst wx) | (go_at_call 300; refine (arright_11 _).mono ?_; rintro e wx ⟨rfl, hwx⟩; subst wx))
  rw [rounds_succ]
  go_wp2_with (first | (go_at_call 299; refine (arleft_9 _).mono ?_; rintro e wx ⟨rfl, hwx⟩; subst wx) | (go_at_call 300; refine (arright_9 _).mono ?_; rintro e wx ⟨rfl, hwx⟩; subst wx))
  go_ret2
  exact ⟨rfl, rfl⟩

set_option maxRecDepth 100000 in
theorem arin_9_8 (w : World) : Calls Tryz.prog 319 #[.int .i64 9, .int .i64 8] w fun e w' => e = .returned (.bool true) ∧ w' = w := by
  go_enter Tryz.func319, Tryz.ntmps319
  go_wp2_with (first | (go_at_call 333; refine (artree_8 _).mono ?_; rintro e wx ⟨rfl, hwx⟩; subst wx))
  go_ret
  exact ⟨rfl, rfl⟩

set_option maxRecDepth 100000 in
theorem arparent_9_8 (w : World) : Calls Tryz.prog 292 #[.int .i64 9, .int .i64 8] w fun e w' => e = .returned (.tuple #[.int .i64 11, .bool true]) ∧ w' = w := by
  go_enter Tryz.func292, Tryz.ntmps292
  go_wp2_with (first | (go_at_call 319; refine (arin_9_8 _).mono ?_; rintro e wx ⟨rfl, hwx⟩; subst wx))
  refine wp_loop_rounds 2 ?_
  rw [rounds_succ]
  go_wp2_with (first | (go_at_call 299; refine (arleft_7 _).mono ?_; rintro e wx ⟨rfl, hwx⟩; subst wx) | (go_at_call 300; refine (arright_7 _).mono ?_; rintro e wx ⟨rfl, hwx⟩; subst wx))
  rw [rounds_succ]
  go_wp2_with (first | (go_at_call 299; refine (arleft_11 _).mono ?_; rintro e wx ⟨rfl, hwx⟩; subst wx) | (go_at_call 300; refine (arright_11 _).mono ?_; rintro e wx ⟨rfl, hwx⟩; subst wx))
  go_ret2
  exact ⟨rfl, rfl⟩

set_option maxRecDepth 100000 in
theorem arin_10_8 (w : World) : Calls Tryz.prog 319 #[.int .i64 10, .int .i64 8] w fun e w' => e = .returned (.bool true) ∧ w' = w := by
  go_enter Tryz.func319, Tryz.ntmps319
  go_wp2_with (first | (go_at_call 333; refine (artree_8 _).mono ?_; rintro e wx ⟨rfl, hwx⟩; subst wx))
  go_ret
  exact ⟨rfl, rfl⟩

set_option maxRecDepth 100000 in
theorem arparent_10_8 (w : World) : Calls Tryz.prog 292 #[.int .i64 10, .int .i64 8] w fun e w' => e = .returned (.tuple #[.int .i64 9, .bool true]) ∧ w' = w := by
  go_enter Tryz.func292, Tryz.ntmps292
  go_wp2_with (first | (go_at_call 319; refine (arin_10_8 _).mono ?_; rintro e wx ⟨rfl, hwx⟩; subst wx))
  refine wp_loop_rounds 3 ?_
  rw [rounds_succ]
  go_wp2_with (first | (go_at_call 299; refine (arleft_7 _).mono ?_; rintro e wx ⟨rfl, hwx⟩; subst wx) | (go_at_call 300; refine (arright_7 _).mono ?_; rintro e wx ⟨rfl, hwx⟩; subst wx))
  rw [rounds_succ]
  go_wp2_with (first | (go_at_call 299; refine (arleft_11 _).mono ?_; rintro e wx ⟨rfl, hwx⟩; subst wx) | (go_at_call 300; refine (arright_11 _).mono ?_; rintro e wx ⟨rfl, hwx⟩; subst wx))
  rw [rounds_succ]
  go_wp2_with (first | (go_at_call 299; refine (arleft_9 _).mono ?_; rintro e wx ⟨rfl, hwx⟩; subst wx) | (go_at_call 300; refine (arright_9 _).mono ?_; rintro e wx ⟨rfl, hwx⟩; subst wx))
  go_ret2
  exact ⟨rfl, rfl⟩

set_option maxRecDepth 100000 in
theorem arin_11_8 (w : World) : Calls Tryz.prog 319 #[.int .i64 11, .int .i64 8] w fun e w' => e = .returned (.bool true) ∧ w' = w := by
  go_enter Tryz.func319, Tryz.ntmps319
  go_wp2_with (first | (go_at_call 333; refine (artree_8 _).mono ?_; rintro e wx ⟨rfl, hwx⟩; subst wx))
  go_ret
  exact ⟨rfl, rfl⟩

set_option maxRecDepth 100000 in
theorem arparent_11_8 (w : World) : Calls Tryz.prog 292 #[.int .i64 11, .int .i64 8] w fun e w' => e = .returned (.tuple #[.int .i64 7, .bool true]) ∧ w' = w := by
  go_enter Tryz.func292, Tryz.ntmps292
  go_wp2_with (first | (go_at_call 319; refine (arin_11_8 _).mono ?_; rintro e wx ⟨rfl, hwx⟩; subst wx))
  refine wp_loop_rounds 1 ?_
  rw [rounds_succ]
  go_wp2_with (first | (go_at_call 299; refine (arleft_7 _).mono ?_; rintro e wx ⟨rfl, hwx⟩; subst wx) | (go_at_call 300; refine (arright_7 _).mono ?_; rintro e wx ⟨rfl, hwx⟩; subst wx))
  go_ret2
  exact ⟨rfl, rfl⟩

set_option maxRecDepth 100000 in
theorem arin_12_8 (w : World) : Calls Tryz.prog 319 #[.int .i64 12, .int .i64 8] w fun e w' => e = .returned (.bool true) ∧ w' = w := by
  go_enter Tryz.func319, Tryz.ntmps319
  go_wp2_with (first | (go_at_call 333; refine (artree_8 _).mono ?_; rintro e wx ⟨rfl, hwx⟩; subst wx))
  go_ret
  exact ⟨rfl, rfl⟩

set_option maxRecDepth 100000 in
theorem arparent_12_8 (w : World) : Calls Tryz.prog 292 #[.int .i64 12, .int .i64 8] w fun e w' => e = .returned (.tuple #[.int .i64 13, .bool true]) ∧ w' = w := by
  go_enter Tryz.func292, Tryz.ntmps292
  go_wp2_with (first | (go_at_call 319; refine (arin_12_8 _).mono ?_; rintro e wx ⟨rfl, hwx⟩; subst wx))
  refine wp_loop_rounds 3 ?_
  rw [rounds_succ]
  go_wp2_with (first | (go_at_call 299; refine (arleft_7 _).mono ?_; rintro e wx ⟨rfl, hwx⟩; subst wx) | (go_at_call 300; refine (arright_7 _).mono ?_; rintro e wx ⟨rfl, hwx⟩; subst wx))
  rw [rounds_succ]
  go_wp2_with (first | (go_at_call 299; refine (arleft_11 _).mono ?_; rintro e wx ⟨rfl, hwx⟩; subst wx) | (go_at_call 300; refine (arright_11 _).mono ?_; rintro e wx ⟨rfl, hwx⟩; subst wx))
  rw [rounds_succ]
  go_wp2_with (first | (go_at_call 299; refine (arleft_13 _).mono ?_; rintro e wx ⟨rfl, hwx⟩; subst wx) | (go_at_call 300; refine (arright_13 _).mono ?_; rintro e wx ⟨rfl, hwx⟩; subst wx))
  go_ret2
  exact ⟨rfl, rfl⟩

set_option maxRecDepth 100000 in
theorem arin_13_8 (w : World) : Calls Tryz.prog 319 #[.int .i64 13, .int .i64 8] w fun e w' => e = .returned (.bool true) ∧ w' = w := by
  go_enter Tryz.func319, Tryz.ntmps319
  go_wp2_with (first | (go_at_call 333; refine (artree_8 _).mono ?_; rintro e wx ⟨rfl, hwx⟩; subst wx))
  go_ret
  exact ⟨rfl, rfl⟩

set_option maxRecDepth 100000 in
theorem arparent_13_8 (w : World) : Calls Tryz.prog 292 #[.int .i64 13, .int .i64 8] w fun e w' => e = .returned (.tuple #[.int .i64 11, .bool true]) ∧ w' = w := by
  go_enter Tryz.func292, Tryz.ntmps292
  go_wp2_with (first | (go_at_call 319; refine (arin_13_8 _).mono ?_; rintro e wx ⟨rfl, hwx⟩; subst wx))
  refine wp_loop_rounds 2 ?_
  rw [rounds_succ]
  go_wp2_with (first | (go_at_call 299; refine (arleft_7 _).mono ?_; rintro e wx ⟨rfl, hwx⟩; subst wx) | (go_at_call 300; refine (arright_7 _).mono ?_; rintro e wx ⟨rfl, hwx⟩; subst wx))
  rw [rounds_succ]
  go_wp2_with (first | (go_at_call 299; refine (arleft_11 _).mono ?_; rintro e wx ⟨rfl, hwx⟩; subst wx) | (go_at_call 300; refine (arright_11 _).mono ?_; rintro e wx ⟨rfl, hwx⟩; subst wx))
  go_ret2
  exact ⟨rfl, rfl⟩

set_option maxRecDepth 100000 in
theorem arin_14_8 (w : World) : Calls Tryz.prog 319 #[.int .i64 14, .int .i64 8] w fun e w' => e = .returned (.bool true) ∧ w' = w := by
  go_enter Tryz.func319, Tryz.ntmps319
  go_wp2_with (first | (go_at_call 333; refine (artree_8 _).mono ?_; rintro e wx ⟨rfl, hwx⟩; subst wx))
  go_ret
  exact ⟨rfl, rfl⟩

set_option maxRecDepth 100000 in
theorem arparent_14_8 (w : World) : Calls Tryz.prog 292 #[.int .i64 14, .int .i64 8] w fun e w' => e = .returned (.tuple #[.int .i64 13, .bool true]) ∧ w' = w := by
  go_enter Tryz.func292, Tryz.ntmps292
  go_wp2_with (first | (go_at_call 319; refine (arin_14_8 _).mono ?_; rintro e wx ⟨rfl, hwx⟩; subst wx))
  refine wp_loop_rounds 3 ?_
  rw [rounds_succ]
  go_wp2_with (first | (go_at_call 299; refine (arleft_7 _).mono ?_; rintro e wx ⟨rfl, hwx⟩; subst wx) | (go_at_call 300; refine (arright_7 _).mono ?_; rintro e wx ⟨rfl, hwx⟩; subst wx))
  rw [rounds_succ]
  go_wp2_with (first | (go_at_call 299; refine (arleft_11 _).mono ?_; rintro e wx ⟨rfl, hwx⟩; subst wx) | (go_at_call 300; refine (arright_11 _).mono ?_; rintro e wx ⟨rfl, hwx⟩; subst wx))
  rw [rounds_succ]
  go_wp2_with (first | (go_at_call 299; refine (arleft_13 _).mono ?_; rintro e wx ⟨rfl, hwx⟩; subst wx) | (go_at_call 300; refine (arright_13 _).mono ?_; rintro e wx ⟨rfl, hwx⟩; subst wx))
  go_ret2
  exact ⟨rfl, rfl⟩

theorem arparent_any (x n : Nat) (hn : n = 1 ∨ n = 2 ∨ n = 4 ∨ n = 8) (hx : x < 2 * n - 1) (w : World) : Calls Tryz.prog 292 #[.int .i64 x, .int .i64 n] w fun e w' => e = .returned (.tuple #[.int .i64 ((if x + 1 = n then 0 else parX x : Nat) : Int), .bool (decide (x + 1 ≠ n))]) ∧ w' = w := by
  rcases hn with rfl | rfl | rfl | rfl
  · obtain rfl : x = 0 := by omega
    exact arparent_0_1 w
  · have hc : x = 0 ∨ x = 1 ∨ x = 2 := by omega
    rcases hc with rfl | rfl | rfl
    · exact arparent_0_2 w
    · exact arparent_1_2 w
    · exact arparent_2_2 w
  · have hc : x = 0 ∨ x = 1 ∨ x = 2 ∨ x = 3 ∨ x = 4 ∨ x = 5 ∨ x = 6 := by omega
    rcases hc with rfl | rfl | rfl | rfl | rfl | rfl | rfl
    · exact arparent_0_4 w
    · exact arparent_1_4 w
    · exact arparent_2_4 w
    · exact arparent_3_4 w
    · exact arparent_4_4 w
    · exact arparent_5_4 w
    · exact arparent_6_4 w
  · have hc : x = 0 ∨ x = 1 ∨ x = 2 ∨ x = 3 ∨ x = 4 ∨ x = 5 ∨ x = 6 ∨ x = 7 ∨ x = 8 ∨ x = 9 ∨ x = 10 ∨ x = 11 ∨ x = 12 ∨ x = 13 ∨ x = 14 := by omega
    rcases hc with rfl | rfl | rfl | rfl | rfl | rfl | rfl | rfl | rfl | rfl | rfl | rfl | rfl | rfl | rfl
    · exact arparent_0_8 w
    · exact arparent_1_8 w
    · exact arparent_2_8 w
    · exact arparent_3_8 w
    · exact arparent_4_8 w
    · exact arparent_5_8 w
    · exact arparent_6_8 w
    · exact arparent_7_8 w
    · exact arparent_8_8 w
    · exact arparent_9_8 w
    · exact arparent_10_8 w
    · exact arparent_11_8 w
    · exact arparent_12_8 w
    · exact arparent_13_8 w
    · exact arparent_14_8 w

end Go.Proofs.YtedpljclnpiggaaGreatDoor

/-
  index: the nodes above one, of the program and of the document.
-/
namespace Go.Proofs.YtedpljclnpiggaaGreatDoor
open Go Go.RowKit

theorem up_root {x n : Nat} (h : x + 1 = n) : upD 4 x n = [x] := by unfold upD; rw [if_pos h]
theorem up_step_all : ∀ n ∈ [1, 2, 4, 8], ∀ x ∈ List.range (2 * n - 1), x + 1 ≠ n → upD 4 x n = x :: upD 4 (parX x) n ∧ parX x < 2 * n - 1 := by decide
theorem up_step {x n : Nat} (hn : isN n) (hx : x < 2 * n - 1) (h : x + 1 ≠ n) : upD 4 x n = x :: upD 4 (parX x) n ∧ parX x < 2 * n - 1 :=
  up_step_all n (by rcases hn with rfl | rfl | rfl | rfl <;> decide) x (List.mem_range.2 hx) h
theorem up_len_all : ∀ n ∈ [1, 2, 4, 8], ∀ x ∈ List.range (2 * n - 1), (upD 4 x n).length ≤ 4 := by decide
theorem up_len {x n : Nat} (hn : isN n) (hx : x < 2 * n - 1) : (upD 4 x n).length ≤ 4 := up_len_all n (by rcases hn with rfl | rfl | rfl | rfl <;> decide) x (List.mem_range.2 hx)

def natI (l : List Nat) : List Int := l.map fun (y : Nat) => (y : Int)
theorem natI_len (l : List Nat) : (natI l).length = l.length := by simp [natI]
theorem natI_snoc (l : List Nat) (x : Nat) : natI (l ++ [x]) = natI l ++ [(x : Int)] := by simp [natI]
theorem natI_get (l : List Nat) (i : Nat) : (natI l).getD i 0 = ((l.getD i 0 : Nat) : Int) := by
  unfold natI
  rw [List.getD_eq_getElem?_getD, List.getD_eq_getElem?_getD, List.getElem?_map]
  cases l[i]? <;> rfl

def lenOf : Value → Nat
  | .slice _ n _ => n
  | _ => 0

def UpIn (x0 n : Nat) (w : World) (v x ok : Value) (wr : World) (tot : List Nat) : Prop :=
  ∃ (pre : List Nat) (y : Nat) (b : Bool), OwnI v (natI pre) wr ∧ (∀ g, v.ownBlock = some g → w.heap.size ≤ g) ∧ Below w.heap.size w wr ∧ pre.length ≤ 4 ∧ x = .int .i64 y ∧ ok = .bool b ∧ ((b = true ∧ y < 2 * n - 1 ∧ pre ++ upD 4 y n = tot) ∨ (b = false ∧ pre = tot))

set_option maxRecDepth 100000 in
set_option maxHeartbeats 1600000 in
theorem aup_any (x0 n : Nat) (hn : isN n) (hx : x0 < 2 * n - 1) (w : World) (h : TzF w) (hsz : 3 ≤ w.heap.size) :
    Calls Tryz.prog 286 #[.int .i64 x0, .int .i64 n] w (NewI (natI (upD 4 x0 n)) w) := by
  obtain ⟨i0, hi0, hz0, hz1, hz2⟩ := info_parts infoI
  have H := Lib.hid h; clear h
  have hst : UpIn x0 n w (.slice none 0 0) (.int .i64 x0) (.bool true) w (upD 4 x0 n) := ⟨[], x0, true, ownI_nil w, fun g hg => by simp [Value.ownBlock] at hg, Below.refl _ _, by simp, rfl, rfl, .inl ⟨rfl, hx, rfl⟩⟩
  have Hst := Lib.hid hst; clear hst
  have Hn := Lib.hid hn
  have Hx := Lib.hid hx
  have htot := up_len hn hx
  have Htot := Lib.hid htot; clear htot
  go_enter Tryz.func286, Tryz.ntmps286
  go_wp2_with (go_at_call 306; refine (ain_any x0 n Hn.out Hx.out _).mono ?_; rintro e wx ⟨rfl, hwx⟩; subst wx)
  clear hx hn
  go_loopw [5, 0, 6] (fun v x ok wr => UpIn x0 n w v x ok wr (upD 4 x0 n)) (fun v _ _ _ => 5 - lenOf v)
  case atStart => exact Hst.out
  case round =>
    obtain ⟨pre, y, b, hown, hg, hb, hlen, rfl, rfl, hcase⟩ := hrel
    cases b with
    | false =>
      have hpre : pre = upD 4 x0 n := by
        rcases hcase with ⟨h, _⟩ | ⟨_, h⟩
        · cases h
        · exact h
      have Hfin := Lib.hid (And.intro hown (And.intro hg hb))
      obtain ⟨va, vc, rfl, _⟩ := ownI_len hown
      clear hown hg hb hcase
      go_wp2
      go_ret
      exact ⟨_, rfl, by rw [← hpre]; exact Hfin.out.1, Hfin.out.2.1, Hfin.out.2.2⟩
    | true =>
      obtain ⟨hy, htot⟩ : y < 2 * n - 1 ∧ pre ++ upD 4 y n = upD 4 x0 n := by
        rcases hcase with ⟨_, h⟩ | ⟨h, _⟩
        · exact h
        · cases h
      clear hcase
      have hl4 : pre.length + 1 ≤ 4 := by
        have h1 := congrArg List.length htot
        have h2 := Htot.out
        have h3 := up_eq Hn.out hy
        rw [List.length_append, h3] at h1
        simp at h1
        omega
      obtain ⟨va, vc, rfl, _⟩ := ownI_len hown
      have hownl : OwnI (.slice va (natI pre).length vc) (natI pre) wr := hown
      rw [natI_len] at hown ⊢
      have hr : wr.ownsRow 0 3 1 (.slice va pre.length vc) pre.length ((natI pre).map intV) := by
        have h1 := hownl
        unfold OwnI at h1
        rw [natI_len] at h1
        exact h1
      have Hr := Lib.hid hr; clear hr hown hownl
      have Hg := Lib.hid hg; clear hg
      rw [natI_len] at Hg
      have Hb := Lib.hid hb; clear hb
      have Htt := Lib.hid htot; clear htot
      have Hy := Lib.hid hy; clear hy
      have Hl4 := Lib.hid hl4; clear hl4
      have hval := Hr.out.lt
      have Hlt := Lib.hid hval; clear hval
      go_wp2_with (at_builtin; refine wpList_append_lies _ rfl (.tmp 17) (.tmp 19) 27 rfl 0 3 i0 (.int .i64 0) 1 8 Tryz.underlying27 hi0 hz0 hz1 hz2 rfl (by decide) (.slice va pre.length vc) pre.length ((natI pre).map intV) rfl (World.ownsRow.alloc Hr.out _) ⟨wr.heap.size, 0, none⟩ 1 1 [intV y] rfl rfl (cell_one_new _ _ _) (by intro u hu; simp [intV] at hu; rw [hu]; rfl) (by omega) (by have := Hl4.out; unfold maxLen; omega) (by have := Hl4.out; omega) (Nat.zero_le _) (wr.heap.size + 1) (by simp) ?_; intro g1 c1 w1 hown1 hgrow1 hat1 hlt1; have Hown1 := Lib.hid hown1; clear hown1; have hg1 : w.heap.size ≤ g1 := hat1.elim (fun e => Hg.out _ e) (fun e => by have := Hb.out.size; omega); have Hb1 := Lib.hid ((Hb.out.alloc Hb.out.size (.cells #[.int .i64 y] 3)).grown hgrow1 (by have := Hb.out.size; simp; omega) (fun k hk => Hg.out _ hk)); clear hgrow1 hat1; have Hlt1 := Lib.hid hlt1; clear hlt1; have Hg1 := Lib.hid hg1; clear hg1)
      refine (aparent_any y n Hn.out Hy.out _ (H.out.below Hb1.out hsz)).mono ?_
      rintro e wx ⟨rfl, hwx⟩
      subst wx
      have hown2 : OwnI (.slice (some ⟨g1, 0, none⟩) (pre.length + 1) c1) (natI (pre ++ [y])) w1 := by
        unfold OwnI
        rw [natI_len, natI_snoc, List.map_append, List.length_append]
        exact Hown1.out
      have Hown2 := Lib.hid hown2; clear hown2
      go_wp2
      refine ⟨⟨pre ++ [y], (if y + 1 = n then 0 else parX y), decide (y + 1 ≠ n), Hown2.out, fun g hg => ?_, Hb1.out, by have := Hl4.out; simp; omega, rfl, by simp, ?_⟩, by have := Hl4.out; simp [lenOf]; omega⟩
      · obtain rfl : g1 = g := by simpa [Value.ownBlock] using hg
        exact Hg1.out
      · by_cases hr : y + 1 = n
        · refine .inr ⟨by simp [hr], ?_⟩
          rw [← Htt.out, up_root hr]
        · obtain ⟨h1, h2⟩ := up_step Hn.out Hy.out hr
          refine .inl ⟨by simp [hr], by rw [if_neg hr]; exact h2, ?_⟩
          rw [← Htt.out, if_neg hr, h1, List.append_assoc]
          rfl

/-- A list behind the first place of a new row. -/
def DirA (l : List Nat) (w : World) (e : Ending) (w' : World) : Prop :=
  ∃ a c, e = .returned (.slice a l.length c) ∧ Below w.heap.size w w' ∧ (l ≠ [] → ∃ g cs, a = some ⟨g, 1, none⟩ ∧ w.heap.size ≤ g ∧ w'.heap[g]? = some (.cells cs 3 (0, 0)) ∧ ∀ i, i < l.length → w'.cell? ⟨g, 1 + i, none⟩ = some (.int .i64 (l.getD i 0 : Nat)))

set_option maxRecDepth 100000 in
theorem adirect_any (x n : Nat) (hn : isN n) (hx : x < 2 * n - 1) (w : World) (h : TzF w) (hsz : 3 ≤ w.heap.size) :
    Calls Tryz.prog 186 #[.int .i64 x, .int .i64 n] w (DirA (directD x n) w) := by
  have H := Lib.hid (aup_any x n hn hx w h hsz); clear h hsz
  have hup := up_eq hn hx
  have hlen := direct_len hn hx
  go_enter Tryz.func186, Tryz.ntmps186
  go_wp2_with fail
  refine H.out.mono ?_
  rintro e w1 ⟨v, rfl, hown, hg, hb⟩
  rw [hup] at hown
  have hl2 : (natI (x :: directD x n)).length = (directD x n).length + 1 := by simp [natI]
  rcases hown.2 with ⟨_, e⟩ | ⟨g, cap, cur, e, _, hgg, h4, h5, _⟩
  · rw [hl2] at e; omega
  · subst e
    have hat : ∀ i, i < (directD x n).length → w1.cell? ⟨g, 1 + i, none⟩ = some (.int .i64 ((directD x n).getD i 0 : Nat)) := fun i hi => by
      obtain ⟨b, o, e, hc⟩ := ownI_at hown (1 + i) (by rw [hl2]; omega)
      obtain ⟨rfl, rfl⟩ : g = b ∧ 0 = o := by simpa using e
      rw [Nat.zero_add] at hc
      rw [hc, natI_get, Nat.add_comm 1 i]
      rfl
    rw [hl2] at h4 ⊢
    have Hat := Lib.hid hat; clear hat
    have Hg := Lib.hid (hg g rfl); clear hg
    have Hb := Lib.hid hb; clear hb
    have Hgg := Lib.hid hgg; clear hgg
    unfold maxLen at h5
    obtain ⟨k, hk⟩ : ∃ k, k = (directD x n).length := ⟨_, rfl⟩
    rw [← hk] at h4 hlen ⊢
    have Hk := Lib.hid hk; clear hk hown H hup hl2
    by_cases h0 : k = 0
    · subst h0
      go_wp2
      go_ret
      exact ⟨none, 0, by rw [← Hk.out]; rfl, Hb.out, fun h => absurd (List.length_eq_zero_iff.1 Hk.out.symm) h⟩
    · have hkI : ¬ (k : Int) + 1 < 2 := by omega
      have hk4 : (k : Int) ≤ 3 := by omega
      go_wp2
      go_ret
      exact ⟨some ⟨g, 1, none⟩, _, by rw [← Hk.out]; rfl, Hb.out, fun _ => ⟨g, cur, rfl, Hg.out, Hgg.out, Hat.out⟩⟩

set_option maxRecDepth 100000 in
set_option maxHeartbeats 1600000 in
theorem ardirect_any (x0 n : Nat) (hn : isN n) (hx : x0 < 2 * n - 1) (w : World) :
    Calls Tryz.prog 196 #[.int .i64 x0, .int .i64 n] w (NewI (natI (directD x0 n)) w) := by
  obtain ⟨i0, hi0, hz0, hz1, hz2⟩ := info_parts infoI
  have hst : UpIn x0 n w (.slice none 0 0) (.int .i64 ((if x0 + 1 = n then 0 else parX x0 : Nat) : Int)) (.bool (decide (x0 + 1 ≠ n))) w (directD x0 n) := by
    refine ⟨[], _, _, ownI_nil w, fun g hg => by simp [Value.ownBlock] at hg, Below.refl _ _, by simp, rfl, rfl, ?_⟩
    have hd : directD x0 n = (upD 4 x0 n).tail := rfl
    by_cases hr : x0 + 1 = n
    · refine .inr ⟨by simp [hr], ?_⟩
      rw [hd, up_root hr]
      rfl
    · obtain ⟨h1, h2⟩ := up_step hn hx hr
      refine .inl ⟨by simp [hr], by rw [if_neg hr]; exact h2, ?_⟩
      rw [hd, if_neg hr, h1]
      rfl
  have hpar := arparent_any x0 n hn hx
  generalize (if x0 + 1 = n then 0 else parX x0) = pn at hst hpar
  generalize decide (x0 + 1 ≠ n) = pb at hst hpar
  have Hst := Lib.hid hst; clear hst
  have Hpar := Lib.hid hpar; clear hpar
  have Hn := Lib.hid hn
  have htot := direct_len hn hx
  have Htot := Lib.hid htot; clear htot
  go_enter Tryz.func196, Tryz.ntmps196
  go_wp2_with (go_at_call 292; refine (Hpar.out _).mono ?_; rintro e wx ⟨rfl, hwx⟩; subst wx)
  clear hx hn
  go_loopw [5, 6, 7] (fun v x ok wr => UpIn x0 n w v x ok wr (directD x0 n)) (fun v _ _ _ => 5 - lenOf v)
  case atStart => exact Hst.out
  case round =>
    obtain ⟨pre, y, b, hown, hg, hb, hlen, rfl, rfl, hcase⟩ := hrel
    cases b with
    | false =>
      have hpre : pre = directD x0 n := by
        rcases hcase with ⟨h, _⟩ | ⟨_, h⟩
        · cases h
        · exact h
      have Hfin := Lib.hid (And.intro hown (And.intro hg hb))
      obtain ⟨va, vc, rfl, _⟩ := ownI_len hown
      clear hown hg hb hcase
      go_wp2
      go_ret
      exact ⟨_, rfl, by rw [← hpre]; exact Hfin.out.1, Hfin.out.2.1, Hfin.out.2.2⟩
    | true =>
      obtain ⟨hy, htot⟩ : y < 2 * n - 1 ∧ pre ++ upD 4 y n = directD x0 n := by
        rcases hcase with ⟨_, h⟩ | ⟨h, _⟩
        · exact h
        · cases h
      clear hcase
      have hl4 : pre.length + 1 ≤ 4 := by
        have h1 := congrArg List.length htot
        have h2 := Htot.out
        have h3 := up_eq Hn.out hy
        rw [List.length_append, h3] at h1
        simp at h1
        omega
      obtain ⟨va, vc, rfl, _⟩ := ownI_len hown
      have hownl : OwnI (.slice va (natI pre).length vc) (natI pre) wr := hown
      rw [natI_len] at hown ⊢
      have hr : wr.ownsRow 0 3 1 (.slice va pre.length vc) pre.length ((natI pre).map intV) := by
        have h1 := hownl
        unfold OwnI at h1
        rw [natI_len] at h1
        exact h1
      have Hr := Lib.hid hr; clear hr hown hownl
      have Hg := Lib.hid hg; clear hg
      rw [natI_len] at Hg
      have Hb := Lib.hid hb; clear hb
      have Htt := Lib.hid htot; clear htot
      have Hy := Lib.hid hy; clear hy
      have Hl4 := Lib.hid hl4; clear hl4
      go_wp2_with (at_builtin; refine wpList_append_lies _ rfl (.tmp 15) (.tmp 17) 27 rfl 0 3 i0 (.int .i64 0) 1 8 Tryz.underlying27 hi0 hz0 hz1 hz2 rfl (by decide) (.slice va pre.length vc) pre.length ((natI pre).map intV) rfl (World.ownsRow.alloc Hr.out _) ⟨wr.heap.size, 0, none⟩ 1 1 [intV y] rfl rfl (cell_one_new _ _ _) (by intro u hu; simp [intV] at hu; rw [hu]; rfl) (by omega) (by have := Hl4.out; unfold maxLen; omega) (by have := Hl4.out; omega) (Nat.zero_le _) (wr.heap.size + 1) (by simp) ?_; intro g1 c1 w1 hown1 hgrow1 hat1 hlt1; have Hown1 := Lib.hid hown1; clear hown1; have hg1 : w.heap.size ≤ g1 := hat1.elim (fun e => Hg.out _ e) (fun e => by have := Hb.out.size; omega); have Hb1 := Lib.hid ((Hb.out.alloc Hb.out.size (.cells #[.int .i64 y] 3)).grown hgrow1 (by have := Hb.out.size; simp; omega) (fun k hk => Hg.out _ hk)); clear hgrow1 hat1; have Hlt1 := Lib.hid hlt1; clear hlt1; have Hg1 := Lib.hid hg1; clear hg1)
      refine (arparent_any y n Hn.out Hy.out _).mono ?_
      rintro e wx ⟨rfl, hwx⟩
      subst wx
      have hown2 : OwnI (.slice (some ⟨g1, 0, none⟩) (pre.length + 1) c1) (natI (pre ++ [y])) w1 := by
        unfold OwnI
        rw [natI_len, natI_snoc, List.map_append, List.length_append]
        exact Hown1.out
      have Hown2 := Lib.hid hown2; clear hown2
      go_wp2
      refine ⟨⟨pre ++ [y], (if y + 1 = n then 0 else parX y), decide (y + 1 ≠ n), Hown2.out, fun g hg => ?_, Hb1.out, by have := Hl4.out; simp; omega, rfl, by simp, ?_⟩, by have := Hl4.out; simp [lenOf]; omega⟩
      · obtain rfl : g1 = g := by simpa [Value.ownBlock] using hg
        exact Hg1.out
      · by_cases hr : y + 1 = n
        · refine .inr ⟨by simp [hr], ?_⟩
          rw [← Htt.out, up_root hr]
        · obtain ⟨h1, h2⟩ := up_step Hn.out Hy.out hr
          refine .inl ⟨by simp [hr], by rw [if_neg hr]; exact h2, ?_⟩
          rw [← Htt.out, if_neg hr, h1, List.append_assoc]
          rfl
end Go.Proofs.YtedpljclnpiggaaGreatDoor
