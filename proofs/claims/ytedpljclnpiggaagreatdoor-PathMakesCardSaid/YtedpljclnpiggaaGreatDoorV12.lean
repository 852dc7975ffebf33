/- The document's index at trees of 1, 2, 4 and 8 leaves. (printed by bin/gen_aridx.py) -/
import Derived.Test.YtedpljclnpiggaaGreatDoorV08
set_option linter.unusedVariables false
set_option linter.unusedSimpArgs false
set_option maxRecDepth 100000
set_option maxHeartbeats 12800000
namespace Go.Proofs.YtedpljclnpiggaaGreatDoor
open Go Go.RowKit
theorem artree_1 (w : World) : Calls Tryz.prog 333 #[.int .i64 1] w fun e w' => e = .returned (.bool true) ∧ w' = w := by
 go_enter Tryz.func333, Tryz.ntmps333
 go_wp2
 refine wp_loop_rounds 1 ?_
 rw [rounds_succ]
 go_wp2
 go_ret
 exact ⟨rfl, rfl⟩
theorem artree_2 (w : World) : Calls Tryz.prog 333 #[.int .i64 2] w fun e w' => e = .returned (.bool true) ∧ w' = w := by
 go_enter Tryz.func333, Tryz.ntmps333
 go_wp2
 refine wp_loop_rounds 2 ?_
 rw [rounds_succ]
 go_wp2
 rw [rounds_succ]
 go_wp2
 go_ret
 exact ⟨rfl, rfl⟩
theorem artree_4 (w : World) : Calls Tryz.prog 333 #[.int .i64 4] w fun e w' => e = .returned (.bool true) ∧ w' = w := by
 go_enter Tryz.func333, Tryz.ntmps333
 go_wp2
 refine wp_loop_rounds 3 ?_
 rw [rounds_succ]
 go_wp2
 rw [rounds_succ]
 go_wp2
 rw [rounds_succ]
 go_wp2
 go_ret
 exact ⟨rfl, rfl⟩
theorem artree_8 (w : World) : Calls Tryz.prog 333 #[.int .i64 8] w fun e w' => e = .returned (.bool true) ∧ w' = w := by
 go_enter Tryz.func333, Tryz.ntmps333
 go_wp2
 refine wp_loop_rounds 4 ?_
 rw [rounds_succ]
 go_wp2
 rw [rounds_succ]
 go_wp2
 rw [rounds_succ]
 go_wp2
 rw [rounds_succ]
 go_wp2
 go_ret
 exact ⟨rfl, rfl⟩
theorem arlev_1 (w : World) : Calls Tryz.prog 332 #[.int .i64 1] w fun e w' => e = .returned (.int .i64 1) ∧ w' = w := by
 go_enter Tryz.func332, Tryz.ntmps332
 go_wp2
 refine wp_loop_rounds 2 ?_
 rw [rounds_succ]
 go_wp2
 rw [rounds_succ]
 go_wp2
 go_ret
 exact ⟨rfl, rfl⟩
theorem arhalf_1 (w : World) : Calls Tryz.prog 318 #[.int .i64 1] w fun e w' => e = .returned (.int .i64 1) ∧ w' = w := by
 go_enter Tryz.func318, Tryz.ntmps318
 go_wp2_with (first | (go_at_call 332; refine (arlev_1 _).mono ?_; rintro e wx ⟨rfl, hwx⟩; subst wx))
 refine wp_loop_rounds 1 ?_
 rw [rounds_succ]
 go_wp2_with (first | (go_at_call 332; refine (arlev_1 _).mono ?_; rintro e wx ⟨rfl, hwx⟩; subst wx))
 go_ret
 exact ⟨rfl, rfl⟩
theorem arleft_1 (w : World) : Calls Tryz.prog 299 #[.int .i64 1] w fun e w' => e = .returned (.tuple #[.int .i64 0, .bool true]) ∧ w' = w := by
 go_enter Tryz.func299, Tryz.ntmps299
 go_wp2_with (first | (go_at_call 318; refine (arhalf_1 _).mono ?_; rintro e wx ⟨rfl, hwx⟩; subst wx))
 go_ret2
 exact ⟨rfl, rfl⟩
theorem arright_1 (w : World) : Calls Tryz.prog 300 #[.int .i64 1] w fun e w' => e = .returned (.tuple #[.int .i64 2, .bool true]) ∧ w' = w := by
 go_enter Tryz.func300, Tryz.ntmps300
 go_wp2_with (first | (go_at_call 318; refine (arhalf_1 _).mono ?_; rintro e wx ⟨rfl, hwx⟩; subst wx))
 go_ret2
 exact ⟨rfl, rfl⟩
theorem arspan_1 (w : World) : Calls Tryz.prog 291 #[.int .i64 1] w fun e w' => e = .returned (.tuple #[.int .i64 0, .int .i64 1]) ∧ w' = w := by
 go_enter Tryz.func291, Tryz.ntmps291
 go_wp2_with (first | (go_at_call 318; refine (arhalf_1 _).mono ?_; rintro e wx ⟨rfl, hwx⟩; subst wx))
 go_ret2
 exact ⟨rfl, rfl⟩
theorem arlev_3 (w : World) : Calls Tryz.prog 332 #[.int .i64 3] w fun e w' => e = .returned (.int .i64 2) ∧ w' = w := by
 go_enter Tryz.func332, Tryz.ntmps332
 go_wp2
 refine wp_loop_rounds 3 ?_
 rw [rounds_succ]
 go_wp2
 rw [rounds_succ]
 go_wp2
 rw [rounds_succ]
 go_wp2
 go_ret
 exact ⟨rfl, rfl⟩
theorem arhalf_3 (w : World) : Calls Tryz.prog 318 #[.int .i64 3] w fun e w' => e = .returned (.int .i64 2) ∧ w' = w := by
 go_enter Tryz.func318, Tryz.ntmps318
 go_wp2_with (first | (go_at_call 332; refine (arlev_3 _).mono ?_; rintro e wx ⟨rfl, hwx⟩; subst wx))
 refine wp_loop_rounds 2 ?_
 rw [rounds_succ]
 go_wp2_with (first | (go_at_call 332; refine (arlev_3 _).mono ?_; rintro e wx ⟨rfl, hwx⟩; subst wx))
 rw [rounds_succ]
 go_wp2_with (first | (go_at_call 332; refine (arlev_3 _).mono ?_; rintro e wx ⟨rfl, hwx⟩; subst wx))
 go_ret
 exact ⟨rfl, rfl⟩
theorem arleft_3 (w : World) : Calls Tryz.prog 299 #[.int .i64 3] w fun e w' => e = .returned (.tuple #[.int .i64 1, .bool true]) ∧ w' = w := by
 go_enter Tryz.func299, Tryz.ntmps299
 go_wp2_with (first | (go_at_call 318; refine (arhalf_3 _).mono ?_; rintro e wx ⟨rfl, hwx⟩; subst wx))
 go_ret2
 exact ⟨rfl, rfl⟩
theorem arright_3 (w : World) : Calls Tryz.prog 300 #[.int .i64 3] w fun e w' => e = .returned (.tuple #[.int .i64 5, .bool true]) ∧ w' = w := by
 go_enter Tryz.func300, Tryz.ntmps300
 go_wp2_with (first | (go_at_call 318; refine (arhalf_3 _).mono ?_; rintro e wx ⟨rfl, hwx⟩; subst wx))
 go_ret2
 exact ⟨rfl, rfl⟩
theorem arspan_3 (w : World) : Calls Tryz.prog 291 #[.int .i64 3] w fun e w' => e = .returned (.tuple #[.int .i64 0, .int .i64 3]) ∧ w' = w := by
 go_enter Tryz.func291, Tryz.ntmps291
 go_wp2_with (first | (go_at_call 318; refine (arhalf_3 _).mono ?_; rintro e wx ⟨rfl, hwx⟩; subst wx))
 go_ret2
 exact ⟨rfl, rfl⟩
theorem arlev_5 (w : World) : Calls Tryz.prog 332 #[.int .i64 5] w fun e w' => e = .returned (.int .i64 1) ∧ w' = w := by
 go_enter Tryz.func332, Tryz.ntmps332
 go_wp2
 refine wp_loop_rounds 2 ?_
 rw [rounds_succ]
 go_wp2
 rw [rounds_succ]
 go_wp2
 go_ret
 exact ⟨rfl, rfl⟩
theorem arhalf_5 (w : World) : Calls Tryz.prog 318 #[.int .i64 5] w fun e w' => e = .returned (.int .i64 1) ∧ w' = w := by
 go_enter Tryz.func318, Tryz.ntmps318
 go_wp2_with (first | (go_at_call 332; refine (arlev_5 _).mono ?_; rintro e wx ⟨rfl, hwx⟩; subst wx))
 refine wp_loop_rounds 1 ?_
 rw [rounds_succ]
 go_wp2_with (first | (go_at_call 332; refine (arlev_5 _).mono ?_; rintro e wx ⟨rfl, hwx⟩; subst wx))
 go_ret
 exact ⟨rfl, rfl⟩
theorem arleft_5 (w : World) : Calls Tryz.prog 299 #[.int .i64 5] w fun e w' => e = .returned (.tuple #[.int .i64 4, .bool true]) ∧ w' = w := by
 go_enter Tryz.func299, Tryz.ntmps299
 go_wp2_with (first | (go_at_call 318; refine (arhalf_5 _).mono ?_; rintro e wx ⟨rfl, hwx⟩; subst wx))
 go_ret2
 exact ⟨rfl, rfl⟩
theorem arright_5 (w : World) : Calls Tryz.prog 300 #[.int .i64 5] w fun e w' => e = .returned (.tuple #[.int .i64 6, .bool true]) ∧ w' = w := by
 go_enter Tryz.func300, Tryz.ntmps300
 go_wp2_with (first | (go_at_call 318; refine (arhalf_5 _).mono ?_; rintro e wx ⟨rfl, hwx⟩; subst wx))
 go_ret2
 exact ⟨rfl, rfl⟩
theorem arspan_5 (w : World) : Calls Tryz.prog 291 #[.int .i64 5] w fun e w' => e = .returned (.tuple #[.int .i64 2, .int .i64 3]) ∧ w' = w := by
 go_enter Tryz.func291, Tryz.ntmps291
 go_wp2_with (first | (go_at_call 318; refine (arhalf_5 _).mono ?_; rintro e wx ⟨rfl, hwx⟩; subst wx))
 go_ret2
 exact ⟨rfl, rfl⟩
theorem arlev_7 (w : World) : Calls Tryz.prog 332 #[.int .i64 7] w fun e w' => e = .returned (.int .i64 3) ∧ w' = w := by
 go_enter Tryz.func332, Tryz.ntmps332
 go_wp2
 refine wp_loop_rounds 4 ?_
 rw [rounds_succ]
 go_wp2
 rw [rounds_succ]
 go_wp2
 rw [rounds_succ]
 go_wp2
 rw [rounds_succ]
 go_wp2
 go_ret
 exact ⟨rfl, rfl⟩
theorem arhalf_7 (w : World) : Calls Tryz.prog 318 #[.int .i64 7] w fun e w' => e = .returned (.int .i64 4) ∧ w' = w := by
 go_enter Tryz.func318, Tryz.ntmps318
 go_wp2_with (first | (go_at_call 332; refine (arlev_7 _).mono ?_; rintro e wx ⟨rfl, hwx⟩; subst wx))
 refine wp_loop_rounds 3 ?_
 rw [rounds_succ]
 go_wp2_with (first | (go_at_call 332; refine (arlev_7 _).mono ?_; rintro e wx ⟨rfl, hwx⟩; subst wx))
 rw [rounds_succ]
 go_wp2_with (first | (go_at_call 332; refine (arlev_7 _).mono ?_; rintro e wx ⟨rfl, hwx⟩; subst wx))
 rw [rounds_succ]
 go_wp2_with (first | (go_at_call 332; refine (arlev_7 _).mono ?_; rintro e wx ⟨rfl, hwx⟩; subst wx))
 go_ret
 exact ⟨rfl, rfl⟩
theorem arleft_7 (w : World) : Calls Tryz.prog 299 #[.int .i64 7] w fun e w' => e = .returned (.tuple #[.int .i64 3, .bool true]) ∧ w' = w := by
 go_enter Tryz.func299, Tryz.ntmps299
 go_wp2_with (first | (go_at_call 318; refine (arhalf_7 _).mono ?_; rintro e wx ⟨rfl, hwx⟩; subst wx))
 go_ret2
 exact ⟨rfl, rfl⟩
theorem arright_7 (w : World) : Calls Tryz.prog 300 #[.int .i64 7] w fun e w' => e = .returned (.tuple #[.int .i64 11, .bool true]) ∧ w' = w := by
 go_enter Tryz.func300, Tryz.ntmps300
 go_wp2_with (first | (go_at_call 318; refine (arhalf_7 _).mono ?_; rintro e wx ⟨rfl, hwx⟩; subst wx))
 go_ret2
 exact ⟨rfl, rfl⟩
theorem arspan_7 (w : World) : Calls Tryz.prog 291 #[.int .i64 7] w fun e w' => e = .returned (.tuple #[.int .i64 0, .int .i64 7]) ∧ w' = w := by
 go_enter Tryz.func291, Tryz.ntmps291
 go_wp2_with (first | (go_at_call 318; refine (arhalf_7 _).mono ?_; rintro e wx ⟨rfl, hwx⟩; subst wx))
 go_ret2
 exact ⟨rfl, rfl⟩
theorem arlev_9 (w : World) : Calls Tryz.prog 332 #[.int .i64 9] w fun e w' => e = .returned (.int .i64 1) ∧ w' = w := by
 go_enter Tryz.func332, Tryz.ntmps332
 go_wp2
 refine wp_loop_rounds 2 ?_
 rw [rounds_succ]
 go_wp2
 rw [rounds_succ]
 go_wp2
 go_ret
 exact ⟨rfl, rfl⟩
theorem arhalf_9 (w : World) : Calls Tryz.prog 318 #[.int .i64 9] w fun e w' => e = .returned (.int .i64 1) ∧ w' = w := by
 go_enter Tryz.func318, Tryz.ntmps318
 go_wp2_with (first | (go_at_call 332; refine (arlev_9 _).mono ?_; rintro e wx ⟨rfl, hwx⟩; subst wx))
 refine wp_loop_rounds 1 ?_
 rw [rounds_succ]
 go_wp2_with (first | (go_at_call 332; refine (arlev_9 _).mono ?_; rintro e wx ⟨rfl, hwx⟩; subst wx))
 go_ret
 exact ⟨rfl, rfl⟩
theorem arleft_9 (w : World) : Calls Tryz.prog 299 #[.int .i64 9] w fun e w' => e = .returned (.tuple #[.int .i64 8, .bool true]) ∧ w' = w := by
 go_enter Tryz.func299, Tryz.ntmps299
 go_wp2_with (first | (go_at_call 318; refine (arhalf_9 _).mono ?_; rintro e wx ⟨rfl, hwx⟩; subst wx))
 go_ret2
 exact ⟨rfl, rfl⟩
theorem arright_9 (w : World) : Calls Tryz.prog 300 #[.int .i64 9] w fun e w' => e = .returned (.tuple #[.int .i64 10, .bool true]) ∧ w' = w := by
 go_enter Tryz.func300, Tryz.ntmps300
 go_wp2_with (first | (go_at_call 318; refine (arhalf_9 _).mono ?_; rintro e wx ⟨rfl, hwx⟩; subst wx))
 go_ret2
 exact ⟨rfl, rfl⟩
theorem arspan_9 (w : World) : Calls Tryz.prog 291 #[.int .i64 9] w fun e w' => e = .returned (.tuple #[.int .i64 4, .int .i64 5]) ∧ w' = w := by
 go_enter Tryz.func291, Tryz.ntmps291
 go_wp2_with (first | (go_at_call 318; refine (arhalf_9 _).mono ?_; rintro e wx ⟨rfl, hwx⟩; subst wx))
 go_ret2
 exact ⟨rfl, rfl⟩
theorem arlev_11 (w : World) : Calls Tryz.prog 332 #[.int .i64 11] w fun e w' => e = .returned (.int .i64 2) ∧ w' = w := by
 go_enter Tryz.func332, Tryz.ntmps332
 go_wp2
 refine wp_loop_rounds 3 ?_
 rw [rounds_succ]
 go_wp2
 rw [rounds_succ]
 go_wp2
 rw [rounds_succ]
 go_wp2
 go_ret
 exact ⟨rfl, rfl⟩
theorem arhalf_11 (w : World) : Calls Tryz.prog 318 #[.int .i64 11] w fun e w' => e = .returned (.int .i64 2) ∧ w' = w := by
 go_enter Tryz.func318, Tryz.ntmps318
 go_wp2_with (first | (go_at_call 332; refine (arlev_11 _).mono ?_; rintro e wx ⟨rfl, hwx⟩; subst wx))
 refine wp_loop_rounds 2 ?_
 rw [rounds_succ]
 go_wp2_with (first | (go_at_call 332; refine (arlev_11 _).mono ?_; rintro e wx ⟨rfl, hwx⟩; subst wx))
 rw [rounds_succ]
 go_wp2_with (first | (go_at_call 332; refine (arlev_11 _).mono ?_; rintro e wx ⟨rfl, hwx⟩; subst wx))
 go_ret
 exact ⟨rfl, rfl⟩
theorem arleft_11 (w : World) : Calls Tryz.prog 299 #[.int .i64 11] w fun e w' => e = .returned (.tuple #[.int .i64 9, .bool true]) ∧ w' = w := by
 go_enter Tryz.func299, Tryz.ntmps299
 go_wp2_with (first | (go_at_call 318; refine (arhalf_11 _).mono ?_; rintro e wx ⟨rfl, hwx⟩; subst wx))
 go_ret2
 exact ⟨rfl, rfl⟩
theorem arright_11 (w : World) : Calls Tryz.prog 300 #[.int .i64 11] w fun e w' => e = .returned (.tuple #[.int .i64 13, .bool true]) ∧ w' = w := by
 go_enter Tryz.func300, Tryz.ntmps300
 go_wp2_with (first | (go_at_call 318; refine (arhalf_11 _).mono ?_; rintro e wx ⟨rfl, hwx⟩; subst wx))
 go_ret2
 exact ⟨rfl, rfl⟩
theorem arspan_11 (w : World) : Calls Tryz.prog 291 #[.int .i64 11] w fun e w' => e = .returned (.tuple #[.int .i64 4, .int .i64 7]) ∧ w' = w := by
 go_enter Tryz.func291, Tryz.ntmps291
 go_wp2_with (first | (go_at_call 318; refine (arhalf_11 _).mono ?_; rintro e wx ⟨rfl, hwx⟩; subst wx))
 go_ret2
 exact ⟨rfl, rfl⟩
theorem arlev_13 (w : World) : Calls Tryz.prog 332 #[.int .i64 13] w fun e w' => e = .returned (.int .i64 1) ∧ w' = w := by
 go_enter Tryz.func332, Tryz.ntmps332
 go_wp2
 refine wp_loop_rounds 2 ?_
 rw [rounds_succ]
 go_wp2
 rw [rounds_succ]
 go_wp2
 go_ret
 exact ⟨rfl, rfl⟩
theorem arhalf_13 (w : World) : Calls Tryz.prog 318 #[.int .i64 13] w fun e w' => e = .returned (.int .i64 1) ∧ w' = w := by
 go_enter Tryz.func318, Tryz.ntmps318
 go_wp2_with (first | (go_at_call 332; refine (arlev_13 _).mono ?_; rintro e wx ⟨rfl, hwx⟩; subst wx))
 refine wp_loop_rounds 1 ?_
 rw [rounds_succ]
 go_wp2_with (first | (go_at_call 332; refine (arlev_13 _).mono ?_; rintro e wx ⟨rfl, hwx⟩; subst wx))
 go_ret
 exact ⟨rfl, rfl⟩
theorem arleft_13 (w : World) : Calls Tryz.prog 299 #[.int .i64 13] w fun e w' => e = .returned (.tuple #[.int .i64 12, .bool true]) ∧ w' = w := by
 go_enter Tryz.func299, Tryz.ntmps299
 go_wp2_with (first | (go_at_call 318; refine (arhalf_13 _).mono ?_; rintro e wx ⟨rfl, hwx⟩; subst wx))
 go_ret2
 exact ⟨rfl, rfl⟩
theorem arright_13 (w : World) : Calls Tryz.prog 300 #[.int .i64 13] w fun e w' => e = .returned (.tuple #[.int .i64 14, .bool true]) ∧ w' = w := by
 go_enter Tryz.func300, Tryz.ntmps300
 go_wp2_with (first | (go_at_call 318; refine (arhalf_13 _).mono ?_; rintro e wx ⟨rfl, hwx⟩; subst wx))
 go_ret2
 exact ⟨rfl, rfl⟩
theorem arspan_13 (w : World) : Calls Tryz.prog 291 #[.int .i64 13] w fun e w' => e = .returned (.tuple #[.int .i64 6, .int .i64 7]) ∧ w' = w := by
 go_enter Tryz.func291, Tryz.ntmps291
 go_wp2_with (first | (go_at_call 318; refine (arhalf_13 _).mono ?_; rintro e wx ⟨rfl, hwx⟩; subst wx))
 go_ret2
 exact ⟨rfl, rfl⟩
theorem arspan_any (x : Nat) (hx : x < 15) (ho : x % 2 = 1) (w : World) : Calls Tryz.prog 291 #[.int .i64 x] w fun r w' => r = .returned (.tuple #[.int .i64 (spF x : Nat), .int .i64 (spL x : Nat)]) ∧ w' = w := by
 have hc : x = 1 ∨ x = 3 ∨ x = 5 ∨ x = 7 ∨ x = 9 ∨ x = 11 ∨ x = 13 := by omega
 rcases hc with rfl | rfl | rfl | rfl | rfl | rfl | rfl
 · exact arspan_1 w
 · exact arspan_3 w
 · exact arspan_5 w
 · exact arspan_7 w
 · exact arspan_9 w
 · exact arspan_11 w
 · exact arspan_13 w
theorem arin_0_1 (w : World) : Calls Tryz.prog 319 #[.int .i64 0, .int .i64 1] w fun e w' => e = .returned (.bool true) ∧ w' = w := by
 go_enter Tryz.func319, Tryz.ntmps319
 go_wp2_with (first | (go_at_call 333; refine (artree_1 _).mono ?_; rintro e wx ⟨rfl, hwx⟩; subst wx))
 go_ret
 exact ⟨rfl, rfl⟩
theorem arparent_0_1 (w : World) : Calls Tryz.prog 292 #[.int .i64 0, .int .i64 1] w fun e w' => e = .returned (.tuple #[.int .i64 0, .bool false]) ∧ w' = w := by
 go_enter Tryz.func292, Tryz.ntmps292
 go_wp2_with (first | (go_at_call 319; refine (arin_0_1 _).mono ?_; rintro e wx ⟨rfl, hwx⟩; subst wx))
 go_ret2
 exact ⟨rfl, rfl⟩
theorem arin_0_2 (w : World) : Calls Tryz.prog 319 #[.int .i64 0, .int .i64 2] w fun e w' => e = .returned (.bool true) ∧ w' = w := by
 go_enter Tryz.func319, Tryz.ntmps319
 go_wp2_with (first | (go_at_call 333; refine (artree_2 _).mono ?_; rintro e wx ⟨rfl, hwx⟩; subst wx))
 go_ret
 exact ⟨rfl, rfl⟩
theorem arparent_0_2 (w : World) : Calls Tryz.prog 292 #[.int .i64 0, .int .i64 2] w fun e w' => e = .returned (.tuple #[.int .i64 1, .bool true]) ∧ w' = w := by
 go_enter Tryz.func292, Tryz.ntmps292
 go_wp2_with (first | (go_at_call 319; refine (arin_0_2 _).mono ?_; rintro e wx ⟨rfl, hwx⟩; subst wx))
 refine wp_loop_rounds 1 ?_
 rw [rounds_succ]
 go_wp2_with (first | (go_at_call 299; refine (arleft_1 _).mono ?_; rintro e wx ⟨rfl, hwx⟩; subst wx) | (go_at_call 300; refine (arright_1 _).mono ?_; rintro e wx ⟨rfl, hwx⟩; subst wx))
 go_ret2
 exact ⟨rfl, rfl⟩
theorem arin_1_2 (w : World) : Calls Tryz.prog 319 #[.int .i64 1, .int .i64 2] w fun e w' => e = .returned (.bool true) ∧ w' = w := by
 go_enter Tryz.func319, Tryz.ntmps319
 go_wp2_with (first | (go_at_call 333; refine (artree_2 _).mono ?_; rintro e wx ⟨rfl, hwx⟩; subst wx))
 go_ret
 exact ⟨rfl, rfl⟩
theorem arparent_1_2 (w : World) : Calls Tryz.prog 292 #[.int .i64 1, .int .i64 2] w fun e w' => e = .returned (.tuple #[.int .i64 0, .bool false]) ∧ w' = w := by
 go_enter Tryz.func292, Tryz.ntmps292
 go_wp2_with (first | (go_at_call 319; refine (arin_1_2 _).mono ?_; rintro e wx ⟨rfl, hwx⟩; subst wx))
 go_ret2
 exact ⟨rfl, rfl⟩
theorem arin_2_2 (w : World) : Calls Tryz.prog 319 #[.int .i64 2, .int .i64 2] w fun e w' => e = .returned (.bool true) ∧ w' = w := by
 go_enter Tryz.func319, Tryz.ntmps319
 go_wp2_with (first | (go_at_call 333; refine (artree_2 _).mono ?_; rintro e wx ⟨rfl, hwx⟩; subst wx))
 go_ret
 exact ⟨rfl, rfl⟩
theorem arparent_2_2 (w : World) : Calls Tryz.prog 292 #[.int .i64 2, .int .i64 2] w fun e w' => e = .returned (.tuple #[.int .i64 1, .bool true]) ∧ w' = w := by
 go_enter Tryz.func292, Tryz.ntmps292
 go_wp2_with (first | (go_at_call 319; refine (arin_2_2 _).mono ?_; rintro e wx ⟨rfl, hwx⟩; subst wx))
 refine wp_loop_rounds 1 ?_
 rw [rounds_succ]
 go_wp2_with (first | (go_at_call 299; refine (arleft_1 _).mono ?_; rintro e wx ⟨rfl, hwx⟩; subst wx) | (go_at_call 300; refine (arright_1 _).mono ?_; rintro e wx ⟨rfl, hwx⟩; subst wx))
 go_ret2
 exact ⟨rfl, rfl⟩
theorem arin_0_4 (w : World) : Calls Tryz.prog 319 #[.int .i64 0, .int .i64 4] w fun e w' => e = .returned (.bool true) ∧ w' = w := by
 go_enter Tryz.func319, Tryz.ntmps319
 go_wp2_with (first | (go_at_call 333; refine (artree_4 _).mono ?_; rintro e wx ⟨rfl, hwx⟩; subst wx))
 go_ret
 exact ⟨rfl, rfl⟩
theorem arparent_0_4 (w : World) : Calls Tryz.prog 292 #[.int .i64 0, .int .i64 4] w fun e w' => e = .returned (.tuple #[.int .i64 1, .bool true]) ∧ w' = w := by
 go_enter Tryz.func292, Tryz.ntmps292
 go_wp2_with (first | (go_at_call 319; refine (arin_0_4 _).mono ?_; rintro e wx ⟨rfl, hwx⟩; subst wx))
 refine wp_loop_rounds 2 ?_
 rw [rounds_succ]
 go_wp2_with (first | (go_at_call 299; refine (arleft_3 _).mono ?_; rintro e wx ⟨rfl, hwx⟩; subst wx) | (go_at_call 300; refine (arright_3 _).mono ?_; rintro e wx ⟨rfl, hwx⟩; subst wx))
 rw [rounds_succ]
 go_wp2_with (first | (go_at_call 299; refine (arleft_1 _).mono ?_; rintro e wx ⟨rfl, hwx⟩; subst wx) | (go_at_call 300; refine (arright_1 _).mono ?_; rintro e wx ⟨rfl, hwx⟩; subst wx))
 go_ret2
 exact ⟨rfl, rfl⟩
theorem arin_1_4 (w : World) : Calls Tryz.prog 319 #[.int .i64 1, .int .i64 4] w fun e w' => e = .returned (.bool true) ∧ w' = w := by
 go_enter Tryz.func319, Tryz.ntmps319
 go_wp2_with (first | (go_at_call 333; refine (artree_4 _).mono ?_; rintro e wx ⟨rfl, hwx⟩; subst wx))
 go_ret
 exact ⟨rfl, rfl⟩
theorem arparent_1_4 (w : World) : Calls Tryz.prog 292 #[.int .i64 1, .int .i64 4] w fun e w' => e = .returned (.tuple #[.int .i64 3, .bool true]) ∧ w' = w := by
 go_enter Tryz.func292, Tryz.ntmps292
 go_wp2_with (first | (go_at_call 319; refine (arin_1_4 _).mono ?_; rintro e wx ⟨rfl, hwx⟩; subst wx))
 refine wp_loop_rounds 1 ?_
 rw [rounds_succ]
 go_wp2_with (first | (go_at_call 299; refine (arleft_3 _).mono ?_; rintro e wx ⟨rfl, hwx⟩; subst wx) | (go_at_call 300; refine (arright_3 _).mono ?_; rintro e wx ⟨rfl, hwx⟩; subst wx))
 go_ret2
 exact ⟨rfl, rfl⟩
theorem arin_2_4 (w : World) : Calls Tryz.prog 319 #[.int .i64 2, .int .i64 4] w fun e w' => e = .returned (.bool true) ∧ w' = w := by
 go_enter Tryz.func319, Tryz.ntmps319
 go_wp2_with (first | (go_at_call 333; refine (artree_4 _).mono ?_; rintro e wx ⟨rfl, hwx⟩; subst wx))
 go_ret
 exact ⟨rfl, rfl⟩
theorem arparent_2_4 (w : World) : Calls Tryz.prog 292 #[.int .i64 2, .int .i64 4] w fun e w' => e = .returned (.tuple #[.int .i64 1, .bool true]) ∧ w' = w := by
 go_enter Tryz.func292, Tryz.ntmps292
 go_wp2_with (first | (go_at_call 319; refine (arin_2_4 _).mono ?_; rintro e wx ⟨rfl, hwx⟩; subst wx))
 refine wp_loop_rounds 2 ?_
 rw [rounds_succ]
 go_wp2_with (first | (go_at_call 299; refine (arleft_3 _).mono ?_; rintro e wx ⟨rfl, hwx⟩; subst wx) | (go_at_call 300; refine (arright_3 _).mono ?_; rintro e wx ⟨rfl, hwx⟩; subst wx))
 rw [rounds_succ]
 go_wp2_with (first | (go_at_call 299; refine (arleft_1 _).mono ?_; rintro e wx ⟨rfl, hwx⟩; subst wx) | (go_at_call 300; refine (arright_1 _).mono ?_; rintro e wx ⟨rfl, hwx⟩; subst wx))
 go_ret2
 exact ⟨rfl, rfl⟩
theorem arin_3_4 (w : World) : Calls Tryz.prog 319 #[.int .i64 3, .int .i64 4] w fun e w' => e = .returned (.bool true) ∧ w' = w := by
 go_enter Tryz.func319, Tryz.ntmps319
 go_wp2_with (first | (go_at_call 333; refine (artree_4 _).mono ?_; rintro e wx ⟨rfl, hwx⟩; subst wx))
 go_ret
 exact ⟨rfl, rfl⟩
theorem arparent_3_4 (w : World) : Calls Tryz.prog 292 #[.int .i64 3, .int .i64 4] w fun e w' => e = .returned (.tuple #[.int .i64 0, .bool false]) ∧ w' = w := by
 go_enter Tryz.func292, Tryz.ntmps292
 go_wp2_with (first | (go_at_call 319; refine (arin_3_4 _).mono ?_; rintro e wx ⟨rfl, hwx⟩; subst wx))
 go_ret2
 exact ⟨rfl, rfl⟩
theorem arin_4_4 (w : World) : Calls Tryz.prog 319 #[.int .i64 4, .int .i64 4] w fun e w' => e = .returned (.bool true) ∧ w' = w := by
 go_enter Tryz.func319, Tryz.ntmps319
 go_wp2_with (first | (go_at_call 333; refine (artree_4 _).mono ?_; rintro e wx ⟨rfl, hwx⟩; subst wx))
 go_ret
 exact ⟨rfl, rfl⟩
theorem arparent_4_4 (w : World) : Calls Tryz.prog 292 #[.int .i64 4, .int .i64 4] w fun e w' => e = .returned (.tuple #[.int .i64 5, .bool true]) ∧ w' = w := by
 go_enter Tryz.func292, Tryz.ntmps292
 go_wp2_with (first | (go_at_call 319; refine (arin_4_4 _).mono ?_; rintro e wx ⟨rfl, hwx⟩; subst wx))
 refine wp_loop_rounds 2 ?_
 rw [rounds_succ]
 go_wp2_with (first | (go_at_call 299; refine (arleft_3 _).mono ?_; rintro e wx ⟨rfl, hwx⟩; subst wx) | (go_at_call 300; refine (arright_3 _).mono ?_; rintro e wx ⟨rfl, hwx⟩; subst wx))
 rw [rounds_succ]
 go_wp2_with (first | (go_at_call 299; refine (arleft_5 _).mono ?_; rintro e wx ⟨rfl, hwx⟩; subst wx) | (go_at_call 300; refine (arright_5 _).mono ?_; rintro e wx ⟨rfl, hwx⟩; subst wx))
 go_ret2
 exact ⟨rfl, rfl⟩
theorem arin_5_4 (w : World) : Calls Tryz.prog 319 #[.int .i64 5, .int .i64 4] w fun e w' => e = .returned (.bool true) ∧ w' = w := by
 go_enter Tryz.func319, Tryz.ntmps319
 go_wp2_with (first | (go_at_call 333; refine (artree_4 _).mono ?_; rintro e wx ⟨rfl, hwx⟩; subst wx))
 go_ret
 exact ⟨rfl, rfl⟩
theorem arparent_5_4 (w : World) : Calls Tryz.prog 292 #[.int .i64 5, .int .i64 4] w fun e w' => e = .returned (.tuple #[.int .i64 3, .bool true]) ∧ w' = w := by
 go_enter Tryz.func292, Tryz.ntmps292
 go_wp2_with (first | (go_at_call 319; refine (arin_5_4 _).mono ?_; rintro e wx ⟨rfl, hwx⟩; subst wx))
 refine wp_loop_rounds 1 ?_
 rw [rounds_succ]
 go_wp2_with (first | (go_at_call 299; refine (arleft_3 _).mono ?_; rintro e wx ⟨rfl, hwx⟩; subst wx) | (go_at_call 300; refine (arright_3 _).mono ?_; rintro e wx ⟨rfl, hwx⟩; subst wx))
 go_ret2
 exact ⟨rfl, rfl⟩
theorem arin_6_4 (w : World) : Calls Tryz.prog 319 #[.int .i64 6, .int .i64 4] w fun e w' => e = .returned (.bool true) ∧ w' = w := by
 go_enter Tryz.func319, Tryz.ntmps319
 go_wp2_with (first | (go_at_call 333; refine (artree_4 _).mono ?_; rintro e wx ⟨rfl, hwx⟩; subst wx))
 go_ret
 exact ⟨rfl, rfl⟩
theorem arparent_6_4 (w : World) : Calls Tryz.prog 292 #[.int .i64 6, .int .i64 4] w fun e w' => e = .returned (.tuple #[.int .i64 5, .bool true]) ∧ w' = w := by
 go_enter Tryz.func292, Tryz.ntmps292
 go_wp2_with (first | (go_at_call 319; refine (arin_6_4 _).mono ?_; rintro e wx ⟨rfl, hwx⟩; subst wx))
 refine wp_loop_rounds 2 ?_
 rw [rounds_succ]
 go_wp2_with (first | (go_at_call 299; refine (arleft_3 _).mono ?_; rintro e wx ⟨rfl, hwx⟩; subst wx) | (go_at_call 300; refine (arright_3 _).mono ?_; rintro e wx ⟨rfl, hwx⟩; subst wx))
 rw [rounds_succ]
 go_wp2_with (first | (go_at_call 299; refine (arleft_5 _).mono ?_; rintro e wx ⟨rfl, hwx⟩; subst wx) | (go_at_call 300; refine (arright_5 _).mono ?_; rintro e wx ⟨rfl, hwx⟩; subst wx))
 go_ret2
 exact ⟨rfl, rfl⟩
theorem arin_0_8 (w : World) : Calls Tryz.prog 319 #[.int .i64 0, .int .i64 8] w fun e w' => e = .returned (.bool true) ∧ w' = w := by
 go_enter Tryz.func319, Tryz.ntmps319
 go_wp2_with (first | (go_at_call 333; refine (artree_8 _).mono ?_; rintro e wx ⟨rfl, hwx⟩; subst wx))
 go_ret
 exact ⟨rfl, rfl⟩
theorem arparent_0_8 (w : World) : Calls Tryz.prog 292 #[.int .i64 0, .int .i64 8] w fun e w' => e = .returned (.tuple #[.int .i64 1, .bool true]) ∧ w' = w := by
 go_enter Tryz.func292, Tryz.ntmps292
 go_wp2_with (first | (go_at_call 319; refine (arin_0_8 _).mono ?_; rintro e wx ⟨rfl, hwx⟩; subst wx))
 refine wp_loop_rounds 3 ?_
 rw [rounds_succ]
 go_wp2_with (first | (go_at_call 299; refine (arleft_7 _).mono ?_; rintro e wx ⟨rfl, hwx⟩; subst wx) | (go_at_call 300; refine (arright_7 _).mono ?_; rintro e wx ⟨rfl, hwx⟩; subst wx))
 rw [rounds_succ]
 go_wp2_with (first | (go_at_call 299; refine (arleft_3 _).mono ?_; rintro e wx ⟨rfl, hwx⟩; subst wx) | (go_at_call 300; refine (arright_3 _).mono ?_; rintro e wx ⟨rfl, hwx⟩; subst wx))
 rw [rounds_succ]
 go_wp2_with (first | (go_at_call 299; refine (arleft_1 _).mono ?_; rintro e wx ⟨rfl, hwx⟩; subst wx) | (go_at_call 300; refine (arright_1 _).mono ?_; rintro e wx ⟨rfl, hwx⟩; subst wx))
 go_ret2
 exact ⟨rfl, rfl⟩
theorem arin_1_8 (w : World) : Calls Tryz.prog 319 #[.int .i64 1, .int .i64 8] w fun e w' => e = .returned (.bool true) ∧ w' = w := by
 go_enter Tryz.func319, Tryz.ntmps319
 go_wp2_with (first | (go_at_call 333; refine (artree_8 _).mono ?_; rintro e wx ⟨rfl, hwx⟩; subst wx))
 go_ret
 exact ⟨rfl, rfl⟩
theorem arparent_1_8 (w : World) : Calls Tryz.prog 292 #[.int .i64 1, .int .i64 8] w fun e w' => e = .returned (.tuple #[.int .i64 3, .bool true]) ∧ w' = w := by
 go_enter Tryz.func292, Tryz.ntmps292
 go_wp2_with (first | (go_at_call 319; refine (arin_1_8 _).mono ?_; rintro e wx ⟨rfl, hwx⟩; subst wx))
 refine wp_loop_rounds 2 ?_
 rw [rounds_succ]
 go_wp2_with (first | (go_at_call 299; refine (arleft_7 _).mono ?_; rintro e wx ⟨rfl, hwx⟩; subst wx) | (go_at_call 300; refine (arright_7 _).mono ?_; rintro e wx ⟨rfl, hwx⟩; subst wx))
 rw [rounds_succ]
 go_wp2_with (first | (go_at_call 299; refine (arleft_3 _).mono ?_; rintro e wx ⟨rfl, hwx⟩; subst wx) | (go_at_call 300; refine (arright_3 _).mono ?_; rintro e wx ⟨rfl, hwx⟩; subst wx))
 go_ret2
 exact ⟨rfl, rfl⟩
theorem arin_2_8 (w : World) : Calls Tryz.prog 319 #[.int .i64 2, .int .i64 8] w fun e w' => e = .returned (.bool true) ∧ w' = w := by
 go_enter Tryz.func319, Tryz.ntmps319
 go_wp2_with (first | (go_at_call 333; refine (artree_8 _).mono ?_; rintro e wx ⟨rfl, hwx⟩; subst wx))
 go_ret
 exact ⟨rfl, rfl⟩
theorem arparent_2_8 (w : World) : Calls Tryz.prog 292 #[.int .i64 2, .int .i64 8] w fun e w' => e = .returned (.tuple #[.int .i64 1, .bool true]) ∧ w' = w := by
 go_enter Tryz.func292, Tryz.ntmps292
 go_wp2_with (first | (go_at_call 319; refine (arin_2_8 _).mono ?_; rintro e wx ⟨rfl, hwx⟩; subst wx))
 refine wp_loop_rounds 3 ?_
 rw [rounds_succ]
 go_wp2_with (first | (go_at_call 299; refine (arleft_7 _).mono ?_; rintro e wx ⟨rfl, hwx⟩; subst wx) | (go_at_call 300; refine (arright_7 _).mono ?_; rintro e wx ⟨rfl, hwx⟩; subst wx))
 rw [rounds_succ]
 go_wp2_with (first | (go_at_call 299; refine (arleft_3 _).mono ?_; rintro e wx ⟨rfl, hwx⟩; subst wx) | (go_at_call 300; refine (arright_3 _).mono ?_; rintro e wx ⟨rfl, hwx⟩; subst wx))
 rw [rounds_succ]
 go_wp2_with (first | (go_at_call 299; refine (arleft_1 _).mono ?_; rintro e wx ⟨rfl, hwx⟩; subst wx) | (go_at_call 300; refine (arright_1 _).mono ?_; rintro e wx ⟨rfl, hwx⟩; subst wx))
 go_ret2
 exact ⟨rfl, rfl⟩
theorem arin_3_8 (w : World) : Calls Tryz.prog 319 #[.int .i64 3, .int .i64 8] w fun e w' => e = .returned (.bool true) ∧ w' = w := by
 go_enter Tryz.func319, Tryz.ntmps319
 go_wp2_with (first | (go_at_call 333; refine (artree_8 _).mono ?_; rintro e wx ⟨rfl, hwx⟩; subst wx))
 go_ret
 exact ⟨rfl, rfl⟩
theorem arparent_3_8 (w : World) : Calls Tryz.prog 292 #[.int .i64 3, .int .i64 8] w fun e w' => e = .returned (.tuple #[.int .i64 7, .bool true]) ∧ w' = w := by
 go_enter Tryz.func292, Tryz.ntmps292
 go_wp2_with (first | (go_at_call 319; refine (arin_3_8 _).mono ?_; rintro e wx ⟨rfl, hwx⟩; subst wx))
 refine wp_loop_rounds 1 ?_
 rw [rounds_succ]
 go_wp2_with (first | (go_at_call 299; refine (arleft_7 _).mono ?_; rintro e wx ⟨rfl, hwx⟩; subst wx) | (go_at_call 300; refine (arright_7 _).mono ?_; rintro e wx ⟨rfl, hwx⟩; subst wx))
 go_ret2
 exact ⟨rfl, rfl⟩
theorem arin_4_8 (w : World) : Calls Tryz.prog 319 #[.int .i64 4, .int .i64 8] w fun e w' => e = .returned (.bool true) ∧ w' = w := by
 go_enter Tryz.func319, Tryz.ntmps319
 go_wp2_with (first | (go_at_call 333; refine (artree_8 _).mono ?_; rintro e wx ⟨rfl, hwx⟩; subst wx))
 go_ret
 exact ⟨rfl, rfl⟩
theorem arparent_4_8 (w : World) : Calls Tryz.prog 292 #[.int .i64 4, .int .i64 8] w fun e w' => e = .returned (.tuple #[.int .i64 5, .bool true]) ∧ w' = w := by
 go_enter Tryz.func292, Tryz.ntmps292
 go_wp2_with (first | (go_at_call 319; refine (arin_4_8 _).mono ?_; rintro e wx ⟨rfl, hwx⟩; subst wx))
 refine wp_loop_rounds 3 ?_
 rw [rounds_succ]
 go_wp2_with (first | (go_at_call 299; refine (arleft_7 _).mono ?_; rintro e wx ⟨rfl, hwx⟩; subst wx) | (go_at_call 300; refine (arright_7 _).mono ?_; rintro e wx ⟨rfl, hwx⟩; subst wx))
 rw [rounds_succ]
 go_wp2_with (first | (go_at_call 299; refine (arleft_3 _).mono ?_; rintro e wx ⟨rfl, hwx⟩; subst wx) | (go_at_call 300; refine (arright_3 _).mono ?_; rintro e wx ⟨rfl, hwx⟩; subst wx))
 rw [rounds_succ]
 go_wp2_with (first | (go_at_call 299; refine (arleft_5 _).mono ?_; rintro e wx ⟨rfl, hwx⟩; subst wx) | (go_at_call 300; refine (arright_5 _).mono ?_; rintro e wx ⟨rfl, hwx⟩; subst wx))
 go_ret2
 exact ⟨rfl, rfl⟩
theorem arin_5_8 (w : World) : Calls Tryz.prog 319 #[.int .i64 5, .int .i64 8] w fun e w' => e = .returned (.bool true) ∧ w' = w := by
 go_enter Tryz.func319, Tryz.ntmps319
 go_wp2_with (first | (go_at_call 333; refine (artree_8 _).mono ?_; rintro e wx ⟨rfl, hwx⟩; subst wx))
 go_ret
 exact ⟨rfl, rfl⟩
theorem arparent_5_8 (w : World) : Calls Tryz.prog 292 #[.int .i64 5, .int .i64 8] w fun e w' => e = .returned (.tuple #[.int .i64 3, .bool true]) ∧ w' = w := by
 go_enter Tryz.func292, Tryz.ntmps292
 go_wp2_with (first | (go_at_call 319; refine (arin_5_8 _).mono ?_; rintro e wx ⟨rfl, hwx⟩; subst wx))
 refine wp_loop_rounds 2 ?_
 rw [rounds_succ]
 go_wp2_with (first | (go_at_call 299; refine (arleft_7 _).mono ?_; rintro e wx ⟨rfl, hwx⟩; subst wx) | (go_at_call 300; refine (arright_7 _).mono ?_; rintro e wx ⟨rfl, hwx⟩; subst wx))
 rw [rounds_succ]
 go_wp2_with (first | (go_at_call 299; refine (arleft_3 _).mono ?_; rintro e wx ⟨rfl, hwx⟩; subst wx) | (go_at_call 300; refine (arright_3 _).mono ?_; rintro e wx ⟨rfl, hwx⟩; subst wx))
 go_ret2
 exact ⟨rfl, rfl⟩
theorem arin_6_8 (w : World) : Calls Tryz.prog 319 #[.int .i64 6, .int .i64 8] w fun e w' => e = .returned (.bool true) ∧ w' = w := by
 go_enter Tryz.func319, Tryz.ntmps319
 go_wp2_with (first | (go_at_call 333; refine (artree_8 _).mono ?_; rintro e wx ⟨rfl, hwx⟩; subst wx))
 go_ret
 exact ⟨rfl, rfl⟩
theorem arparent_6_8 (w : World) : Calls Tryz.prog 292 #[.int .i64 6, .int .i64 8] w fun e w' => e = .returned (.tuple #[.int .i64 5, .bool true]) ∧ w' = w := by
 go_enter Tryz.func292, Tryz.ntmps292
 go_wp2_with (first | (go_at_call 319; refine (arin_6_8 _).mono ?_; rintro e wx ⟨rfl, hwx⟩; subst wx))
 refine wp_loop_rounds 3 ?_
 rw [rounds_succ]
 go_wp2_with (first | (go_at_call 299; refine (arleft_7 _).mono ?_; rintro e wx ⟨rfl, hwx⟩; subst wx) | (go_at_call 300; refine (arright_7 _).mono ?_; rintro e wx ⟨rfl, hwx⟩; subst wx))
 rw [rounds_succ]
 go_wp2_with (first | (go_at_call 299; refine (arleft_3 _).mono ?_; rintro e wx ⟨rfl, hwx⟩; subst wx) | (go_at_call 300; refine (arright_3 _).mono ?_; rintro e wx ⟨rfl, hwx⟩; subst wx))
 rw [rounds_succ]
 go_wp2_with (first | (go_at_call 299; refine (arleft_5 _).mono ?_; rintro e wx ⟨rfl, hwx⟩; subst wx) | (go_at_call 300; refine (arright_5 _).mono ?_; rintro e wx ⟨rfl, hwx⟩; subst wx))
 go_ret2
 exact ⟨rfl, rfl⟩
theorem arin_7_8 (w : World) : Calls Tryz.prog 319 #[.int .i64 7, .int .i64 8] w fun e w' => e = .returned (.bool true) ∧ w' = w := by
 go_enter Tryz.func319, Tryz.ntmps319
 go_wp2_with (first | (go_at_call 333; refine (artree_8 _).mono ?_; rintro e wx ⟨rfl, hwx⟩; subst wx))
 go_ret
 exact ⟨rfl, rfl⟩
theorem arparent_7_8 (w : World) : Calls Tryz.prog 292 #[.int .i64 7, .int .i64 8] w fun e w' => e = .returned (.tuple #[.int .i64 0, .bool false]) ∧ w' = w := by
 go_enter Tryz.func292, Tryz.ntmps292
 go_wp2_with (first | (go_at_call 319; refine (arin_7_8 _).mono ?_; rintro e wx ⟨rfl, hwx⟩; subst wx))
 go_ret2
 exact ⟨rfl, rfl⟩
theorem arin_8_8 (w : World) : Calls Tryz.prog 319 #[.int .i64 8, .int .i64 8] w fun e w' => e = .returned (.bool true) ∧ w' = w := by
 go_enter Tryz.func319, Tryz.ntmps319
 go_wp2_with (first | (go_at_call 333; refine (artree_8 _).mono ?_; rintro e wx ⟨rfl, hwx⟩; subst wx))
 go_ret
 exact ⟨rfl, rfl⟩
theorem arparent_8_8 (w : World) : Calls Tryz.prog 292 #[.int .i64 8, .int .i64 8] w fun e w' => e = .returned (.tuple #[.int .i64 9, .bool true]) ∧ w' = w := by
 go_enter Tryz.func292, Tryz.ntmps292
 go_wp2_with (first | (go_at_call 319; refine (arin_8_8 _).mono ?_; rintro e wx ⟨rfl, hwx⟩; subst wx))
 refine wp_loop_rounds 3 ?_
 rw [rounds_succ]
 go_wp2_with (first | (go_at_call 299; refine (arleft_7 _).mono ?_; rintro e wx ⟨rfl, hwx⟩; subst wx) | (go_at_call 300; refine (arright_7 _).mono ?_; rintro e wx ⟨rfl, hwx⟩; subst wx))
 rw [rounds_succ]
 go_wp2_with (first | (go_at_call 299; refine (arleft_11 _).mono ?_; rintro e wx ⟨rfl, hwx⟩; subst wx) | (go_at_call 300; refine (arright_11 _).mono ?_; rintro e wx ⟨rfl, hwx⟩; subst wx))
 rw [rounds_succ]
 go_wp2_with (first | (go_at_call 299; refine (arleft_9 _).mono ?_; rintro e wx ⟨rfl, hwx⟩; subst wx) | (go_at_call 300; refine (arright_9 _).mono ?_; rintro e wx ⟨rfl, hwx⟩; subst wx))
 go_ret2
 exact ⟨rfl, rfl⟩
theorem arin_9_8 (w : World) : Calls Tryz.prog 319 #[.int .i64 9, .int .i64 8] w fun e w' => e = .returned (.bool true) ∧ w' = w := by
 go_enter Tryz.func319, Tryz.ntmps319
 go_wp2_with (first | (go_at_call 333; refine (artree_8 _).mono ?_; rintro e wx ⟨rfl, hwx⟩; subst wx))
 go_ret
 exact ⟨rfl, rfl⟩
theorem arparent_9_8 (w : World) : Calls Tryz.prog 292 #[.int .i64 9, .int .i64 8] w fun e w' => e = .returned (.tuple #[.int .i64 11, .bool true]) ∧ w' = w := by
 go_enter Tryz.func292, Tryz.ntmps292
 go_wp2_with (first | (go_at_call 319; refine (arin_9_8 _).mono ?_; rintro e wx ⟨rfl, hwx⟩; subst wx))
 refine wp_loop_rounds 2 ?_
 rw [rounds_succ]
 go_wp2_with (first | (go_at_call 299; refine (arleft_7 _).mono ?_; rintro e wx ⟨rfl, hwx⟩; subst wx) | (go_at_call 300; refine (arright_7 _).mono ?_; rintro e wx ⟨rfl, hwx⟩; subst wx))
 rw [rounds_succ]
 go_wp2_with (first | (go_at_call 299; refine (arleft_11 _).mono ?_; rintro e wx ⟨rfl, hwx⟩; subst wx) | (go_at_call 300; refine (arright_11 _).mono ?_; rintro e wx ⟨rfl, hwx⟩; subst wx))
 go_ret2
 exact ⟨rfl, rfl⟩
theorem arin_10_8 (w : World) : Calls Tryz.prog 319 #[.int .i64 10, .int .i64 8] w fun e w' => e = .returned (.bool true) ∧ w' = w := by
 go_enter Tryz.func319, Tryz.ntmps319
 go_wp2_with (first | (go_at_call 333; refine (artree_8 _).mono ?_; rintro e wx ⟨rfl, hwx⟩; subst wx))
 go_ret
 exact ⟨rfl, rfl⟩
theorem arparent_10_8 (w : World) : Calls Tryz.prog 292 #[.int .i64 10, .int .i64 8] w fun e w' => e = .returned (.tuple #[.int .i64 9, .bool true]) ∧ w' = w := by
 go_enter Tryz.func292, Tryz.ntmps292
 go_wp2_with (first | (go_at_call 319; refine (arin_10_8 _).mono ?_; rintro e wx ⟨rfl, hwx⟩; subst wx))
 refine wp_loop_rounds 3 ?_
 rw [rounds_succ]
 go_wp2_with (first | (go_at_call 299; refine (arleft_7 _).mono ?_; rintro e wx ⟨rfl, hwx⟩; subst wx) | (go_at_call 300; refine (arright_7 _).mono ?_; rintro e wx ⟨rfl, hwx⟩; subst wx))
 rw [rounds_succ]
 go_wp2_with (first | (go_at_call 299; refine (arleft_11 _).mono ?_; rintro e wx ⟨rfl, hwx⟩; subst wx) | (go_at_call 300; refine (arright_11 _).mono ?_; rintro e wx ⟨rfl, hwx⟩; subst wx))
 rw [rounds_succ]
 go_wp2_with (first | (go_at_call 299; refine (arleft_9 _).mono ?_; rintro e wx ⟨rfl, hwx⟩; subst wx) | (go_at_call 300; refine (arright_9 _).mono ?_; rintro e wx ⟨rfl, hwx⟩; subst wx))
 go_ret2
 exact ⟨rfl, rfl⟩
theorem arin_11_8 (w : World) : Calls Tryz.prog 319 #[.int .i64 11, .int .i64 8] w fun e w' => e = .returned (.bool true) ∧ w' = w := by
 go_enter Tryz.func319, Tryz.ntmps319
 go_wp2_with (first | (go_at_call 333; refine (artree_8 _).mono ?_; rintro e wx ⟨rfl, hwx⟩; subst wx))
 go_ret
 exact ⟨rfl, rfl⟩
theorem arparent_11_8 (w : World) : Calls Tryz.prog 292 #[.int .i64 11, .int .i64 8] w fun e w' => e = .returned (.tuple #[.int .i64 7, .bool true]) ∧ w' = w := by
 go_enter Tryz.func292, Tryz.ntmps292
 go_wp2_with (first | (go_at_call 319; refine (arin_11_8 _).mono ?_; rintro e wx ⟨rfl, hwx⟩; subst wx))
 refine wp_loop_rounds 1 ?_
 rw [rounds_succ]
 go_wp2_with (first | (go_at_call 299; refine (arleft_7 _).mono ?_; rintro e wx ⟨rfl, hwx⟩; subst wx) | (go_at_call 300; refine (arright_7 _).mono ?_; rintro e wx ⟨rfl, hwx⟩; subst wx))
 go_ret2
 exact ⟨rfl, rfl⟩
theorem arin_12_8 (w : World) : Calls Tryz.prog 319 #[.int .i64 12, .int .i64 8] w fun e w' => e = .returned (.bool true) ∧ w' = w := by
 go_enter Tryz.func319, Tryz.ntmps319
 go_wp2_with (first | (go_at_call 333; refine (artree_8 _).mono ?_; rintro e wx ⟨rfl, hwx⟩; subst wx))
 go_ret
 exact ⟨rfl, rfl⟩
theorem arparent_12_8 (w : World) : Calls Tryz.prog 292 #[.int .i64 12, .int .i64 8] w fun e w' => e = .returned (.tuple #[.int .i64 13, .bool true]) ∧ w' = w := by
 go_enter Tryz.func292, Tryz.ntmps292
 go_wp2_with (first | (go_at_call 319; refine (arin_12_8 _).mono ?_; rintro e wx ⟨rfl, hwx⟩; subst wx))
 refine wp_loop_rounds 3 ?_
 rw [rounds_succ]
 go_wp2_with (first | (go_at_call 299; refine (arleft_7 _).mono ?_; rintro e wx ⟨rfl, hwx⟩; subst wx) | (go_at_call 300; refine (arright_7 _).mono ?_; rintro e wx ⟨rfl, hwx⟩; subst wx))
 rw [rounds_succ]
 go_wp2_with (first | (go_at_call 299; refine (arleft_11 _).mono ?_; rintro e wx ⟨rfl, hwx⟩; subst wx) | (go_at_call 300; refine (arright_11 _).mono ?_; rintro e wx ⟨rfl, hwx⟩; subst wx))
 rw [rounds_succ]
 go_wp2_with (first | (go_at_call 299; refine (arleft_13 _).mono ?_; rintro e wx ⟨rfl, hwx⟩; subst wx) | (go_at_call 300; refine (arright_13 _).mono ?_; rintro e wx ⟨rfl, hwx⟩; subst wx))
 go_ret2
 exact ⟨rfl, rfl⟩
theorem arin_13_8 (w : World) : Calls Tryz.prog 319 #[.int .i64 13, .int .i64 8] w fun e w' => e = .returned (.bool true) ∧ w' = w := by
 go_enter Tryz.func319, Tryz.ntmps319
 go_wp2_with (first | (go_at_call 333; refine (artree_8 _).mono ?_; rintro e wx ⟨rfl, hwx⟩; subst wx))
 go_ret
 exact ⟨rfl, rfl⟩
theorem arparent_13_8 (w : World) : Calls Tryz.prog 292 #[.int .i64 13, .int .i64 8] w fun e w' => e = .returned (.tuple #[.int .i64 11, .bool true]) ∧ w' = w := by
 go_enter Tryz.func292, Tryz.ntmps292
 go_wp2_with (first | (go_at_call 319; refine (arin_13_8 _).mono ?_; rintro e wx ⟨rfl, hwx⟩; subst wx))
 refine wp_loop_rounds 2 ?_
 rw [rounds_succ]
 go_wp2_with (first | (go_at_call 299; refine (arleft_7 _).mono ?_; rintro e wx ⟨rfl, hwx⟩; subst wx) | (go_at_call 300; refine (arright_7 _).mono ?_; rintro e wx ⟨rfl, hwx⟩; subst wx))
 rw [rounds_succ]
 go_wp2_with (first | (go_at_call 299; refine (arleft_11 _).mono ?_; rintro e wx ⟨rfl, hwx⟩; subst wx) | (go_at_call 300; refine (arright_11 _).mono ?_; rintro e wx ⟨rfl, hwx⟩; subst wx))
 go_ret2
 exact ⟨rfl, rfl⟩
theorem arin_14_8 (w : World) : Calls Tryz.prog 319 #[.int .i64 14, .int .i64 8] w fun e w' => e = .returned (.bool true) ∧ w' = w := by
 go_enter Tryz.func319, Tryz.ntmps319
 go_wp2_with (first | (go_at_call 333; refine (artree_8 _).mono ?_; rintro e wx ⟨rfl, hwx⟩; subst wx))
 go_ret
 exact ⟨rfl, rfl⟩
theorem arparent_14_8 (w : World) : Calls Tryz.prog 292 #[.int .i64 14, .int .i64 8] w fun e w' => e = .returned (.tuple #[.int .i64 13, .bool true]) ∧ w' = w := by
 go_enter Tryz.func292, Tryz.ntmps292
 go_wp2_with (first | (go_at_call 319; refine (arin_14_8 _).mono ?_; rintro e wx ⟨rfl, hwx⟩; subst wx))
 refine wp_loop_rounds 3 ?_
 rw [rounds_succ]
 go_wp2_with (first | (go_at_call 299; refine (arleft_7 _).mono ?_; rintro e wx ⟨rfl, hwx⟩; subst wx) | (go_at_call 300; refine (arright_7 _).mono ?_; rintro e wx ⟨rfl, hwx⟩; subst wx))
 rw [rounds_succ]
 go_wp2_with (first | (go_at_call 299; refine (arleft_11 _).mono ?_; rintro e wx ⟨rfl, hwx⟩; subst wx) | (go_at_call 300; refine (arright_11 _).mono ?_; rintro e wx ⟨rfl, hwx⟩; subst wx))
 rw [rounds_succ]
 go_wp2_with (first | (go_at_call 299; refine (arleft_13 _).mono ?_; rintro e wx ⟨rfl, hwx⟩; subst wx) | (go_at_call 300; refine (arright_13 _).mono ?_; rintro e wx ⟨rfl, hwx⟩; subst wx))
 go_ret2
 exact ⟨rfl, rfl⟩
theorem arparent_any (x n : Nat) (hn : n = 1 ∨ n = 2 ∨ n = 4 ∨ n = 8) (hx : x < 2 * n - 1) (w : World) : Calls Tryz.prog 292 #[.int .i64 x, .int .i64 n] w fun e w' => e = .returned (.tuple #[.int .i64 ((if x + 1 = n then 0 else parX x : Nat) : Int), .bool (decide (x + 1 ≠ n))]) ∧ w' = w := by
 rcases hn with rfl | rfl | rfl | rfl
 · obtain rfl : x = 0 := by omega
   exact arparent_0_1 w
 · have hc : x = 0 ∨ x = 1 ∨ x = 2 := by omega
   rcases hc with rfl | rfl | rfl
   · exact arparent_0_2 w
   · exact arparent_1_2 w
   · exact arparent_2_2 w
 · have hc : x = 0 ∨ x = 1 ∨ x = 2 ∨ x = 3 ∨ x = 4 ∨ x = 5 ∨ x = 6 := by omega
   rcases hc with rfl | rfl | rfl | rfl | rfl | rfl | rfl
   · exact arparent_0_4 w
   · exact arparent_1_4 w
   · exact arparent_2_4 w
   · exact arparent_3_4 w
   · exact arparent_4_4 w
   · exact arparent_5_4 w
   · exact arparent_6_4 w
 · have hc : x = 0 ∨ x = 1 ∨ x = 2 ∨ x = 3 ∨ x = 4 ∨ x = 5 ∨ x = 6 ∨ x = 7 ∨ x = 8 ∨ x = 9 ∨ x = 10 ∨ x = 11 ∨ x = 12 ∨ x = 13 ∨ x = 14 := by omega
   rcases hc with rfl | rfl | rfl | rfl | rfl | rfl | rfl | rfl | rfl | rfl | rfl | rfl | rfl | rfl | rfl
   · exact arparent_0_8 w
   · exact arparent_1_8 w
   · exact arparent_2_8 w
   · exact arparent_3_8 w
   · exact arparent_4_8 w
   · exact arparent_5_8 w
   · exact arparent_6_8 w
   · exact arparent_7_8 w
   · exact arparent_8_8 w
   · exact arparent_9_8 w
   · exact arparent_10_8 w
   · exact arparent_11_8 w
   · exact arparent_12_8 w
   · exact arparent_13_8 w
   · exact arparent_14_8 w
end Go.Proofs.YtedpljclnpiggaaGreatDoor
