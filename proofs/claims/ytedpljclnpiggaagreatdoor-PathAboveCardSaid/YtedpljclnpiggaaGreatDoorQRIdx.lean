/-
  The document's index at trees of one and of two leaves. (printed by bin/gen_ridx.py)
-/
import Derived.Test.YtedpljclnpiggaaGreatDoorQMake1
set_option linter.unusedVariables false
set_option linter.unusedSimpArgs false
namespace Go.Proofs.YtedpljclnpiggaaGreatDoor
open Go Go.RowKit

set_option maxRecDepth 100000 in
theorem rtree_1 (w : World) : Calls Tryz.prog 333 #[.int .i64 1] w fun e w' => e = .returned (.bool true) ∧ w' = w := by
  go_enter Tryz.func333, Tryz.ntmps333
  go_wp2
  refine wp_loop_rounds 1 ?_
  rw [rounds_succ]
  go_wp2
  go_ret
  exact ⟨rfl, rfl⟩

set_option maxRecDepth 100000 in
theorem rtree_2 (w : World) : Calls Tryz.prog 333 #[.int .i64 2] w fun e w' => e = .returned (.bool true) ∧ w' = w := by
  go_enter Tryz.func333, Tryz.ntmps333
  go_wp2
  refine wp_loop_rounds 2 ?_
  rw [rounds_succ]
  go_wp2
  rw [rounds_succ]
  go_wp2
  go_ret
  exact ⟨rfl, rfl⟩

set_option maxRecDepth 100000 in
theorem rin_01 (w : World) : Calls Tryz.prog 319 #[.int .i64 0, .int .i64 1] w fun e w' => e = .returned (.bool true) ∧ w' = w := by
  go_enter Tryz.func319, Tryz.ntmps319
  go_wp2_with (first | (go_at_call 333; refine (rtree_1 _).mono ?_; rintro e wx ⟨rfl, hwx⟩; subst wx))
  go_ret
  exact ⟨rfl, rfl⟩

set_option maxRecDepth 100000 in
theorem rin_22 (w : World) : Calls Tryz.prog 319 #[.int .i64 2, .int .i64 2] w fun e w' => e = .returned (.bool true) ∧ w' = w := by
  go_enter Tryz.func319, Tryz.ntmps319
  go_wp2_with (first | (go_at_call 333; refine (rtree_2 _).mono ?_; rintro e wx ⟨rfl, hwx⟩; subst wx))
  go_ret
  exact ⟨rfl, rfl⟩

set_option maxRecDepth 100000 in
theorem rin_12 (w : World) : Calls Tryz.prog 319 #[.int .i64 1, .int .i64 2] w fun e w' => e = .returned (.bool true) ∧ w' = w := by
  go_enter Tryz.func319, Tryz.ntmps319
  go_wp2_with (first | (go_at_call 333; refine (rtree_2 _).mono ?_; rintro e wx ⟨rfl, hwx⟩; subst wx))
  go_ret
  exact ⟨rfl, rfl⟩

set_option maxRecDepth 100000 in
theorem rlevel_1 (w : World) : Calls Tryz.prog 332 #[.int .i64 1] w fun e w' => e = .returned (.int .i64 1) ∧ w' = w := by
  go_enter Tryz.func332, Tryz.ntmps332
  go_wp2
  refine wp_loop_rounds 2 ?_
  rw [rounds_succ]
  go_wp2
  rw [rounds_succ]
  go_wp2
  go_ret
  exact ⟨rfl, rfl⟩

set_option maxRecDepth 100000 in
theorem rhalf_1 (w : World) : Calls Tryz.prog 318 #[.int .i64 1] w fun e w' => e = .returned (.int .i64 1) ∧ w' = w := by
  go_enter Tryz.func318, Tryz.ntmps318
  go_wp2_with (first | (go_at_call 332; refine (rlevel_1 _).mono ?_; rintro e wx ⟨rfl, hwx⟩; subst wx))
  refine wp_loop_rounds 1 ?_
  rw [rounds_succ]
  go_wp2_with (first | (go_at_call 332; refine (rlevel_1 _).mono ?_; rintro e wx ⟨rfl, hwx⟩; subst wx))
  go_ret
  exact ⟨rfl, rfl⟩

set_option maxRecDepth 100000 in
theorem rleft_1 (w : World) : Calls Tryz.prog 299 #[.int .i64 1] w fun e w' => e = .returned (.tuple #[.int .i64 0, .bool true]) ∧ w' = w := by
  go_enter Tryz.func299, Tryz.ntmps299
  go_wp2_with (first | (go_at_call 318; refine (rhalf_1 _).mono ?_; rintro e wx ⟨rfl, hwx⟩; subst wx))
  go_ret2
  exact ⟨rfl, rfl⟩

set_option maxRecDepth 100000 in
theorem rright_1 (w : World) : Calls Tryz.prog 300 #[.int .i64 1] w fun e w' => e = .returned (.tuple #[.int .i64 2, .bool true]) ∧ w' = w := by
  go_enter Tryz.func300, Tryz.ntmps300
  go_wp2_with (first | (go_at_call 318; refine (rhalf_1 _).mono ?_; rintro e wx ⟨rfl, hwx⟩; subst wx))
  go_ret2
  exact ⟨rfl, rfl⟩

set_option maxRecDepth 100000 in
theorem rparent_01 (w : World) : Calls Tryz.prog 292 #[.int .i64 0, .int .i64 1] w fun e w' => e = .returned (.tuple #[.int .i64 0, .bool false]) ∧ w' = w := by
  go_enter Tryz.func292, Tryz.ntmps292
  go_wp2_with (first | (go_at_call 319; refine (rin_01 _).mono ?_; rintro e wx ⟨rfl, hwx⟩; subst wx))
  go_ret2
  exact ⟨rfl, rfl⟩

set_option maxRecDepth 100000 in
theorem rparent_12 (w : World) : Calls Tryz.prog 292 #[.int .i64 1, .int .i64 2] w fun e w' => e = .returned (.tuple #[.int .i64 0, .bool false]) ∧ w' = w := by
  go_enter Tryz.func292, Tryz.ntmps292
  go_wp2_with (first | (go_at_call 319; refine (rin_12 _).mono ?_; rintro e wx ⟨rfl, hwx⟩; subst wx))
  go_ret2
  exact ⟨rfl, rfl⟩

set_option maxRecDepth 100000 in
theorem rparent_22 (w : World) : Calls Tryz.prog 292 #[.int .i64 2, .int .i64 2] w fun e w' => e = .returned (.tuple #[.int .i64 1, .bool true]) ∧ w' = w := by
  go_enter Tryz.func292, Tryz.ntmps292
  go_wp2_with (first | (go_at_call 319; refine (rin_22 _).mono ?_; rintro e wx ⟨rfl, hwx⟩; subst wx) | (go_at_call 299; refine (rleft_1 _).mono ?_; rintro e wx ⟨rfl, hwx⟩; subst wx) | (go_at_call 300; refine (rright_1 _).mono ?_; rintro e wx ⟨rfl, hwx⟩; subst wx))
  refine wp_loop_rounds 1 ?_
  rw [rounds_succ]
  go_wp2_with (first | (go_at_call 319; refine (rin_22 _).mono ?_; rintro e wx ⟨rfl, hwx⟩; subst wx) | (go_at_call 299; refine (rleft_1 _).mono ?_; rintro e wx ⟨rfl, hwx⟩; subst wx) | (go_at_call 300; refine (rright_1 _).mono ?_; rintro e wx ⟨rfl, hwx⟩; subst wx))
  go_ret2
  exact ⟨rfl, rfl⟩

set_option maxRecDepth 100000 in
theorem rdirect_01 (w : World) : Calls Tryz.prog 196 #[.int .i64 0, .int .i64 1] w fun e w' => e = .returned (.slice none 0 0) ∧ w' = w := by
  go_enter Tryz.func196, Tryz.ntmps196
  go_wp2_with (first | (go_at_call 292; refine (rparent_01 _).mono ?_; rintro e wx ⟨rfl, hwx⟩; subst wx))
  refine wp_loop_rounds 1 ?_
  rw [rounds_succ]
  go_wp2_with (first | (go_at_call 292; refine (rparent_01 _).mono ?_; rintro e wx ⟨rfl, hwx⟩; subst wx))
  go_ret
  exact ⟨rfl, rfl⟩

set_option maxRecDepth 100000 in
theorem rdirect_22 (w : World) : Calls Tryz.prog 196 #[.int .i64 2, .int .i64 2] w (NewI [1] w) := by
  obtain ⟨i0, hi0, hz0, hz1, hz2⟩ := info_parts infoI
  have hn1 : ∀ W : World, OwnI (.slice none 0 0) [] W := ownI_nil
  have Hn1 := Lib.hid hn1; clear hn1
  have Hb := Lib.hid ((Below.refl w.heap.size w).alloc (Nat.le_refl _) (.cells #[.int .i64 1] 3))
  go_enter Tryz.func196, Tryz.ntmps196
  go_wp2_with (go_at_call 292; refine (rparent_22 _).mono ?_; rintro e wx ⟨rfl, hwx⟩; subst wx)
  refine wp_loop_rounds 2 ?_
  rw [rounds_succ]
  go_wp2_with (first | (go_at_call 292; refine (rparent_12 _).mono ?_; rintro e wx ⟨rfl, hwx⟩; subst wx) | (at_builtin; refine wpList_append_lies _ rfl (.tmp 15) (.tmp 17) 27 rfl 0 3 i0 (.int .i64 0) 1 8 Tryz.underlying27 hi0 hz0 hz1 hz2 rfl (by decide) (.slice none 0 0) 0 [] rfl (Hn1.out _) ⟨w.heap.size, 0, none⟩ 1 1 [intV 1] rfl rfl (cell_one_new _ _ _) (by intro u hu; simp [intV] at hu; rw [hu]; rfl) (by omega) (by unfold maxLen; omega) (by omega) (Nat.zero_le _) (w.heap.size + 1) (by simp) ?_; intro g5 c5 w5 hown5 hgrow5 hat5 hlt5; have Hown5 := Lib.hid hown5; have Hb5 := Lib.hid (Hb.out.grown hgrow5 Hb.out.size (fun k hk => by simp [Value.ownBlock] at hk)); have Hg5 := Lib.hid (hat5.elim (fun e => by simp [Value.ownBlock] at e) id : g5 = w.heap.size + 1); clear hown5 hgrow5 hat5 hlt5))
  rw [rounds_succ]
  go_wp2
  go_ret
  exact newI_mk Hown5.out (by have := Hg5.out; omega) Hb5.out

end Go.Proofs.YtedpljclnpiggaaGreatDoor
