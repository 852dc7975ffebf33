/-
  index at a tree of two leaves: in, Parent, Sibling, Width.
-/
import Derived.Test.YtedpljclnpiggaaGreatDoorQIdx
import Derived.Test.YtedpljclnpiggaaGreatDoorQSecs
set_option linter.unusedVariables false
set_option linter.unusedSimpArgs false
namespace Go.Proofs.YtedpljclnpiggaaGreatDoor
open Go Go.RowKit

theorem iwidth_2 (w : World) : Calls Tryz.prog 298 #[.int .i64 2] w fun e w' => e = .returned (.int .i64 3) ∧ w' = w := by
  have H := Lib.hid (itree_2 w)
  go_enter Tryz.func298, Tryz.ntmps298
  go_wp2_with (go_at_call 323; refine H.out.mono ?_; rintro e wx ⟨rfl, hwx⟩; subst wx)
  go_ret
  exact ⟨rfl, rfl⟩

theorem iin_0 (w : World) : Calls Tryz.prog 306 #[.int .i64 0, .int .i64 2] w fun e w' => e = .returned (.bool true) ∧ w' = w := by
  have H := Lib.hid (itree_2 w)
  go_enter Tryz.func306, Tryz.ntmps306
  go_wp2_with (go_at_call 323; refine H.out.mono ?_; rintro e wx ⟨rfl, hwx⟩; subst wx)
  go_ret
  exact ⟨rfl, rfl⟩

theorem iin_1 (w : World) : Calls Tryz.prog 306 #[.int .i64 1, .int .i64 2] w fun e w' => e = .returned (.bool true) ∧ w' = w := by
  have H := Lib.hid (itree_2 w)
  go_enter Tryz.func306, Tryz.ntmps306
  go_wp2_with (go_at_call 323; refine H.out.mono ?_; rintro e wx ⟨rfl, hwx⟩; subst wx)
  go_ret
  exact ⟨rfl, rfl⟩

theorem iin_2 (w : World) : Calls Tryz.prog 306 #[.int .i64 2, .int .i64 2] w fun e w' => e = .returned (.bool true) ∧ w' = w := by
  have H := Lib.hid (itree_2 w)
  go_enter Tryz.func306, Tryz.ntmps306
  go_wp2_with (go_at_call 323; refine H.out.mono ?_; rintro e wx ⟨rfl, hwx⟩; subst wx)
  go_ret
  exact ⟨rfl, rfl⟩

set_option maxRecDepth 100000 in
theorem iparent_0 (w : World) (h : TzEnv w) : Calls Tryz.prog 307 #[.int .i64 0, .int .i64 2] w fun e w' => e = .returned (.tuple #[.int .i64 1, .bool true]) ∧ w' = w := by
  have H := Lib.hid (iin_0 w)
  have HL := Lib.hid (level_0 w h)
  clear h
  have q1 : bits BinOp.or IntKind.i64 0 1 = 1 := by decide +kernel
  have q2 : bits BinOp.andNot IntKind.i64 1 2 = 1 := by decide +kernel
  go_enter Tryz.func307, Tryz.ntmps307
  go_wp2_with (first
    | (go_at_call 306; refine H.out.mono ?_; rintro e wx ⟨rfl, hwx⟩; subst wx)
    | (go_at_call 304; refine HL.out.mono ?_; rintro e wx ⟨rfl, hwx⟩; subst wx))
  go_ret2
  exact ⟨rfl, rfl⟩

set_option maxRecDepth 100000 in
theorem iparent_1 (w : World) (h : TzEnv w) : Calls Tryz.prog 307 #[.int .i64 1, .int .i64 2] w fun e w' => e = .returned (.tuple #[.int .i64 0, .bool false]) ∧ w' = w := by
  have H := Lib.hid (iin_1 w)
  have HL := Lib.hid (level_1 w h)
  clear h
  go_enter Tryz.func307, Tryz.ntmps307
  go_wp2_with (first
    | (go_at_call 306; refine H.out.mono ?_; rintro e wx ⟨rfl, hwx⟩; subst wx)
    | (go_at_call 304; refine HL.out.mono ?_; rintro e wx ⟨rfl, hwx⟩; subst wx))
  go_ret2
  exact ⟨rfl, rfl⟩

set_option maxRecDepth 100000 in
theorem iparent_2 (w : World) (h : TzEnv w) : Calls Tryz.prog 307 #[.int .i64 2, .int .i64 2] w fun e w' => e = .returned (.tuple #[.int .i64 1, .bool true]) ∧ w' = w := by
  have H := Lib.hid (iin_2 w)
  have HL := Lib.hid (level_2 w h)
  clear h
  have q1 : bits BinOp.or IntKind.i64 2 1 = 3 := by decide +kernel
  have q2 : bits BinOp.andNot IntKind.i64 3 2 = 1 := by decide +kernel
  go_enter Tryz.func307, Tryz.ntmps307
  go_wp2_with (first
    | (go_at_call 306; refine H.out.mono ?_; rintro e wx ⟨rfl, hwx⟩; subst wx)
    | (go_at_call 304; refine HL.out.mono ?_; rintro e wx ⟨rfl, hwx⟩; subst wx))
  go_ret2
  exact ⟨rfl, rfl⟩

theorem isibling_0 (w : World) (h : TzEnv w) : Calls Tryz.prog 320 #[.int .i64 0, .int .i64 2] w fun e w' => e = .returned (.tuple #[.int .i64 2, .bool true]) ∧ w' = w := by
  have H := Lib.hid (iparent_0 w h)
  clear h
  go_enter Tryz.func320, Tryz.ntmps320
  go_wp2_with (go_at_call 307; refine H.out.mono ?_; rintro e wx ⟨rfl, hwx⟩; subst wx)
  go_ret2
  exact ⟨rfl, rfl⟩

theorem isibling_1 (w : World) (h : TzEnv w) : Calls Tryz.prog 320 #[.int .i64 1, .int .i64 2] w fun e w' => e = .returned (.tuple #[.int .i64 0, .bool false]) ∧ w' = w := by
  have H := Lib.hid (iparent_1 w h)
  clear h
  go_enter Tryz.func320, Tryz.ntmps320
  go_wp2_with (go_at_call 307; refine H.out.mono ?_; rintro e wx ⟨rfl, hwx⟩; subst wx)
  go_ret2
  exact ⟨rfl, rfl⟩

theorem isibling_2 (w : World) (h : TzEnv w) : Calls Tryz.prog 320 #[.int .i64 2, .int .i64 2] w fun e w' => e = .returned (.tuple #[.int .i64 0, .bool true]) ∧ w' = w := by
  have H := Lib.hid (iparent_2 w h)
  clear h
  go_enter Tryz.func320, Tryz.ntmps320
  go_wp2_with (go_at_call 307; refine H.out.mono ?_; rintro e wx ⟨rfl, hwx⟩; subst wx)
  go_ret2
  exact ⟨rfl, rfl⟩
end Go.Proofs.YtedpljclnpiggaaGreatDoor

/-
  index at a tree of two leaves: up, Direct.
-/
namespace Go.Proofs.YtedpljclnpiggaaGreatDoor
open Go Go.RowKit

theorem TzEnv.below {B : Nat} {w w' : World} (h : TzEnv w) (hb : Below B w w') (hB : 3 ≤ B) : TzEnv w' :=
  ⟨(hb.cell (p := ⟨0, 0, none⟩) (by simp only; omega)).trans h.t0, (hb.cell (p := ⟨0, 1, none⟩) (by simp only; omega)).trans h.t1⟩

/-- A new list of numbers. -/
def NewI (l : List Int) (w : World) (e : Ending) (w' : World) : Prop := ∃ v, e = .returned v ∧ OwnI v l w' ∧ (∀ g, v.ownBlock = some g → w.heap.size ≤ g) ∧ Below w.heap.size w w'
theorem newI_mk {l : List Int} {w w' : World} {g n c : Nat} (hown : OwnI (.slice (some ⟨g, 0, none⟩) n c) l w') (hg : w.heap.size ≤ g) (hb : Below w.heap.size w w') : NewI l w (.returned (.slice (some ⟨g, 0, none⟩) n c)) w' :=
  ⟨_, rfl, hown, fun g' hg' => by obtain rfl : g = g' := by simpa [Value.ownBlock] using hg'
                                  exact hg, hb⟩

set_option maxRecDepth 100000 in
set_option maxHeartbeats 800000 in
theorem iup_0 (w : World) (h : TzEnv w) (hsz : 3 ≤ w.heap.size) : Calls Tryz.prog 286 #[.int .i64 0, .int .i64 2] w (NewI [0, 1] w) := by
  obtain ⟨i0, hi0, hz0, hz1, hz2⟩ := info_parts infoI
  have H := Lib.hid h; clear h
  go_enter Tryz.func286, Tryz.ntmps286
  go_wp2_with (go_at_call 306; refine (iin_0 _).mono ?_; rintro e wx ⟨rfl, hwx⟩; subst wx)
  refine wp_loop_rounds 3 ?_
  rw [rounds_succ]
  have hn1 : ∀ W : World, OwnI (.slice none 0 0) [] W := ownI_nil
  have Hn1 := Lib.hid hn1; clear hn1
  go_wp2_with (at_builtin; refine wpList_append_lies _ rfl (.tmp 17) (.tmp 19) 27 rfl 0 3 i0 (.int .i64 0) 1 8 Tryz.underlying27 hi0 hz0 hz1 hz2 rfl (by decide) (.slice none 0 0) 0 [] rfl (Hn1.out _) ⟨w.heap.size, 0, none⟩ 1 1 [intV 0] rfl rfl (cell_one_new _ _ _) (by intro u hu; simp [intV] at hu; rw [hu]; rfl) (by omega) (by unfold maxLen; omega) (by omega) (Nat.zero_le _) (w.heap.size + 1) (by simp) ?_; intro g1 c1 w1 hown1 hgrow1 hat1 hlt1; have Hown1 := Lib.hid hown1; clear hown1; have hg1 : g1 = w.heap.size + 1 := hat1.elim (fun e => by simp [Value.ownBlock] at e) id; have Hb1 := Lib.hid (((Below.refl w.heap.size w).alloc (Nat.le_refl _) (.cells #[.int .i64 0] 3)).grown hgrow1 (by simp) (fun k hk => by simp [Value.ownBlock] at hk)); clear hgrow1 hat1; have Hlt1 := Lib.hid hlt1; clear hlt1; have Hg1 := Lib.hid hg1; clear hg1)
  refine (iparent_0 _ (H.out.below Hb1.out hsz)).mono ?_
  rintro e wx ⟨rfl, hwx⟩
  subst wx
  go_wp2
  rw [rounds_succ]
  go_wp2_with (at_builtin; refine wpList_append_lies _ rfl (.tmp 17) (.tmp 19) 27 rfl 0 3 i0 (.int .i64 0) 1 8 Tryz.underlying27 hi0 hz0 hz1 hz2 rfl (by decide) (.slice (some ⟨g1, 0, none⟩) 1 c1) 1 [intV 0] rfl (World.ownsRow.alloc Hown1.out _) ⟨w1.heap.size, 0, none⟩ 1 1 [intV 1] rfl rfl (cell_one_new _ _ _) (by intro u hu; simp [intV] at hu; rw [hu]; rfl) (by omega) (by unfold maxLen; omega) (by omega) (Nat.zero_le _) (w1.heap.size + 1) (by simp) ?_; intro g2 c2 w2 hown2 hgrow2 hat2 hlt2; have Hown2 := Lib.hid hown2; clear hown2; have hg2 : w.heap.size ≤ g2 := hat2.elim (fun e => by have := Hg1.out; simp [Value.ownBlock] at e; omega) (fun e => by have := Hb1.out.size; omega); have Hb2 := Lib.hid ((Hb1.out.alloc Hb1.out.size (.cells #[.int .i64 1] 3)).grown hgrow2 (by have := Hb1.out.size; simp; omega) (fun k hk => by have := Hg1.out; simp [Value.ownBlock] at hk; omega)); clear hgrow2 hat2 hlt2; have Hg2 := Lib.hid hg2; clear hg2)
  refine (iparent_1 _ (H.out.below Hb2.out hsz)).mono ?_
  rintro e wx ⟨rfl, hwx⟩
  subst wx
  go_wp2
  rw [rounds_succ]
  go_wp2
  go_ret
  exact newI_mk Hown2.out Hg2.out Hb2.out

set_option maxRecDepth 100000 in
set_option maxHeartbeats 800000 in
theorem iup_2 (w : World) (h : TzEnv w) (hsz : 3 ≤ w.heap.size) : Calls Tryz.prog 286 #[.int .i64 2, .int .i64 2] w (NewI [2, 1] w) := by
  obtain ⟨i0, hi0, hz0, hz1, hz2⟩ := info_parts infoI
  have H := Lib.hid h; clear h
  go_enter Tryz.func286, Tryz.ntmps286
  go_wp2_with (go_at_call 306; refine (iin_2 _).mono ?_; rintro e wx ⟨rfl, hwx⟩; subst wx)
  refine wp_loop_rounds 3 ?_
  rw [rounds_succ]
  have hn1 : ∀ W : World, OwnI (.slice none 0 0) [] W := ownI_nil
  have Hn1 := Lib.hid hn1; clear hn1
  go_wp2_with (at_builtin; refine wpList_append_lies _ rfl (.tmp 17) (.tmp 19) 27 rfl 0 3 i0 (.int .i64 0) 1 8 Tryz.underlying27 hi0 hz0 hz1 hz2 rfl (by decide) (.slice none 0 0) 0 [] rfl (Hn1.out _) ⟨w.heap.size, 0, none⟩ 1 1 [intV 2] rfl rfl (cell_one_new _ _ _) (by intro u hu; simp [intV] at hu; rw [hu]; rfl) (by omega) (by unfold maxLen; omega) (by omega) (Nat.zero_le _) (w.heap.size + 1) (by simp) ?_; intro g1 c1 w1 hown1 hgrow1 hat1 hlt1; have Hown1 := Lib.hid hown1; clear hown1; have hg1 : g1 = w.heap.size + 1 := hat1.elim (fun e => by simp [Value.ownBlock] at e) id; have Hb1 := Lib.hid (((Below.refl w.heap.size w).alloc (Nat.le_refl _) (.cells #[.int .i64 2] 3)).grown hgrow1 (by simp) (fun k hk => by simp [Value.ownBlock] at hk)); clear hgrow1 hat1; have Hlt1 := Lib.hid hlt1; clear hlt1; have Hg1 := Lib.hid hg1; clear hg1)
  refine (iparent_2 _ (H.out.below Hb1.out hsz)).mono ?_
  rintro e wx ⟨rfl, hwx⟩
  subst wx
  go_wp2
  rw [rounds_succ]
  go_wp2_with (at_builtin; refine wpList_append_lies _ rfl (.tmp 17) (.tmp 19) 27 rfl 0 3 i0 (.int .i64 0) 1 8 Tryz.underlying27 hi0 hz0 hz1 hz2 rfl (by decide) (.slice (some ⟨g1, 0, none⟩) 1 c1) 1 [intV 2] rfl (World.ownsRow.alloc Hown1.out _) ⟨w1.heap.size, 0, none⟩ 1 1 [intV 1] rfl rfl (cell_one_new _ _ _) (by intro u hu; simp [intV] at hu; rw [hu]; rfl) (by omega) (by unfold maxLen; omega) (by omega) (Nat.zero_le _) (w1.heap.size + 1) (by simp) ?_; intro g2 c2 w2 hown2 hgrow2 hat2 hlt2; have Hown2 := Lib.hid hown2; clear hown2; have hg2 : w.heap.size ≤ g2 := hat2.elim (fun e => by have := Hg1.out; simp [Value.ownBlock] at e; omega) (fun e => by have := Hb1.out.size; omega); have Hb2 := Lib.hid ((Hb1.out.alloc Hb1.out.size (.cells #[.int .i64 1] 3)).grown hgrow2 (by have := Hb1.out.size; simp; omega) (fun k hk => by have := Hg1.out; simp [Value.ownBlock] at hk; omega)); clear hgrow2 hat2 hlt2; have Hg2 := Lib.hid hg2; clear hg2)
  refine (iparent_1 _ (H.out.below Hb2.out hsz)).mono ?_
  rintro e wx ⟨rfl, hwx⟩
  subst wx
  go_wp2
  rw [rounds_succ]
  go_wp2
  go_ret
  exact newI_mk Hown2.out Hg2.out Hb2.out
end Go.Proofs.YtedpljclnpiggaaGreatDoor
