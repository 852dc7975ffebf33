/-
  index at a tree of two leaves: Direct, Copath.
-/
import Derived.Test.YtedpljclnpiggaaGreatDoorQIdx2
set_option linter.unusedVariables false
set_option linter.unusedSimpArgs false
namespace Go.Proofs.YtedpljclnpiggaaGreatDoor
open Go Go.RowKit

/-- The list of the root alone, behind the first place of a new row. -/
def DirPost (w : World) (e : Ending) (w' : World) : Prop :=
  ∃ g, e = .returned (.slice (some ⟨g, 1, none⟩) 1 1) ∧ w'.cell? ⟨g, 1, none⟩ = some (.int .i64 1) ∧ (w.heap.size ≤ g ∧ g < w'.heap.size) ∧ Below w.heap.size w w'

theorem newI_two {x y : Int} {w w' : World} {e : Ending} (h : NewI [x, y] w e w') :
    ∃ g c, e = .returned (.slice (some ⟨g, 0, none⟩) 2 c) ∧ 2 ≤ c ∧ c ≤ maxLen ∧ (w.heap.size ≤ g ∧ g < w'.heap.size) ∧ w'.cell? ⟨g, 0, none⟩ = some (.int .i64 x) ∧ w'.cell? ⟨g, 1, none⟩ = some (.int .i64 y) ∧ Below w.heap.size w w' := by
  obtain ⟨v, rfl, hown, hg, hb⟩ := h
  rcases hown.2 with ⟨_, h2⟩ | ⟨g, cap, cur, h1, _, hgg, h4, h5, _⟩
  · simp at h2
  · subst h1
    have hc := ownI_at hown
    obtain ⟨b, o, e0, c0⟩ := hc 0 (by simp)
    obtain ⟨rfl, rfl⟩ : g = b ∧ 0 = o := by simpa using e0
    obtain ⟨b, o, e1, c1⟩ := hc 1 (by simp)
    obtain ⟨rfl, rfl⟩ : g = b ∧ 0 = o := by simpa using e1
    exact ⟨g, cap, rfl, h4, h5, ⟨hg g rfl, (Array.getElem?_eq_some_iff.1 hgg).1⟩, c0, c1, hb⟩

set_option maxRecDepth 100000 in
theorem idirect_0 (w : World) (h : TzEnv w) (hsz : 3 ≤ w.heap.size) : Calls Tryz.prog 186 #[.int .i64 0, .int .i64 2] w (DirPost w) := by
  have H := Lib.hid (iup_0 w h hsz); clear h hsz
  go_enter Tryz.func186, Tryz.ntmps186
  go_wp2_with fail
  refine H.out.mono ?_
  intro e w1 h1
  obtain ⟨g, c, rfl, hc, hc2, hg, c0, c1, hb⟩ := newI_two h1
  unfold maxLen at hc2
  have Hg := Lib.hid hg; clear hg h1
  have Hb := Lib.hid hb; clear hb
  go_wp2
  go_ret
  exact ⟨g, rfl, c1, Hg.out, Hb.out⟩

set_option maxRecDepth 100000 in
theorem idirect_2 (w : World) (h : TzEnv w) (hsz : 3 ≤ w.heap.size) : Calls Tryz.prog 186 #[.int .i64 2, .int .i64 2] w (DirPost w) := by
  have H := Lib.hid (iup_2 w h hsz); clear h hsz
  go_enter Tryz.func186, Tryz.ntmps186
  go_wp2_with fail
  refine H.out.mono ?_
  intro e w1 h1
  obtain ⟨g, c, rfl, hc, hc2, hg, c0, c1, hb⟩ := newI_two h1
  unfold maxLen at hc2
  have Hg := Lib.hid hg; clear hg h1
  have Hb := Lib.hid hb; clear hb
  go_wp2
  go_ret
  exact ⟨g, rfl, c1, Hg.out, Hb.out⟩

set_option maxRecDepth 100000 in
set_option maxHeartbeats 800000 in
theorem icopath_0 (w : World) (h : TzEnv w) (hsz : 3 ≤ w.heap.size) : Calls Tryz.prog 293 #[.int .i64 0, .int .i64 2] w (NewI [2] w) := by
  obtain ⟨i0, hi0, hz0, hz1, hz2⟩ := info_parts infoI
  have H := Lib.hid (iup_0 w h hsz)
  have He := Lib.hid h; clear h
  go_enter Tryz.func293, Tryz.ntmps293
  go_wp2_with fail
  refine H.out.mono ?_
  intro e w1 h1
  obtain ⟨g, c, rfl, hc, hc2, hg, c0, c1, hb⟩ := newI_two h1
  unfold maxLen at hc2
  have Hg := Lib.hid hg; clear hg h1 H
  have Hb := Lib.hid hb; clear hb
  have HE1 := Lib.hid (He.out.below Hb.out hsz)
  go_wp2
  refine wp_loop_rounds 3 ?_
  rw [rounds_succ]
  go_wp2_with fail
  refine (isibling_0 _ HE1.out).mono ?_
  rintro e wx ⟨rfl, hwx⟩
  subst wx
  have hn1 : ∀ W : World, OwnI (.slice none 0 0) [] W := ownI_nil
  have Hn1 := Lib.hid hn1; clear hn1
  have hgl1 : g < w1.heap.size := Hg.out.2
  go_wp2_with (at_builtin; refine wpList_append_lies _ rfl (.tmp 25) (.tmp 27) 27 rfl 0 3 i0 (.int .i64 0) 1 8 Tryz.underlying27 hi0 hz0 hz1 hz2 rfl (by decide) (.slice none 0 0) 0 [] rfl (Hn1.out _) ⟨w1.heap.size, 0, none⟩ 1 1 [intV 2] rfl rfl (cell_one_new _ _ _) (by intro u hu; simp [intV] at hu; rw [hu]; rfl) (by omega) (by unfold maxLen; omega) (by omega) (Nat.zero_le _) (w1.heap.size + 1) (by simp) ?_; intro g2 c2 w2 hown2 hgrow2 hat2 hlt2; have Hown2 := Lib.hid hown2; clear hown2; have hg2 : g2 = w1.heap.size + 1 := hat2.elim (fun e => by simp [Value.ownBlock] at e) id; have hb12 := ((Below.refl w1.heap.size w1).alloc (Nat.le_refl _) (.cells #[.int .i64 2] 3)).grown hgrow2 (by simp) (fun k hk => by simp [Value.ownBlock] at hk); have d1 := (hb12.cell (p := ⟨g, 1, none⟩) hgl1).trans c1; have Hb12 := Lib.hid hb12; clear hb12 hgrow2 hat2 hlt2; have Hg2 := Lib.hid hg2; clear hg2)
  rw [rounds_succ]
  go_wp2_with fail
  refine (isibling_1 _ (HE1.out.below Hb12.out (Nat.le_trans hsz Hb.out.size))).mono ?_
  rintro e wx ⟨rfl, hwx⟩
  subst wx
  go_wp2
  rw [rounds_succ]
  go_wp2
  go_ret
  exact newI_mk Hown2.out (by have := Hg2.out; have := Hb.out.size; omega) (Hb.out.trans (Hb12.out.mono Hb.out.size))
end Go.Proofs.YtedpljclnpiggaaGreatDoor
