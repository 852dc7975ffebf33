/-
  tree.Path at the first leaf of a tree of three nodes.
-/
import Derived.Test.YtedpljclnpiggaaGreatDoorQTree3
set_option linter.unusedVariables false
set_option linter.unusedSimpArgs false
namespace Go.Proofs.YtedpljclnpiggaaGreatDoor
open Go Go.RowKit

def PathPost (w : World) (e : Ending) (w' : World) : Prop :=
  ∃ g c, e = .returned (.tuple #[.slice (some ⟨g, 0, none⟩) 1 c, .int .i64 0]) ∧ w'.cell? ⟨g, 0, none⟩ = some (.int .i64 1) ∧ (w.heap.size ≤ g ∧ g < w'.heap.size) ∧ Below w.heap.size w w'

set_option maxRecDepth 100000 in
set_option maxHeartbeats 1600000 in
theorem path_0 (b c : Nat) (p0 m0 e0 p1 p2 m2 e2 : Int) (h0 : 0 < p0) (h1 : 0 ≤ p1) (h2 : 0 < p2) (hm0 : 0 ≤ m0 ∧ m0 ≤ 1000) (hm2 : 0 ≤ m2 ∧ m2 ≤ 1000) (hm : m0 ≠ m2) (he0 : 0 ≤ e0 ∧ e0 ≤ 1000) (he2 : 0 ≤ e2 ∧ e2 ≤ 1000) (w : World) (he : TzEnv w) (hsz : 3 ≤ w.heap.size) (h : T3 w b p0 m0 e0 p1 p2 m2 e2) :
    Calls Tryz.prog 57 #[.agg #[.slice (some ⟨b, 0, none⟩) 3 c], .int .i64 0] w (PathPost w) := by
  obtain ⟨i0, hi0, hz0, hz1, hz2⟩ := info_parts infoI
  have hb1 := (Below.refl w.heap.size w).alloc (Nat.le_refl _) (.cells #[.slice (some ⟨b, 0, none⟩) 3 c] 44)
  have hrows := rows_0 b c p0 m0 e0 p1 p2 m2 e2 h0 h1 h2 hm0 hm2 hm he0 he2 _ (he.below hb1 hsz) (Nat.le_trans hsz hb1.size) (h.new hb1)
  have Hrows := Lib.hid hrows; clear hrows
  have Hb1 := Lib.hid hb1; clear hb1
  clear h he h0 h1 h2 hm0 hm2 hm he0 he2
  go_enter Tryz.func57, Tryz.ntmps57
  go_wp2_with fail
  refine Hrows.out.mono ?_
  rintro e w2 ⟨gr, cr, g2, c2, rfl, k0, k1, _, hgr, hg2, _, hb2⟩
  have hgl := hgr.2
  have Hb2 := Lib.hid (Hb1.out.trans (hb2.mono Hb1.out.size)); clear hb2 hgr hg2
  go_wp2
  refine wp_loop_rounds 2 ?_
  rw [rounds_succ]
  have hn1 : ∀ W : World, OwnI (.slice none 0 0) [] W := ownI_nil
  have Hn1 := Lib.hid hn1; clear hn1
  have hb3 := (Hb2.out.alloc Hb2.out.size (.cells #[.int .i64 1, .slice (some ⟨g2, 0, none⟩) 1 c2] 183))
  have hb4 := hb3.alloc hb3.size (.cells #[.int .i64 1] 3)
  have Hb4 := Lib.hid hb4; clear hb3 hb4
  go_wp2_with (at_builtin; refine wpList_append_lies _ rfl (.tmp 23) (.tmp 26) 27 rfl 0 3 i0 (.int .i64 0) 1 8 Tryz.underlying27 hi0 hz0 hz1 hz2 rfl (by decide) (.slice none 0 0) 0 [] rfl (Hn1.out _) ⟨w2.heap.size + 1, 0, none⟩ 1 1 [intV 1] rfl rfl (by intro j u hj; have h9 := cell_one_new (w2.alloc (.cells #[.int .i64 1, .slice (some ⟨g2, 0, none⟩) 1 c2] 183)) (intV 1) 3 j u hj; simpa [intV] using h9) (by intro u hu; simp [intV] at hu; rw [hu]; rfl) (by omega) (by unfold maxLen; omega) (by omega) (Nat.zero_le _) (w2.heap.size + 1 + 1) (by simp) ?_; intro g5 c5 w5 hown5 hgrow5 hat5 hlt5; have hg5 : g5 = w2.heap.size + 1 + 1 := hat5.elim (fun e => by simp [Value.ownBlock] at e) id; have hb5 := Hb4.out.grown hgrow5 Hb4.out.size (fun k hk => by simp [Value.ownBlock] at hk); have Hown5 := Lib.hid hown5; clear hown5; have Hb5 := Lib.hid hb5; clear hb5; have Hg5 := Lib.hid hg5; have Hlt5 := Lib.hid hlt5; clear hg5 hgrow5 hat5 hlt5)
  rw [rounds_succ]
  go_wp2
  go_ret2
  have hcell : w5.cell? ⟨g5, 0, none⟩ = some (.int .i64 1) := by
    obtain ⟨bb, oo, e, hc⟩ := ownI_at (l := [1]) Hown5.out 0 (by simp)
    obtain ⟨rfl, rfl⟩ : g5 = bb ∧ 0 = oo := by simpa using e
    exact hc
  exact ⟨g5, c5, rfl, hcell, ⟨by have := Hg5.out; have := Hb2.out.size; omega, Hlt5.out⟩, Hb5.out⟩
end Go.Proofs.YtedpljclnpiggaaGreatDoor

/-
  tree.Targets at the first leaf of a tree of three nodes (under way): Contains of nothing; DeleteFunc that strikes nothing.
-/
namespace Go.Proofs.YtedpljclnpiggaaGreatDoor
open Go Go.RowKit

theorem index_none (x : Int) (w : World) : Calls Tryz.prog 296 #[.slice none 0 0, .int .i64 x] w fun e w' => e = .returned (.int .i64 (-1)) ∧ w' = w := by
  go_enter Tryz.func296, Tryz.ntmps296
  go_wp2
  refine wp_loop_rounds 1 ?_
  rw [rounds_succ]
  go_wp2
  go_ret
  exact ⟨rfl, rfl⟩

theorem contains_none (x : Int) (w : World) : Calls Tryz.prog 203 #[.slice none 0 0, .int .i64 x] w fun e w' => e = .returned (.bool false) ∧ w' = w := by
  have H := Lib.hid (index_none x w)
  go_enter Tryz.func203, Tryz.ntmps203
  go_wp2_with (go_at_call 296; refine H.out.mono ?_; rintro e wx ⟨rfl, hwx⟩; subst wx)
  go_ret
  exact ⟨rfl, rfl⟩

set_option maxRecDepth 100000 in
theorem targ_fn (q : Nat) (w : World) (hq : w.cell? ⟨q, 0, none⟩ = some (.slice none 0 0)) :
    Calls Tryz.prog 202 #[.int .i64 2, .pointer (some ⟨q, 0, none⟩)] w fun e w' => e = .returned (.bool false) ∧ w' = w := by
  have H := Lib.hid (contains_none 1 w)
  go_enter Tryz.func202, Tryz.ntmps202
  go_wp2_with (go_at_call 203; refine H.out.mono ?_; rintro e wx ⟨rfl, hwx⟩; subst wx)
  go_ret
  exact ⟨rfl, rfl⟩

set_option maxRecDepth 100000 in
theorem indexf_one (g c q : Nat) (w : World) (h : w.cell? ⟨g, 0, none⟩ = some (.int .i64 2)) (hq : w.cell? ⟨q, 0, none⟩ = some (.slice none 0 0)) :
    Calls Tryz.prog 295 #[.slice (some ⟨g, 0, none⟩) 1 c, .func (.func 202) #[] #[.pointer (some ⟨q, 0, none⟩)]] w fun e w' => e = .returned (.int .i64 (-1)) ∧ w' = w := by
  have H := Lib.hid (targ_fn q w hq)
  go_enter Tryz.func295, Tryz.ntmps295
  go_wp2
  refine wp_loop_rounds 2 ?_
  rw [rounds_succ]
  go_wp2_with fail
  refine H.out.mono ?_
  rintro e wx ⟨rfl, hwx⟩
  subst wx
  go_wp2
  rw [rounds_succ]
  go_wp2
  go_ret
  exact ⟨rfl, rfl⟩

set_option maxRecDepth 100000 in
theorem deletef_one (g c q : Nat) (w : World) (h : w.cell? ⟨g, 0, none⟩ = some (.int .i64 2)) (hq : w.cell? ⟨q, 0, none⟩ = some (.slice none 0 0)) :
    Calls Tryz.prog 201 #[.slice (some ⟨g, 0, none⟩) 1 c, .func (.func 202) #[] #[.pointer (some ⟨q, 0, none⟩)]] w fun e w' => e = .returned (.slice (some ⟨g, 0, none⟩) 1 c) ∧ w' = w := by
  have H := Lib.hid (indexf_one g c q w h hq)
  go_enter Tryz.func201, Tryz.ntmps201
  go_wp2_with fail
  refine H.out.mono ?_
  rintro e wx ⟨rfl, hwx⟩
  subst wx
  go_wp2
  go_ret
  exact ⟨rfl, rfl⟩
end Go.Proofs.YtedpljclnpiggaaGreatDoor

/-
  tree.Targets at the first leaf of a tree of three nodes, nobody fresh.
-/
namespace Go.Proofs.YtedpljclnpiggaaGreatDoor
open Go Go.RowKit

theorem infoL : (Tryz.prog.info? 27).map (fun i => (i.zero, i.size, i.bytes)) = some (some (.slice none 0 0), 1, 24) := by kernel_rfl

def TargPost (w : World) (e : Ending) (w' : World) : Prop :=
  ∃ g c g2 c2, e = .returned (.tuple #[.slice (some ⟨g, 0, none⟩) 1 c, .int .i64 0]) ∧ w'.cell? ⟨g, 0, none⟩ = some (.slice (some ⟨g2, 0, none⟩) 1 c2) ∧ w'.cell? ⟨g2, 0, none⟩ = some (.int .i64 2) ∧ (w.heap.size ≤ g ∧ g < w'.heap.size) ∧ (w.heap.size ≤ g2 ∧ g2 < w'.heap.size) ∧ Below w.heap.size w w'

theorem one_cell {w : World} {g n c : Nat} {x : Value} {e : TypeId} (h : w.ownsRow 0 e 1 (.slice (some ⟨g, 0, none⟩) n c) n [x]) : w.cell? ⟨g, 0, none⟩ = some x := by
  rcases h.2 with ⟨e, _⟩ | ⟨g', cap, cur, e, _, hg, _, _, _, ht⟩
  · simp at e
  · obtain ⟨rfl, _, _⟩ : g = g' ∧ n = n ∧ c = cap := by simpa using e
    have hn : n * 1 = 1 := by have := h.1; simp at this; omega
    rw [hn] at ht
    have hc : cur[0]? = [x][0]? := by rw [← ht, List.getElem?_take, if_pos (by omega), Array.getElem?_toList]
    exact (cell_row hg 0).trans hc

set_option maxRecDepth 100000 in
set_option maxHeartbeats 1600000 in
theorem targets_0 (b c : Nat) (p0 m0 e0 p1 p2 m2 e2 : Int) (h0 : 0 < p0) (h1 : 0 ≤ p1) (h2 : 0 < p2) (hm0 : 0 ≤ m0 ∧ m0 ≤ 1000) (hm2 : 0 ≤ m2 ∧ m2 ≤ 1000) (hm : m0 ≠ m2) (he0 : 0 ≤ e0 ∧ e0 ≤ 1000) (he2 : 0 ≤ e2 ∧ e2 ≤ 1000) (w : World) (he : TzEnv w) (hsz : 3 ≤ w.heap.size) (h : T3 w b p0 m0 e0 p1 p2 m2 e2) :
    Calls Tryz.prog 58 #[.agg #[.slice (some ⟨b, 0, none⟩) 3 c], .int .i64 0, .slice none 0 0] w (TargPost w) := by
  obtain ⟨i0, hi0, hz0, hz1, hz2⟩ := info_parts infoL
  have hb0 := (Below.refl w.heap.size w).alloc (Nat.le_refl _) (.cells #[.slice (some ⟨b, 0, none⟩) 3 c] 44)
  have hb1 := hb0.alloc hb0.size (.cells #[.slice none 0 0] 27)
  have hq1 : w.heap.size + 1 < ((w.alloc (.cells #[.slice (some ⟨b, 0, none⟩) 3 c] 44)).alloc (.cells #[.slice none 0 0] 27)).heap.size := by simp
  have hcq : ((w.alloc (.cells #[.slice (some ⟨b, 0, none⟩) 3 c] 44)).alloc (.cells #[.slice none 0 0] 27)).cell? ⟨w.heap.size + 1, 0, none⟩ = some (.slice none 0 0) := by
    simp
  have hrows := rows_0 b c p0 m0 e0 p1 p2 m2 e2 h0 h1 h2 hm0 hm2 hm he0 he2 _ (he.below hb1 hsz) (Nat.le_trans hsz hb1.size) (h.new hb1)
  have Hrows := Lib.hid hrows; clear hrows
  have Hb1 := Lib.hid hb1; clear hb1 hb0
  have Hcq := Lib.hid hcq; clear hcq
  have Hq1 := Lib.hid hq1; clear hq1
  clear h he h0 h1 h2 hm0 hm2 hm he0 he2
  go_enter Tryz.func58, Tryz.ntmps58
  go_wp2_with fail
  refine Hrows.out.mono ?_
  rintro e w2 ⟨gr, cr, g2, c2, rfl, k0, k1, k2, hgr, hg2, hc2, hb2⟩
  have hgl := hgr.2
  have hg2l := hg2.2
  obtain ⟨q, hq⟩ : ∃ q, q = w.heap.size + 1 := ⟨_, rfl⟩
  rw [← hq] at Hcq Hq1 ⊢
  have kq := (hb2.cell (p := ⟨q, 0, none⟩) Hq1.out).trans Hcq.out
  have hql := Nat.lt_of_lt_of_le Hq1.out hb2.size
  have Hg2 := Lib.hid hg2; clear hg2
  have Hs1 := Lib.hid Hb1.out.size
  have Hb2 := Lib.hid (Hb1.out.trans (hb2.mono Hb1.out.size)); clear hb2 hgr hq Hcq Hq1 hc2
  go_wp2
  refine wp_loop_rounds 2 ?_
  rw [rounds_succ]
  have hb3 := (Hb2.out.alloc Hb2.out.size (.cells #[.int .i64 1, .slice (some ⟨g2, 0, none⟩) 1 c2] 183))
  have hb23 := ((Below.refl w2.heap.size w2).alloc (Nat.le_refl _) (.cells #[.int .i64 1, .slice (some ⟨g2, 0, none⟩) 1 c2] 183))
  have hdel := deletef_one g2 c2 q _ ((hb23.cell (p := ⟨g2, 0, none⟩) hg2l).trans k2) ((hb23.cell (p := ⟨q, 0, none⟩) hql).trans kq)
  have Hdel := Lib.hid hdel; clear hdel hb23
  have hb4 := hb3.alloc hb3.size (.cells #[.slice (some ⟨g2, 0, none⟩) 1 c2] 27)
  have Hb4 := Lib.hid hb4; clear hb3 hb4
  have hn1 : ∀ W : World, W.ownsRow 0 27 1 (.slice none 0 0) 0 [] := fun W => World.ownsRow_nil W 0 _ 1
  have Hn1 := Lib.hid hn1; clear hn1
  go_wp2_with fail
  refine Hdel.out.mono ?_
  rintro e wx ⟨rfl, hwx⟩
  subst wx
  go_wp2_with (at_builtin; refine wpList_append_lies _ rfl (.tmp 25) (.tmp 30) 139 rfl 0 27 i0 (.slice none 0 0) 1 24 Tryz.underlying139 hi0 hz0 hz1 hz2 rfl (by decide) (.slice none 0 0) 0 [] rfl (Hn1.out _) ⟨w2.heap.size + 1, 0, none⟩ 1 1 [.slice (some ⟨g2, 0, none⟩) 1 c2] rfl rfl (by intro j u hj; have h9 := cell_one_new (w2.alloc (.cells #[.int .i64 1, .slice (some ⟨g2, 0, none⟩) 1 c2] 183)) (.slice (some ⟨g2, 0, none⟩) 1 c2) 27 j u hj; simpa using h9) (by intro u hu; simp at hu; rw [hu]; rfl) (by omega) (by unfold maxLen; omega) (by omega) (Nat.zero_le _) (w2.heap.size + 1 + 1) (by simp) ?_; intro g5 c5 w5 hown5 hgrow5 hat5 hlt5; have hg5 : g5 = w2.heap.size + 1 + 1 := hat5.elim (fun e => by simp [Value.ownBlock] at e) id; have hb5 := Hb4.out.grown hgrow5 Hb4.out.size (fun k hk => by simp [Value.ownBlock] at hk); have hb25 := (((Below.refl w2.heap.size w2).alloc (Nat.le_refl _) (.cells #[.int .i64 1, .slice (some ⟨g2, 0, none⟩) 1 c2] 183)).alloc (by simp) (.cells #[.slice (some ⟨g2, 0, none⟩) 1 c2] 27)).grown hgrow5 (by simp; omega) (fun k hk => by simp [Value.ownBlock] at hk); have Hcell := Lib.hid (one_cell hown5); clear hown5; have Hb5 := Lib.hid hb5; clear hb5; have Hb25 := Lib.hid hb25; clear hb25; have Hg5 := Lib.hid hg5; have Hlt5 := Lib.hid hlt5; clear hg5 hgrow5 hat5 hlt5)
  rw [rounds_succ]
  go_wp2
  go_ret2
  exact ⟨g5, c5, g2, c2, rfl, Hcell.out, (Hb25.out.cell (p := ⟨g2, 0, none⟩) hg2l).trans k2, ⟨by have := Hg5.out; have := Hb2.out.size; omega, Hlt5.out⟩, ⟨by have := Hg2.out.1; have := Hs1.out; omega, Nat.lt_of_lt_of_le hg2l Hb25.out.size⟩, Hb5.out⟩
end Go.Proofs.YtedpljclnpiggaaGreatDoor
