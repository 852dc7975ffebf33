/-
  A tree of three nodes: Size, resolution of the second leaf.
-/
import Derived.Test.YtedpljclnpiggaaGreatDoorQCheck
set_option linter.unusedVariables false
set_option linter.unusedSimpArgs false
namespace Go.Proofs.YtedpljclnpiggaaGreatDoor
open Go Go.RowKit

set_option maxRecDepth 100000 in
theorem size_3 (b c : Nat) (p0 m0 e0 p1 p2 m2 e2 : Int) (h0 : 0 < p0) (h1 : 0 ≤ p1) (h2 : 0 < p2) (hm0 : 0 ≤ m0 ∧ m0 ≤ 1000) (hm2 : 0 ≤ m2 ∧ m2 ≤ 1000) (hm : m0 ≠ m2) (he0 : 0 ≤ e0 ∧ e0 ≤ 1000) (he2 : 0 ≤ e2 ∧ e2 ≤ 1000) (w : World) (he : TzEnv w) (hsz : 3 ≤ w.heap.size) (h : T3 w b p0 m0 e0 p1 p2 m2 e2) :
    Calls Tryz.prog 187 #[.agg #[.slice (some ⟨b, 0, none⟩) 3 c]] w fun r w' => r = .returned (.int .i64 2) ∧ Below w.heap.size w w' := by
  have hb1 := (Below.refl w.heap.size w).alloc (Nat.le_refl _) (.cells #[.slice (some ⟨b, 0, none⟩) 3 c] 44)
  have hs1 : w.heap.size < (w.alloc (.cells #[.slice (some ⟨b, 0, none⟩) 3 c] 44)).heap.size := by simp
  have hbox := row_alloc (w := w) #[.slice (some ⟨b, 0, none⟩) 3 c] 44 (0, 0)
  have hck := check_3 b c p0 m0 e0 p1 p2 m2 e2 h0 h1 h2 hm0 hm2 hm he0 he2 _ (he.below hb1 hsz) (Nat.le_trans hsz hb1.size) (h.new hb1)
  have Hck := Lib.hid hck; clear hck
  have Hb1 := Lib.hid hb1; clear hb1
  have Hs1 := Lib.hid hs1; clear hs1
  have Hbox := Lib.hid hbox; clear hbox
  clear h he h0 h1 h2 hm0 hm2 hm he0 he2
  go_enter Tryz.func187, Tryz.ntmps187
  go_wp2_with fail
  refine Hck.out.mono ?_
  rintro e w2 ⟨rfl, hb2⟩
  have hx : w2.cell? ⟨w.heap.size, 0, none⟩ = some (.slice (some ⟨b, 0, none⟩) 3 c) := by rw [cell_row ((hb2.block w.heap.size Hs1.out).trans Hbox.out)]; rfl
  have Hb2 := Lib.hid (Hb1.out.trans (hb2.mono (Nat.le_of_lt Hs1.out))); clear hb2
  go_wp2_with fail
  refine (leaves_3 _ _ _).mono ?_
  rintro e w3 ⟨rfl, hb3⟩
  have Hb3 := Lib.hid (Hb2.out.trans (hb3.mono Hb2.out.size)); clear hb3
  go_wp2
  go_ret
  exact ⟨rfl, Hb3.out⟩

set_option maxRecDepth 100000 in
set_option maxHeartbeats 800000 in
theorem resolution_2 (b c : Nat) (p0 m0 e0 p1 p2 m2 e2 : Int) (h2 : 0 < p2) (w : World) (h : T3 w b p0 m0 e0 p1 p2 m2 e2) :
    Calls Tryz.prog 294 #[.slice none 0 0, .agg #[.slice (some ⟨b, 0, none⟩) 3 c], .int .i64 2] w (NewI [2] w) := by
  obtain ⟨i0, hi0, hz0, hz1, hz2⟩ := info_parts infoI
  have hb1 := (Below.refl w.heap.size w).alloc (Nat.le_refl _) (.cells #[.slice (some ⟨b, 0, none⟩) 3 c] 44)
  have hT := h.new hb1
  obtain ⟨a, cc, t3⟩ := hT.c11
  have t0 := hT.c8
  have t1 := hT.c9
  have t2 := hT.c10
  have Hb1 := Lib.hid hb1; clear hb1 hT h
  go_enter Tryz.func294, Tryz.ntmps294
  have hn1 : ∀ W : World, OwnI (.slice none 0 0) [] W := ownI_nil
  have Hn1 := Lib.hid hn1; clear hn1
  have hb3 := (Hb1.out.alloc (by simp) (.cells #[.int .i64 p2, .int .i64 m2, .int .i64 e2, .slice a 0 cc] 125)).alloc (by simp; omega) (.cells #[.int .i64 2] 3)
  have Hb3 := Lib.hid hb3; clear hb3
  go_wp2_with (at_builtin; refine wpList_append_lies _ rfl (.tmp 22) (.tmp 24) 27 rfl 0 3 i0 (.int .i64 0) 1 8 Tryz.underlying27 hi0 hz0 hz1 hz2 rfl (by decide) (.slice none 0 0) 0 [] rfl (Hn1.out _) ⟨w.heap.size + 1 + 1, 0, none⟩ 1 1 [intV 2] rfl rfl (by intro j u hj; have h9 := cell_one_new ((w.alloc (.cells #[.slice (some ⟨b, 0, none⟩) 3 c] 44)).alloc (.cells #[.int .i64 p2, .int .i64 m2, .int .i64 e2, .slice a 0 cc] 125)) (intV 2) 3 j u hj; simpa [intV] using h9) (by intro u hu; simp [intV] at hu; rw [hu]; rfl) (by omega) (by unfold maxLen; omega) (by omega) (Nat.zero_le _) (w.heap.size + 1 + 1 + 1) (by simp) ?_; intro g5 c5 w5 hown5 hgrow5 hat5 hlt5; have hg5 : g5 = w.heap.size + 1 + 1 + 1 := hat5.elim (fun e => by simp [Value.ownBlock] at e) id; have hb5 := Hb3.out.grown hgrow5 Hb3.out.size (fun k hk => by simp [Value.ownBlock] at hk); have hr0 := row_alloc (w := w.alloc (.cells #[.slice (some ⟨b, 0, none⟩) 3 c] 44)) #[.int .i64 p2, .int .i64 m2, .int .i64 e2, .slice a 0 cc] 125 (0, 0); have hr1 : w5.heap[w.heap.size + 1]? = some (.cells #[.int .i64 p2, .int .i64 m2, .int .i64 e2, .slice a 0 cc] 125 (0, 0)) := (hgrow5.block (w.heap.size + 1) (by simp) (fun e => by simp [Value.ownBlock] at e)).trans ((heap_alloc_old _ _ (by simp)).trans (by simpa using hr0)); have hcell : w5.cell? ⟨w.heap.size + 1, 3, none⟩ = some (.slice a 0 cc) := (cell_row hr1 3).trans rfl; clear hr0 hr1; have Hown5 := Lib.hid hown5; clear hown5; have Hb5 := Lib.hid hb5; clear hb5; have Hg5 := Lib.hid hg5; clear hg5 hgrow5 hat5 hlt5)
  refine wp_loop_rounds 1 ?_
  rw [rounds_succ]
  go_wp2
  go_ret
  exact newI_mk Hown5.out (by have := Hg5.out; omega) Hb5.out
end Go.Proofs.YtedpljclnpiggaaGreatDoor

/-
  tree.rows at the first leaf of a tree of three nodes (under way).
-/
namespace Go.Proofs.YtedpljclnpiggaaGreatDoor
open Go Go.RowKit

theorem newI_one {x : Int} {w w' : World} {e : Ending} (h : NewI [x] w e w') :
    ∃ g c, e = .returned (.slice (some ⟨g, 0, none⟩) 1 c) ∧ 1 ≤ c ∧ c ≤ maxLen ∧ (w.heap.size ≤ g ∧ g < w'.heap.size) ∧ w'.cell? ⟨g, 0, none⟩ = some (.int .i64 x) ∧ Below w.heap.size w w' := by
  obtain ⟨v, rfl, hown, hg, hb⟩ := h
  rcases hown.2 with ⟨_, h2⟩ | ⟨g, cap, cur, h1, _, hgg, h4, h5, _⟩
  · simp at h2
  · subst h1
    have hc := ownI_at hown
    obtain ⟨b, o, e0, c0⟩ := hc 0 (by simp)
    obtain ⟨rfl, rfl⟩ : g = b ∧ 0 = o := by simpa using e0
    exact ⟨g, cap, rfl, h4, h5, ⟨hg g rfl, (Array.getElem?_eq_some_iff.1 hgg).1⟩, c0, hb⟩

theorem infoRow : (Tryz.prog.info? 183).map (fun i => (i.zero, i.size, i.bytes)) = some (some (.agg #[.int .i64 0, .slice none 0 0]), 2, 32) := by kernel_rfl

/-- One row: the root, and the second leaf. -/
def RowsPost (w : World) (e : Ending) (w' : World) : Prop :=
  ∃ gr c g2 c2, e = .returned (.tuple #[.slice (some ⟨gr, 0, none⟩) 1 c, .int .i64 0]) ∧ w'.cell? ⟨gr, 0, none⟩ = some (.int .i64 1) ∧ w'.cell? ⟨gr, 1, none⟩ = some (.slice (some ⟨g2, 0, none⟩) 1 c2) ∧ w'.cell? ⟨g2, 0, none⟩ = some (.int .i64 2) ∧
    (w.heap.size ≤ gr ∧ gr < w'.heap.size) ∧ (w.heap.size ≤ g2 ∧ g2 < w'.heap.size) ∧ (1 ≤ c2 ∧ c2 ≤ maxLen) ∧ Below w.heap.size w w'

theorem two_cells (w : World) (x y : Value) (t : TypeId) : ∀ j u, [x, y][j]? = some u → (w.alloc (.cells #[x, y] t)).cell? ((⟨w.heap.size, 0, none⟩ : Addr).add j) = some u := by
  intro j u hj
  have ha : (⟨w.heap.size, 0, none⟩ : Addr).add j = ⟨w.heap.size, j, none⟩ := by unfold Addr.add; split <;> simp_all
  rw [ha, cell_row (row_alloc _ _ _)]
  rw [show (#[x, y] : Array Value) = [x, y].toArray from rfl, List.getElem?_toArray]
  exact hj

theorem row_cells {w : World} {g n c : Nat} {x y : Value} (h : w.ownsRow 0 183 2 (.slice (some ⟨g, 0, none⟩) n c) n [x, y]) : w.cell? ⟨g, 0, none⟩ = some x ∧ w.cell? ⟨g, 1, none⟩ = some y := by
  rcases h.2 with ⟨e, _⟩ | ⟨g', cap, cur, e, _, hg, _, _, _, ht⟩
  · simp at e
  · obtain ⟨rfl, _, _⟩ : g = g' ∧ n = n ∧ c = cap := by simpa using e
    have hn : n * 2 = 2 := by have := h.1; simp at this; omega
    rw [hn] at ht
    have hc : ∀ j, j < 2 → cur[j]? = [x, y][j]? := fun j hj => by rw [← ht, List.getElem?_take, if_pos hj, Array.getElem?_toList]
    exact ⟨(cell_row hg 0).trans (hc 0 (by omega)), (cell_row hg 1).trans (hc 1 (by omega))⟩

set_option maxRecDepth 100000 in
set_option maxHeartbeats 1600000 in
theorem rows_0 (b c : Nat) (p0 m0 e0 p1 p2 m2 e2 : Int) (h0 : 0 < p0) (h1 : 0 ≤ p1) (h2 : 0 < p2) (hm0 : 0 ≤ m0 ∧ m0 ≤ 1000) (hm2 : 0 ≤ m2 ∧ m2 ≤ 1000) (hm : m0 ≠ m2) (he0 : 0 ≤ e0 ∧ e0 ≤ 1000) (he2 : 0 ≤ e2 ∧ e2 ≤ 1000) (w : World) (he : TzEnv w) (hsz : 3 ≤ w.heap.size) (h : T3 w b p0 m0 e0 p1 p2 m2 e2) :
    Calls Tryz.prog 200 #[.agg #[.slice (some ⟨b, 0, none⟩) 3 c], .int .i64 0] w (RowsPost w) := by
  obtain ⟨i0, hi0, hz0, hz1, hz2⟩ := info_parts infoRow
  have hb1 := (Below.refl w.heap.size w).alloc (Nat.le_refl _) (.cells #[.slice (some ⟨b, 0, none⟩) 3 c] 44)
  have hs1 : w.heap.size < (w.alloc (.cells #[.slice (some ⟨b, 0, none⟩) 3 c] 44)).heap.size := by simp
  have hbox := row_alloc (w := w) #[.slice (some ⟨b, 0, none⟩) 3 c] 44 (0, 0)
  have hck := check_3 b c p0 m0 e0 p1 p2 m2 e2 h0 h1 h2 hm0 hm2 hm he0 he2 _ (he.below hb1 hsz) (Nat.le_trans hsz hb1.size) (h.new hb1)
  have Hck := Lib.hid hck; clear hck
  have Hb1 := Lib.hid hb1; clear hb1
  have Hs1 := Lib.hid hs1; clear hs1
  have Hbox := Lib.hid hbox; clear hbox
  have He := Lib.hid he; clear he
  have H := Lib.hid h; clear h
  clear h1 hm0 hm2 hm he0 he2
  go_enter Tryz.func200, Tryz.ntmps200
  go_wp2_with fail
  refine Hck.out.mono ?_
  rintro e w2 ⟨rfl, hb2⟩
  have hbx := (hb2.block w.heap.size Hs1.out).trans Hbox.out
  have Hb2 := Lib.hid (Hb1.out.trans (hb2.mono (Nat.le_of_lt Hs1.out)))
  have hq2 : w.heap.size < w2.heap.size := Nat.lt_of_lt_of_le Hs1.out hb2.size
  clear hb2 Hck Hs1 Hbox
  have hx2 : w2.cell? ⟨w.heap.size, 0, none⟩ = some (.slice (some ⟨b, 0, none⟩) 3 c) := by rw [cell_row hbx]; rfl
  obtain ⟨q, hq⟩ : ∃ q, q = w.heap.size := ⟨_, rfl⟩
  rw [← hq] at hx2 hq2 ⊢
  have Hq := Lib.hid hq; clear hq hbx
  -- from here on: a world in which the box and the tree are as they were
  go_wp2_with fail
  refine (leaves_3 _ _ _).mono ?_
  rintro e w3 ⟨rfl, hb3⟩
  have hx3 := (hb3.cell (p := ⟨q, 0, none⟩) hq2).trans hx2
  have hq3 := Nat.lt_of_lt_of_le hq2 hb3.size
  have Hb3 := Lib.hid (Hb2.out.trans (hb3.mono Hb2.out.size)); clear hb3 hx2 hq2
  have t3 := (H.out.new Hb3.out).c0
  have hp0 : (p0 == 0) = false := beq_eq_false_iff_ne.2 (by omega)
  go_wp2_with fail
  refine (leaves_3 _ _ _).mono ?_
  rintro e w4 ⟨rfl, hb4⟩
  have hx4 := (hb4.cell (p := ⟨q, 0, none⟩) hq3).trans hx3
  have hq4 := Nat.lt_of_lt_of_le hq3 hb4.size
  have Hb4 := Lib.hid (Hb3.out.trans (hb4.mono Hb3.out.size)); clear hb4 hx3 hq3 t3
  go_wp2_with fail
  refine (icopath_0 _ (He.out.below Hb4.out hsz) (Nat.le_trans hsz Hb4.out.size)).mono ?_
  intro e w5 h5
  obtain ⟨go, co, rfl, hco1, hco2, hgo, cgo, hb5⟩ := newI_one h5
  unfold maxLen at hco2
  have hx5 := (hb5.cell (p := ⟨q, 0, none⟩) hq4).trans hx4
  have hq5 := Nat.lt_of_lt_of_le hq4 hb5.size
  have Hgo := Lib.hid hgo; clear hgo h5
  have Hb5 := Lib.hid (Hb4.out.trans (hb5.mono Hb4.out.size)); clear hb5 hx4 hq4
  go_wp2_with fail
  refine (leaves_3 _ _ _).mono ?_
  rintro e w6 ⟨rfl, hb6⟩
  have hx6 := (hb6.cell (p := ⟨q, 0, none⟩) hq5).trans hx5
  have hq6 := Nat.lt_of_lt_of_le hq5 hb6.size
  have cg6 := (hb6.cell (p := ⟨go, 0, none⟩) Hgo.out.2).trans cgo
  have hg6 := Nat.lt_of_lt_of_le Hgo.out.2 hb6.size
  have Hb6 := Lib.hid (Hb5.out.trans (hb6.mono Hb5.out.size)); clear hb6 hx5 hq5 cgo Hgo
  go_wp2_with fail
  refine (idirect_0 _ (He.out.below Hb6.out hsz) (Nat.le_trans hsz Hb6.out.size)).mono ?_
  rintro e w7 ⟨gd, rfl, cgd, hgd, hb7⟩
  have hx7 := (hb7.cell (p := ⟨q, 0, none⟩) hq6).trans hx6
  have hq7 := Nat.lt_of_lt_of_le hq6 hb7.size
  have cg7 := (hb7.cell (p := ⟨go, 0, none⟩) hg6).trans cg6
  have hg7 := Nat.lt_of_lt_of_le hg6 hb7.size
  have Hgd := Lib.hid hgd; clear hgd
  have Hb7 := Lib.hid (Hb6.out.trans (hb7.mono Hb6.out.size)); clear hb7 hx6 hq6 cg6 hg6
  have hres : ∀ W : World, Below w.heap.size w W → Calls Tryz.prog 294 #[.slice none 0 0, .agg #[.slice (some ⟨b, 0, none⟩) 3 c], .int .i64 2] W (NewI [2] W) := fun W hW => resolution_2 b c p0 m0 e0 p1 p2 m2 e2 h2 W (H.out.new hW)
  have Hres := Lib.hid hres; clear hres
  go_wp2
  refine wp_loop_rounds 2 ?_
  rw [rounds_succ]
  go_wp2_with fail
  go_region_with (go_at_call 294; refine (Hres.out _ (by exact ⟨Hb7.out.os, Hb7.out.tape, Hb7.out.output, Hb7.out.size, Hb7.out.block⟩)).mono ?_; intro e w8 h8; obtain ⟨g2, c2, rfl, hc1, hc2, hg2, cg2, hb8x⟩ := newI_one h8; have hb8 : Below w7.heap.size w7 w8 := ⟨hb8x.os, hb8x.tape, hb8x.output, hb8x.size, hb8x.block⟩; have hg2' : w7.heap.size ≤ g2 ∧ g2 < w8.heap.size := hg2; clear h8 hb8x hg2)
  all_goals
    have Hb8 := Lib.hid (Hb7.out.trans (hb8.mono Hb7.out.size))
    have Hg2 := Lib.hid hg2'
    have Hs8 := Lib.hid hb8.size
    have Hc2 := Lib.hid (And.intro hc1 hc2)
    have Hcg := Lib.hid cg2
    have hg2l := hg2'.2
    clear hb8 hg2' hc1 hc2 cg2 hx7 cg7
    have hnr : ∀ W : World, W.ownsRow 0 183 2 (.slice none 0 0) 0 [] := fun W => World.ownsRow_nil W 0 _ 2
    have Hnr := Lib.hid hnr; clear hnr
    go_wp2_with (at_builtin; refine wpList_append_lies _ rfl (.tmp 57) (.tmp 61) 179 rfl 0 183 i0 (.agg #[.int .i64 0, .slice none 0 0]) 2 32 Tryz.underlying179 hi0 hz0 hz1 hz2 rfl (by decide) (.slice none 0 0) 0 [] rfl (Hnr.out _) ⟨w8.heap.size, 0, none⟩ 1 1 [.int .i64 1, .slice (some ⟨g2, 0, none⟩) 1 c2] rfl rfl (two_cells _ _ _ _) (by intro u hu; simp at hu; rcases hu with rfl | rfl <;> rfl) (by omega) (by unfold maxLen; omega) (by omega) (Nat.zero_le _) (w8.heap.size + 1) (by simp) ?_; intro gr cr w9 hown9 hgrow9 hat9 hlt9; have hgr : gr = w8.heap.size + 1 := hat9.elim (fun e => by simp [Value.ownBlock] at e) id; have hb9 := ((Below.refl w8.heap.size w8).alloc (Nat.le_refl _) (.cells #[.int .i64 1, .slice (some ⟨g2, 0, none⟩) 1 c2] 183)).grown hgrow9 (by simp) (fun k hk => by simp [Value.ownBlock] at hk); have Hrc := Lib.hid (row_cells hown9); have Hb9 := Lib.hid hb9; have Hgr := Lib.hid hgr; have Hlt9 := Lib.hid hlt9; clear hown9 hgrow9 hat9 hlt9 hgr hb9)
    rw [rounds_succ]
    go_wp2
    go_ret2
    refine ⟨gr, cr, g2, c2, rfl, Hrc.out.1, Hrc.out.2, (Hb9.out.cell (p := ⟨g2, 0, none⟩) hg2l).trans Hcg.out, ⟨?_, Hlt9.out⟩, ⟨?_, Nat.lt_of_lt_of_le hg2l Hb9.out.size⟩, Hc2.out, Hb8.out.trans (Hb9.out.mono Hb8.out.size)⟩
    · have := Hgr.out; have := Hb8.out.size; omega
    · have := Hg2.out.1; have := Hb7.out.size; omega
end Go.Proofs.YtedpljclnpiggaaGreatDoor
