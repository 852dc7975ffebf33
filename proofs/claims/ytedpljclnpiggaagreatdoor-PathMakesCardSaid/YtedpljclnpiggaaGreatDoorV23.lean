/- tree.twin at a tree of three nodes; slices.Min of one number. -/
import Derived.Test.YtedpljclnpiggaaGreatDoorV15
import Derived.Test.YtedpljclnpiggaaGreatDoorV01
set_option linter.unusedVariables false
set_option linter.unusedSimpArgs false
set_option maxRecDepth 100000
set_option maxHeartbeats 12800000
namespace Go.Proofs.YtedpljclnpiggaaGreatDoor
section
open Go Go.RowKit
theorem newI_one {x : Int} {w w' : World} {e : Ending} (h : NewI [x] w e w') :
    ∃ g c, e = .returned (.slice (some ⟨g, 0, none⟩) 1 c) ∧ 1 ≤ c ∧ c ≤ maxLen ∧ (w.heap.size ≤ g ∧ g < w'.heap.size) ∧ w'.cell? ⟨g, 0, none⟩ = some (.int .i64 x) ∧ Below w.heap.size w w' := by
 obtain ⟨v, rfl, hown, hg, hb⟩ := h
 rcases hown.2 with ⟨_, h2⟩ | ⟨g, cap, cur, h1, _, hgg, h4, h5, _⟩
 · simp at h2
 · subst h1
   have hc := ownI_at hown
   obtain ⟨b, o, e0, c0⟩ := hc 0 (by simp)
   obtain ⟨rfl, rfl⟩ : g = b ∧ 0 = o := by simpa using e0
   exact ⟨g, cap, rfl, h4, h5, ⟨hg g rfl, (Array.getElem?_eq_some_iff.1 hgg).1⟩, c0, hb⟩
theorem infoRow : (Tryz.prog.info? 183).map (fun i => (i.zero, i.size, i.bytes)) = some (some (.agg #[.int .i64 0, .slice none 0 0]), 2, 32) := by kernel_rfl
def RowsPost (w : World) (e : Ending) (w' : World) : Prop :=
 ∃ gr c g2 c2, e = .returned (.tuple #[.slice (some ⟨gr, 0, none⟩) 1 c, .int .i64 0]) ∧ w'.cell? ⟨gr, 0, none⟩ = some (.int .i64 1) ∧ w'.cell? ⟨gr, 1, none⟩ = some (.slice (some ⟨g2, 0, none⟩) 1 c2) ∧ w'.cell? ⟨g2, 0, none⟩ = some (.int .i64 2) ∧
  (w.heap.size ≤ gr ∧ gr < w'.heap.size) ∧ (w.heap.size ≤ g2 ∧ g2 < w'.heap.size) ∧ (1 ≤ c2 ∧ c2 ≤ maxLen) ∧ Below w.heap.size w w'
theorem two_cells (w : World) (x y : Value) (t : TypeId) : ∀ j u, [x, y][j]? = some u → (w.alloc (.cells #[x, y] t)).cell? ((⟨w.heap.size, 0, none⟩ : Addr).add j) = some u := by
 intro j u hj
 have ha : (⟨w.heap.size, 0, none⟩ : Addr).add j = ⟨w.heap.size, j, none⟩ := by unfold Addr.add; split <;> simp_all
 rw [ha, cRw (rAl _ _ _)]
 rw [show (#[x, y] : Array Value) = [x, y].toArray from rfl, List.getElem?_toArray]
 exact hj
theorem row_cells {w : World} {g n c : Nat} {x y : Value} (h : w.ownsRow 0 183 2 (.slice (some ⟨g, 0, none⟩) n c) n [x, y]) : w.cell? ⟨g, 0, none⟩ = some x ∧ w.cell? ⟨g, 1, none⟩ = some y := by
 rcases h.2 with ⟨e, _⟩ | ⟨g', cap, cur, e, _, hg, _, _, _, ht⟩
 · simp at e
 · obtain ⟨rfl, _, _⟩ : g = g' ∧ n = n ∧ c = cap := by simpa using e
   have hn : n * 2 = 2 := by have := h.1; simp at this; omega
   rw [hn] at ht
   have hc : ∀ j, j < 2 → cur[j]? = [x, y][j]? := fun j hj => by rw [← ht, List.getElem?_take, if_pos hj, Array.getElem?_toList]
   exact ⟨(cRw hg 0).trans (hc 0 (by omega)), (cRw hg 1).trans (hc 1 (by omega))⟩
theorem rows_0 (b c : Nat) (p0 m0 e0 p1 p2 m2 e2 : Int) (h0 : 0 < p0) (h1 : 0 ≤ p1) (h2 : 0 < p2) (hm0 : 0 ≤ m0 ∧ m0 ≤ 1000) (hm2 : 0 ≤ m2 ∧ m2 ≤ 1000) (hm : m0 ≠ m2) (he0 : 0 ≤ e0 ∧ e0 ≤ 1000) (he2 : 0 ≤ e2 ∧ e2 ≤ 1000) (w : World) (he : TzEnv w) (hsz : 3 ≤ w.heap.size) (h : T3 w b p0 m0 e0 p1 p2 m2 e2) :
    Calls Tryz.prog 200 #[.agg #[.slice (some ⟨b, 0, none⟩) 3 c], .int .i64 0] w (RowsPost w) := by
 obtain ⟨i0, hi0, hz0, hz1, hz2⟩ := info_parts infoRow
 have hb1 := (Below.refl w.heap.size w).alloc (Nat.le_refl _) (.cells #[.slice (some ⟨b, 0, none⟩) 3 c] 44)
 have hs1 : w.heap.size < (w.alloc (.cells #[.slice (some ⟨b, 0, none⟩) 3 c] 44)).heap.size := by simp
 have hbox := rAl (w := w) #[.slice (some ⟨b, 0, none⟩) 3 c] 44 (0, 0)
 have hck := check_3 b c p0 m0 e0 p1 p2 m2 e2 h0 h1 h2 hm0 hm2 hm he0 he2 _ (he.below hb1 hsz) (Nat.le_trans hsz hb1.size) (h.new hb1)
 have Hck := hQ hck; clear hck
 have Hb1 := hQ hb1; clear hb1
 have Hs1 := hQ hs1; clear hs1
 have Hbox := hQ hbox; clear hbox
 have He := hQ he; clear he
 have H := hQ h; clear h
 clear h1 hm0 hm2 hm he0 he2
 go_enter Tryz.func200, Tryz.ntmps200
 go_wp2_with fail
 refine Hck.out.mono ?_
 rintro e w2 ⟨rfl, hb2⟩
 have hbx := (hb2.block w.heap.size Hs1.out).trans Hbox.out
 have Hb2 := hQ (Hb1.out.trans (hb2.mono (Nat.le_of_lt Hs1.out)))
 have hq2 : w.heap.size < w2.heap.size := Nat.lt_of_lt_of_le Hs1.out hb2.size
 clear hb2 Hck Hs1 Hbox
 have hx2 : w2.cell? ⟨w.heap.size, 0, none⟩ = some (.slice (some ⟨b, 0, none⟩) 3 c) := by rw [cRw hbx]; rfl
 obtain ⟨q, hq⟩ : ∃ q, q = w.heap.size := ⟨_, rfl⟩
 rw [← hq] at hx2 hq2 ⊢
 have Hq := hQ hq; clear hq hbx
 go_wp2_with fail
 refine (leaves_3 _ _ _).mono ?_
 rintro e w3 ⟨rfl, hb3⟩
 have hx3 := (hb3.cell (p := ⟨q, 0, none⟩) hq2).trans hx2
 have hq3 := Nat.lt_of_lt_of_le hq2 hb3.size
 have Hb3 := hQ (Hb2.out.trans (hb3.mono Hb2.out.size)); clear hb3 hx2 hq2
 have t3 := (H.out.new Hb3.out).c0
 have hp0 : (p0 == 0) = false := beq_eq_false_iff_ne.2 (by omega)
 go_wp2_with fail
 refine (leaves_3 _ _ _).mono ?_
 rintro e w4 ⟨rfl, hb4⟩
 have hx4 := (hb4.cell (p := ⟨q, 0, none⟩) hq3).trans hx3
 have hq4 := Nat.lt_of_lt_of_le hq3 hb4.size
 have Hb4 := hQ (Hb3.out.trans (hb4.mono Hb3.out.size)); clear hb4 hx3 hq3 t3
 go_wp2_with fail
 refine (icopath_0 _ (He.out.below Hb4.out hsz) (Nat.le_trans hsz Hb4.out.size)).mono ?_
 intro e w5 h5
 obtain ⟨go, co, rfl, hco1, hco2, hgo, cgo, hb5⟩ := newI_one h5
 unfold maxLen at hco2
 have hx5 := (hb5.cell (p := ⟨q, 0, none⟩) hq4).trans hx4
 have hq5 := Nat.lt_of_lt_of_le hq4 hb5.size
 have Hgo := hQ hgo; clear hgo h5
 have Hb5 := hQ (Hb4.out.trans (hb5.mono Hb4.out.size)); clear hb5 hx4 hq4
 go_wp2_with fail
 refine (leaves_3 _ _ _).mono ?_
 rintro e w6 ⟨rfl, hb6⟩
 have hx6 := (hb6.cell (p := ⟨q, 0, none⟩) hq5).trans hx5
 have hq6 := Nat.lt_of_lt_of_le hq5 hb6.size
 have cg6 := (hb6.cell (p := ⟨go, 0, none⟩) Hgo.out.2).trans cgo
 have hg6 := Nat.lt_of_lt_of_le Hgo.out.2 hb6.size
 have Hb6 := hQ (Hb5.out.trans (hb6.mono Hb5.out.size)); clear hb6 hx5 hq5 cgo Hgo
 go_wp2_with fail
 refine (idirect_0 _ (He.out.below Hb6.out hsz) (Nat.le_trans hsz Hb6.out.size)).mono ?_
 rintro e w7 ⟨gd, rfl, cgd, hgd, hb7⟩
 have hx7 := (hb7.cell (p := ⟨q, 0, none⟩) hq6).trans hx6
 have hq7 := Nat.lt_of_lt_of_le hq6 hb7.size
 have cg7 := (hb7.cell (p := ⟨go, 0, none⟩) hg6).trans cg6
 have hg7 := Nat.lt_of_lt_of_le hg6 hb7.size
 have Hgd := hQ hgd; clear hgd
 have Hb7 := hQ (Hb6.out.trans (hb7.mono Hb6.out.size)); clear hb7 hx6 hq6 cg6 hg6
 have hres : ∀ W : World, Below w.heap.size w W → Calls Tryz.prog 294 #[.slice none 0 0, .agg #[.slice (some ⟨b, 0, none⟩) 3 c], .int .i64 2] W (NewI [2] W) := fun W hW => resolution_2 b c p0 m0 e0 p1 p2 m2 e2 h2 W (H.out.new hW)
 have Hres := hQ hres; clear hres
 go_wp2
 refine wp_loop_rounds 2 ?_
 rw [rounds_succ]
 go_wp2_with fail
 go_region_with (go_at_call 294; refine (Hres.out _ (by exact ⟨Hb7.out.os, Hb7.out.tape, Hb7.out.output, Hb7.out.size, Hb7.out.block⟩)).mono ?_; intro e w8 h8; obtain ⟨g2, c2, rfl, hc1, hc2, hg2, cg2, hb8x⟩ := newI_one h8; have hb8 : Below w7.heap.size w7 w8 := ⟨hb8x.os, hb8x.tape, hb8x.output, hb8x.size, hb8x.block⟩; have hg2' : w7.heap.size ≤ g2 ∧ g2 < w8.heap.size := hg2; clear h8 hb8x hg2)
 all_goals
  have Hb8 := hQ (Hb7.out.trans (hb8.mono Hb7.out.size))
  have Hg2 := hQ hg2'
  have Hs8 := hQ hb8.size
  have Hc2 := hQ (And.intro hc1 hc2)
  have Hcg := hQ cg2
  have hg2l := hg2'.2
  clear hb8 hg2' hc1 hc2 cg2 hx7 cg7
  have hnr : ∀ W : World, W.ownsRow 0 183 2 (.slice none 0 0) 0 [] := fun W => World.ownsRow_nil W 0 _ 2
  have Hnr := hQ hnr; clear hnr
  go_wp2_with (at_builtin; refine wpList_append_lies _ rfl (.tmp 57) (.tmp 61) 179 rfl 0 183 i0 (.agg #[.int .i64 0, .slice none 0 0]) 2 32 Tryz.underlying179 hi0 hz0 hz1 hz2 rfl (by decide) (.slice none 0 0) 0 [] rfl (Hnr.out _) ⟨w8.heap.size, 0, none⟩ 1 1 [.int .i64 1, .slice (some ⟨g2, 0, none⟩) 1 c2] rfl rfl (two_cells _ _ _ _) (by intro u hu; simp at hu; rcases hu with rfl | rfl <;> rfl) (by omega) (by unfold maxLen; omega) (by omega) (Nat.zero_le _) (w8.heap.size + 1) (by simp) ?_; intro gr cr w9 hown9 hgrow9 hat9 hlt9; have hgr : gr = w8.heap.size + 1 := hat9.elim (fun e => by simp [Value.ownBlock] at e) id; have hb9 := ((Below.refl w8.heap.size w8).alloc (Nat.le_refl _) (.cells #[.int .i64 1, .slice (some ⟨g2, 0, none⟩) 1 c2] 183)).grown hgrow9 (by simp) (fun k hk => by simp [Value.ownBlock] at hk); have Hrc := hQ (row_cells hown9); have Hb9 := hQ hb9; have Hgr := hQ hgr; have Hlt9 := hQ hlt9; clear hown9 hgrow9 hat9 hlt9 hgr hb9)
  rw [rounds_succ]
  go_wp2
  go_ret2
  refine ⟨gr, cr, g2, c2, rfl, Hrc.out.1, Hrc.out.2, (Hb9.out.cell (p := ⟨g2, 0, none⟩) hg2l).trans Hcg.out, ⟨?_, Hlt9.out⟩, ⟨?_, Nat.lt_of_lt_of_le hg2l Hb9.out.size⟩, Hc2.out, Hb8.out.trans (Hb9.out.mono Hb8.out.size)⟩
  · have := Hgr.out; have := Hb8.out.size; omega
  · have := Hg2.out.1; have := Hb7.out.size; omega
end
section
open Go Go.RowKit
def PathPost (w : World) (e : Ending) (w' : World) : Prop :=
 ∃ g c, e = .returned (.tuple #[.slice (some ⟨g, 0, none⟩) 1 c, .int .i64 0]) ∧ w'.cell? ⟨g, 0, none⟩ = some (.int .i64 1) ∧ (w.heap.size ≤ g ∧ g < w'.heap.size) ∧ Below w.heap.size w w'
theorem path_0 (b c : Nat) (p0 m0 e0 p1 p2 m2 e2 : Int) (h0 : 0 < p0) (h1 : 0 ≤ p1) (h2 : 0 < p2) (hm0 : 0 ≤ m0 ∧ m0 ≤ 1000) (hm2 : 0 ≤ m2 ∧ m2 ≤ 1000) (hm : m0 ≠ m2) (he0 : 0 ≤ e0 ∧ e0 ≤ 1000) (he2 : 0 ≤ e2 ∧ e2 ≤ 1000) (w : World) (he : TzEnv w) (hsz : 3 ≤ w.heap.size) (h : T3 w b p0 m0 e0 p1 p2 m2 e2) :
    Calls Tryz.prog 57 #[.agg #[.slice (some ⟨b, 0, none⟩) 3 c], .int .i64 0] w (PathPost w) := by
 obtain ⟨i0, hi0, hz0, hz1, hz2⟩ := info_parts infoI
 have hb1 := (Below.refl w.heap.size w).alloc (Nat.le_refl _) (.cells #[.slice (some ⟨b, 0, none⟩) 3 c] 44)
 have hrows := rows_0 b c p0 m0 e0 p1 p2 m2 e2 h0 h1 h2 hm0 hm2 hm he0 he2 _ (he.below hb1 hsz) (Nat.le_trans hsz hb1.size) (h.new hb1)
 have Hrows := hQ hrows; clear hrows
 have Hb1 := hQ hb1; clear hb1
 clear h he h0 h1 h2 hm0 hm2 hm he0 he2
 go_enter Tryz.func57, Tryz.ntmps57
 go_wp2_with fail
 refine Hrows.out.mono ?_
 rintro e w2 ⟨gr, cr, g2, c2, rfl, k0, k1, _, hgr, hg2, _, hb2⟩
 have hgl := hgr.2
 have Hb2 := hQ (Hb1.out.trans (hb2.mono Hb1.out.size)); clear hb2 hgr hg2
 go_wp2
 refine wp_loop_rounds 2 ?_
 rw [rounds_succ]
 have hn1 : ∀ W : World, OwnI (.slice none 0 0) [] W := ownI_nil
 have Hn1 := hQ hn1; clear hn1
 have hb3 := (Hb2.out.alloc Hb2.out.size (.cells #[.int .i64 1, .slice (some ⟨g2, 0, none⟩) 1 c2] 183))
 have hb4 := hb3.alloc hb3.size (.cells #[.int .i64 1] 3)
 have Hb4 := hQ hb4; clear hb3 hb4
 go_wp2_with (at_builtin; refine wpList_append_lies _ rfl (.tmp 23) (.tmp 26) 27 rfl 0 3 i0 (.int .i64 0) 1 8 Tryz.underlying27 hi0 hz0 hz1 hz2 rfl (by decide) (.slice none 0 0) 0 [] rfl (Hn1.out _) ⟨w2.heap.size + 1, 0, none⟩ 1 1 [intV 1] rfl rfl (by intro j u hj; have h9 := cell_one_new (w2.alloc (.cells #[.int .i64 1, .slice (some ⟨g2, 0, none⟩) 1 c2] 183)) (intV 1) 3 j u hj; simpa [intV] using h9) (by intro u hu; simp [intV] at hu; rw [hu]; rfl) (by omega) (by unfold maxLen; omega) (by omega) (Nat.zero_le _) (w2.heap.size + 1 + 1) (by simp) ?_; intro g5 c5 w5 hown5 hgrow5 hat5 hlt5; have hg5 : g5 = w2.heap.size + 1 + 1 := hat5.elim (fun e => by simp [Value.ownBlock] at e) id; have hb5 := Hb4.out.grown hgrow5 Hb4.out.size (fun k hk => by simp [Value.ownBlock] at hk); have Hown5 := hQ hown5; clear hown5; have Hb5 := hQ hb5; clear hb5; have Hg5 := hQ hg5; have Hlt5 := hQ hlt5; clear hg5 hgrow5 hat5 hlt5)
 rw [rounds_succ]
 go_wp2
 go_ret2
 have hcell : w5.cell? ⟨g5, 0, none⟩ = some (.int .i64 1) := by
  obtain ⟨bb, oo, e, hc⟩ := ownI_at (l := [1]) Hown5.out 0 (by simp)
  obtain ⟨rfl, rfl⟩ : g5 = bb ∧ 0 = oo := by simpa using e
  exact hc
 exact ⟨g5, c5, rfl, hcell, ⟨by have := Hg5.out; have := Hb2.out.size; omega, Hlt5.out⟩, Hb5.out⟩
end
section
open Go Go.RowKit
theorem index_none (x : Int) (w : World) : Calls Tryz.prog 296 #[.slice none 0 0, .int .i64 x] w fun e w' => e = .returned (.int .i64 (-1)) ∧ w' = w := by
 go_enter Tryz.func296, Tryz.ntmps296
 go_wp2
 refine wp_loop_rounds 1 ?_
 rw [rounds_succ]
 go_wp2
 go_ret
 exact ⟨rfl, rfl⟩
theorem contains_none (x : Int) (w : World) : Calls Tryz.prog 203 #[.slice none 0 0, .int .i64 x] w fun e w' => e = .returned (.bool false) ∧ w' = w := by
 have H := hQ (index_none x w)
 go_enter Tryz.func203, Tryz.ntmps203
 go_wp2_with (go_at_call 296; refine H.out.mono ?_; rintro e wx ⟨rfl, hwx⟩; subst wx)
 go_ret
 exact ⟨rfl, rfl⟩
theorem targ_fn (q : Nat) (w : World) (hq : w.cell? ⟨q, 0, none⟩ = some (.slice none 0 0)) :
    Calls Tryz.prog 202 #[.int .i64 2, .pointer (some ⟨q, 0, none⟩)] w fun e w' => e = .returned (.bool false) ∧ w' = w := by
 have H := hQ (contains_none 1 w)
 go_enter Tryz.func202, Tryz.ntmps202
 go_wp2_with (go_at_call 203; refine H.out.mono ?_; rintro e wx ⟨rfl, hwx⟩; subst wx)
 go_ret
 exact ⟨rfl, rfl⟩
theorem indexf_one (g c q : Nat) (w : World) (h : w.cell? ⟨g, 0, none⟩ = some (.int .i64 2)) (hq : w.cell? ⟨q, 0, none⟩ = some (.slice none 0 0)) :
    Calls Tryz.prog 295 #[.slice (some ⟨g, 0, none⟩) 1 c, .func (.func 202) #[] #[.pointer (some ⟨q, 0, none⟩)]] w fun e w' => e = .returned (.int .i64 (-1)) ∧ w' = w := by
 have H := hQ (targ_fn q w hq)
 go_enter Tryz.func295, Tryz.ntmps295
 go_wp2
 refine wp_loop_rounds 2 ?_
 rw [rounds_succ]
 go_wp2_with fail
 refine H.out.mono ?_
 rintro e wx ⟨rfl, hwx⟩
 subst wx
 go_wp2
 rw [rounds_succ]
 go_wp2
 go_ret
 exact ⟨rfl, rfl⟩
theorem deletef_one (g c q : Nat) (w : World) (h : w.cell? ⟨g, 0, none⟩ = some (.int .i64 2)) (hq : w.cell? ⟨q, 0, none⟩ = some (.slice none 0 0)) :
    Calls Tryz.prog 201 #[.slice (some ⟨g, 0, none⟩) 1 c, .func (.func 202) #[] #[.pointer (some ⟨q, 0, none⟩)]] w fun e w' => e = .returned (.slice (some ⟨g, 0, none⟩) 1 c) ∧ w' = w := by
 have H := hQ (indexf_one g c q w h hq)
 go_enter Tryz.func201, Tryz.ntmps201
 go_wp2_with fail
 refine H.out.mono ?_
 rintro e wx ⟨rfl, hwx⟩
 subst wx
 go_wp2
 go_ret
 exact ⟨rfl, rfl⟩
end
section
open Go Go.RowKit
theorem infoL : (Tryz.prog.info? 27).map (fun i => (i.zero, i.size, i.bytes)) = some (some (.slice none 0 0), 1, 24) := by kernel_rfl
def TargPost (w : World) (e : Ending) (w' : World) : Prop :=
 ∃ g c g2 c2, e = .returned (.tuple #[.slice (some ⟨g, 0, none⟩) 1 c, .int .i64 0]) ∧ w'.cell? ⟨g, 0, none⟩ = some (.slice (some ⟨g2, 0, none⟩) 1 c2) ∧ w'.cell? ⟨g2, 0, none⟩ = some (.int .i64 2) ∧ (w.heap.size ≤ g ∧ g < w'.heap.size) ∧ (w.heap.size ≤ g2 ∧ g2 < w'.heap.size) ∧ Below w.heap.size w w'
theorem one_cell {w : World} {g n c : Nat} {x : Value} {e : TypeId} (h : w.ownsRow 0 e 1 (.slice (some ⟨g, 0, none⟩) n c) n [x]) : w.cell? ⟨g, 0, none⟩ = some x := by
 rcases h.2 with ⟨e, _⟩ | ⟨g', cap, cur, e, _, hg, _, _, _, ht⟩
 · simp at e
 · obtain ⟨rfl, _, _⟩ : g = g' ∧ n = n ∧ c = cap := by simpa using e
   have hn : n * 1 = 1 := by have := h.1; simp at this; omega
   rw [hn] at ht
   have hc : cur[0]? = [x][0]? := by rw [← ht, List.getElem?_take, if_pos (by omega), Array.getElem?_toList]
   exact (cRw hg 0).trans hc
theorem targets_0 (b c : Nat) (p0 m0 e0 p1 p2 m2 e2 : Int) (h0 : 0 < p0) (h1 : 0 ≤ p1) (h2 : 0 < p2) (hm0 : 0 ≤ m0 ∧ m0 ≤ 1000) (hm2 : 0 ≤ m2 ∧ m2 ≤ 1000) (hm : m0 ≠ m2) (he0 : 0 ≤ e0 ∧ e0 ≤ 1000) (he2 : 0 ≤ e2 ∧ e2 ≤ 1000) (w : World) (he : TzEnv w) (hsz : 3 ≤ w.heap.size) (h : T3 w b p0 m0 e0 p1 p2 m2 e2) :
    Calls Tryz.prog 58 #[.agg #[.slice (some ⟨b, 0, none⟩) 3 c], .int .i64 0, .slice none 0 0] w (TargPost w) := by
 obtain ⟨i0, hi0, hz0, hz1, hz2⟩ := info_parts infoL
 have hb0 := (Below.refl w.heap.size w).alloc (Nat.le_refl _) (.cells #[.slice (some ⟨b, 0, none⟩) 3 c] 44)
 have hb1 := hb0.alloc hb0.size (.cells #[.slice none 0 0] 27)
 have hq1 : w.heap.size + 1 < ((w.alloc (.cells #[.slice (some ⟨b, 0, none⟩) 3 c] 44)).alloc (.cells #[.slice none 0 0] 27)).heap.size := by simp
 have hcq : ((w.alloc (.cells #[.slice (some ⟨b, 0, none⟩) 3 c] 44)).alloc (.cells #[.slice none 0 0] 27)).cell? ⟨w.heap.size + 1, 0, none⟩ = some (.slice none 0 0) := by
  simp
 have hrows := rows_0 b c p0 m0 e0 p1 p2 m2 e2 h0 h1 h2 hm0 hm2 hm he0 he2 _ (he.below hb1 hsz) (Nat.le_trans hsz hb1.size) (h.new hb1)
 have Hrows := hQ hrows; clear hrows
 have Hb1 := hQ hb1; clear hb1 hb0
 have Hcq := hQ hcq; clear hcq
 have Hq1 := hQ hq1; clear hq1
 clear h he h0 h1 h2 hm0 hm2 hm he0 he2
 go_enter Tryz.func58, Tryz.ntmps58
 go_wp2_with fail
 refine Hrows.out.mono ?_
 rintro e w2 ⟨gr, cr, g2, c2, rfl, k0, k1, k2, hgr, hg2, hc2, hb2⟩
 have hgl := hgr.2
 have hg2l := hg2.2
 obtain ⟨q, hq⟩ : ∃ q, q = w.heap.size + 1 := ⟨_, rfl⟩
 rw [← hq] at Hcq Hq1 ⊢
 have kq := (hb2.cell (p := ⟨q, 0, none⟩) Hq1.out).trans Hcq.out
 have hql := Nat.lt_of_lt_of_le Hq1.out hb2.size
 have Hg2 := hQ hg2; clear hg2
 have Hs1 := hQ Hb1.out.size
 have Hb2 := hQ (Hb1.out.trans (hb2.mono Hb1.out.size)); clear hb2 hgr hq Hcq Hq1 hc2
 go_wp2
 refine wp_loop_rounds 2 ?_
 rw [rounds_succ]
 have hb3 := (Hb2.out.alloc Hb2.out.size (.cells #[.int .i64 1, .slice (some ⟨g2, 0, none⟩) 1 c2] 183))
 have hb23 := ((Below.refl w2.heap.size w2).alloc (Nat.le_refl _) (.cells #[.int .i64 1, .slice (some ⟨g2, 0, none⟩) 1 c2] 183))
 have hdel := deletef_one g2 c2 q _ ((hb23.cell (p := ⟨g2, 0, none⟩) hg2l).trans k2) ((hb23.cell (p := ⟨q, 0, none⟩) hql).trans kq)
 have Hdel := hQ hdel; clear hdel hb23
 have hb4 := hb3.alloc hb3.size (.cells #[.slice (some ⟨g2, 0, none⟩) 1 c2] 27)
 have Hb4 := hQ hb4; clear hb3 hb4
 have hn1 : ∀ W : World, W.ownsRow 0 27 1 (.slice none 0 0) 0 [] := fun W => World.ownsRow_nil W 0 _ 1
 have Hn1 := hQ hn1; clear hn1
 go_wp2_with fail
 refine Hdel.out.mono ?_
 rintro e wx ⟨rfl, hwx⟩
 subst wx
 go_wp2_with (at_builtin; refine wpList_append_lies _ rfl (.tmp 25) (.tmp 30) 139 rfl 0 27 i0 (.slice none 0 0) 1 24 Tryz.underlying139 hi0 hz0 hz1 hz2 rfl (by decide) (.slice none 0 0) 0 [] rfl (Hn1.out _) ⟨w2.heap.size + 1, 0, none⟩ 1 1 [.slice (some ⟨g2, 0, none⟩) 1 c2] rfl rfl (by intro j u hj; have h9 := cell_one_new (w2.alloc (.cells #[.int .i64 1, .slice (some ⟨g2, 0, none⟩) 1 c2] 183)) (.slice (some ⟨g2, 0, none⟩) 1 c2) 27 j u hj; simpa using h9) (by intro u hu; simp at hu; rw [hu]; rfl) (by omega) (by unfold maxLen; omega) (by omega) (Nat.zero_le _) (w2.heap.size + 1 + 1) (by simp) ?_; intro g5 c5 w5 hown5 hgrow5 hat5 hlt5; have hg5 : g5 = w2.heap.size + 1 + 1 := hat5.elim (fun e => by simp [Value.ownBlock] at e) id; have hb5 := Hb4.out.grown hgrow5 Hb4.out.size (fun k hk => by simp [Value.ownBlock] at hk); have hb25 := (((Below.refl w2.heap.size w2).alloc (Nat.le_refl _) (.cells #[.int .i64 1, .slice (some ⟨g2, 0, none⟩) 1 c2] 183)).alloc (by simp) (.cells #[.slice (some ⟨g2, 0, none⟩) 1 c2] 27)).grown hgrow5 (by simp; omega) (fun k hk => by simp [Value.ownBlock] at hk); have Hcell := hQ (one_cell hown5); clear hown5; have Hb5 := hQ hb5; clear hb5; have Hb25 := hQ hb25; clear hb25; have Hg5 := hQ hg5; have Hlt5 := hQ hlt5; clear hg5 hgrow5 hat5 hlt5)
 rw [rounds_succ]
 go_wp2
 go_ret2
 exact ⟨g5, c5, g2, c2, rfl, Hcell.out, (Hb25.out.cell (p := ⟨g2, 0, none⟩) hg2l).trans k2, ⟨by have := Hg5.out; have := Hb2.out.size; omega, Hlt5.out⟩, ⟨by have := Hg2.out.1; have := Hs1.out; omega, Nat.lt_of_lt_of_le hg2l Hb25.out.size⟩, Hb5.out⟩
end
section
open Go Go.RowKit
theorem held_fn (s q : Nat) (F : Nat → Prop) (L : List TermD) (hl : L.length ≤ 2000000) (p m e : Int) (hp : p = 0 ∨ thereD L.length p = true) (a : Option Addr) (c : Nat) (w : World) (h : ProgStore w s F L) (hq : w.cell? ⟨q, 0, none⟩ = some (.pointer (some ⟨s, 0, none⟩))) :
    Calls Tryz.prog 184 #[.agg #[.int .i64 p, .int .i64 m, .int .i64 e, .slice a 0 c], .pointer (some ⟨q, 0, none⟩)] w fun r w' => r = .returned (.bool false) ∧ Below w.heap.size w w' := by
 have hb := (Below.refl w.heap.size w).alloc (Nat.le_refl _) (.cells #[.int .i64 p, .int .i64 m, .int .i64 e, .slice a 0 c] 125)
 have hq1 := (hb.cell (p := ⟨q, 0, none⟩) (World.block_lt_of_cell? w _ hq)).trans hq
 rcases hp with rfl | hp
 · have Hb := hQ hb; clear hb
   clear h hq
   go_enter Tryz.func184, Tryz.ntmps184
   go_wp2
   go_ret
   exact ⟨rfl, Hb.out⟩
 · have his := sis_any s F L p _ (h.new hb) hl
   rw [hp] at his
   have His := hQ his; clear his
   have hp1 := tBd hp
   have hp0 : (p == 0) = false := beq_eq_false_iff_ne.2 (by omega)
   have hp2 : ¬ p = 0 := by omega
   have Hb := hQ hb; clear hb
   clear h hq hp hp1
   go_enter Tryz.func184, Tryz.ntmps184
   go_wp2_with (go_at_call 37; refine His.out.mono ?_; rintro e w2 ⟨rfl, hb2⟩; have Hb2 := hQ (Hb.out.trans (hb2.mono Hb.out.size)); clear hb2)
   go_ret
   exact ⟨rfl, Hb2.out⟩
theorem indexf_nodes (s q b c : Nat) (F : Nat → Prop) (L : List TermD) (hl : L.length ≤ 2000000) (p0 m0 e0 p1 p2 m2 e2 : Int) (h0 : p0 = 0 ∨ thereD L.length p0 = true) (h1 : p1 = 0 ∨ thereD L.length p1 = true) (h2 : p2 = 0 ∨ thereD L.length p2 = true)
    (w : World) (h : ProgStore w s F L) (hT : T3 w b p0 m0 e0 p1 p2 m2 e2) (hq : w.cell? ⟨q, 0, none⟩ = some (.pointer (some ⟨s, 0, none⟩))) :
    Calls Tryz.prog 285 #[.slice (some ⟨b, 0, none⟩) 3 c, .func (.func 184) #[] #[.pointer (some ⟨q, 0, none⟩)]] w fun r w' => r = .returned (.int .i64 (-1)) ∧ Below w.heap.size w w' := by
 have hfn := fun (p m e : Int) (hp : p = 0 ∨ thereD L.length p = true) (a : Option Addr) (cc : Nat) (W : World) (hW : Below w.heap.size w W) => held_fn s q F L hl p m e hp a cc W (h.new hW) ((hW.cell (p := ⟨q, 0, none⟩) (World.block_lt_of_cell? w _ hq)).trans hq)
 have Hfn := hQ hfn; clear hfn h hq
 obtain ⟨a0, d0, k3⟩ := hT.c3
 have k0 := hT.c0
 have k1 := hT.c1
 have k2 := hT.c2
 have HT := hQ hT; clear hT
 have H0 := hQ h0; clear h0
 have H1 := hQ h1; clear h1
 have H2 := hQ h2; clear h2
 go_enter Tryz.func285, Tryz.ntmps285
 go_wp2
 refine wp_loop_rounds 4 ?_
 rw [rounds_succ]
 go_wp2_with fail
 refine (Hfn.out p0 m0 e0 H0.out a0 d0 w (Below.refl _ _)).mono ?_
 rintro e w1 ⟨rfl, hb1⟩
 have hT1 := HT.out.new hb1
 have Hb1 := hQ hb1; clear hb1 k0 k1 k2 k3
 obtain ⟨a1, d1, k3⟩ := hT1.c7
 have k0 := hT1.c4
 have k1 := hT1.c5
 have k2 := hT1.c6
 clear hT1
 go_wp2
 rw [rounds_succ]
 go_wp2_with fail
 refine (Hfn.out p1 0 0 H1.out a1 d1 w1 Hb1.out).mono ?_
 rintro e w2 ⟨rfl, hb2⟩
 have hb2' := Hb1.out.trans (hb2.mono Hb1.out.size)
 have hT2 := HT.out.new hb2'
 have Hb2 := hQ hb2'; clear hb2 hb2' k0 k1 k2 k3
 obtain ⟨a2, d2, k3⟩ := hT2.c11
 have k0 := hT2.c8
 have k1 := hT2.c9
 have k2 := hT2.c10
 clear hT2
 go_wp2
 rw [rounds_succ]
 go_wp2_with fail
 refine (Hfn.out p2 m2 e2 H2.out a2 d2 w2 Hb2.out).mono ?_
 rintro e w3 ⟨rfl, hb3⟩
 have Hb3 := hQ (Hb2.out.trans (hb3.mono Hb2.out.size)); clear hb3 k0 k1 k2 k3
 go_wp2
 rw [rounds_succ]
 go_wp2
 go_ret
 exact ⟨rfl, Hb3.out⟩
end
section
open Go Go.RowKit
theorem containsf_nodes (v f : Value) (w : World) (h : Calls Tryz.prog 285 #[v, f] w fun r w' => r = .returned (.int .i64 (-1)) ∧ Below w.heap.size w w') :
    Calls Tryz.prog 183 #[v, f] w fun r w' => r = .returned (.bool false) ∧ Below w.heap.size w w' := by
 have H := hQ h; clear h
 go_enter Tryz.func183, Tryz.ntmps183
 go_wp2_with fail
 refine H.out.mono ?_
 rintro e w2 ⟨rfl, hb2⟩
 have Hb2 := hQ hb2; clear hb2
 go_wp2
 go_ret
 exact ⟨rfl, Hb2.out⟩
theorem held_3 (s b c : Nat) (F : Nat → Prop) (L : List TermD) (hl : L.length ≤ 2000000) (p0 m0 e0 p1 p2 m2 e2 : Int) (g0 : thereD L.length p0 = true) (g1 : p1 = 0 ∨ thereD L.length p1 = true) (g2 : thereD L.length p2 = true)
    (hm0 : 0 ≤ m0 ∧ m0 ≤ 1000) (hm2 : 0 ≤ m2 ∧ m2 ≤ 1000) (hm : m0 ≠ m2) (he0 : 0 ≤ e0 ∧ e0 ≤ 1000) (he2 : 0 ≤ e2 ∧ e2 ≤ 1000)
    (w : World) (he : TzEnv w) (hsz : 3 ≤ w.heap.size) (h : ProgStore w s F L) (hT : T3 w b p0 m0 e0 p1 p2 m2 e2) :
    Calls Tryz.prog 46 #[.pointer (some ⟨s, 0, none⟩), .agg #[.slice (some ⟨b, 0, none⟩) 3 c]] w fun r w' => r = .returned (.bool true) ∧ Below w.heap.size w w' := by
 have hb0 := (Below.refl w.heap.size w).alloc (Nat.le_refl _) (.cells #[.pointer (some ⟨s, 0, none⟩)] 23)
 have hb1 := hb0.alloc hb0.size (.cells #[.slice (some ⟨b, 0, none⟩) 3 c] 44)
 have b0 := tBd g0
 have b2 := tBd g2
 have b1 : 0 ≤ p1 := by
  rcases g1 with e | e
  · omega
  · have := tBd e; omega
 have hck := check_3 b c p0 m0 e0 p1 p2 m2 e2 (by omega) b1 (by omega) hm0 hm2 hm he0 he2 _ (he.below hb1 hsz) (Nat.le_trans hsz hb1.size) (hT.new hb1)
 have hcq : ((w.alloc (.cells #[.pointer (some ⟨s, 0, none⟩)] 23)).alloc (.cells #[.slice (some ⟨b, 0, none⟩) 3 c] 44)).cell? ⟨w.heap.size, 0, none⟩ = some (.pointer (some ⟨s, 0, none⟩)) := by simp
 have hct : ((w.alloc (.cells #[.pointer (some ⟨s, 0, none⟩)] 23)).alloc (.cells #[.slice (some ⟨b, 0, none⟩) 3 c] 44)).cell? ⟨w.heap.size + 1, 0, none⟩ = some (.slice (some ⟨b, 0, none⟩) 3 c) := by simp
 have hsz1 : w.heap.size + 1 < ((w.alloc (.cells #[.pointer (some ⟨s, 0, none⟩)] 23)).alloc (.cells #[.slice (some ⟨b, 0, none⟩) 3 c] 44)).heap.size := by simp
 have hix := fun (W : World) (hW : Below w.heap.size w W) (hq : W.cell? ⟨w.heap.size, 0, none⟩ = some (.pointer (some ⟨s, 0, none⟩))) => indexf_nodes s w.heap.size b c F L hl p0 m0 e0 p1 p2 m2 e2 (.inr g0) g1 (.inr g2) W (h.new hW) (hT.new hW) hq
 have Hix := hQ hix; clear hix
 have Hck := hQ hck; clear hck
 have Hb1 := hQ hb1; clear hb1 hb0
 have Hcq := hQ hcq; clear hcq
 have Hct := hQ hct; clear hct
 have Hs1 := hQ hsz1; clear hsz1
 clear h hT he b0 b1 b2 g0 g1 g2 hm0 hm2 hm he0 he2
 go_enter Tryz.func46, Tryz.ntmps46
 go_wp2_with fail
 refine Hck.out.mono ?_
 rintro e w2 ⟨rfl, hb2⟩
 have ht2 := (hb2.cell (p := ⟨w.heap.size + 1, 0, none⟩) Hs1.out).trans Hct.out
 have hq2 := (hb2.cell (p := ⟨w.heap.size, 0, none⟩) (Nat.lt_trans (Nat.lt_succ_self _) Hs1.out)).trans Hcq.out
 have Hb2 := hQ (Hb1.out.trans (hb2.mono Hb1.out.size)); clear hb2
 have Hx := hQ (Hix.out w2 Hb2.out hq2)
 clear hq2
 go_wp2_with fail
 refine (containsf_nodes _ _ _ Hx.out).mono ?_
 rintro e w3 ⟨rfl, hb3⟩
 have Hb3 := hQ (Hb2.out.trans (hb3.mono Hb2.out.size)); clear hb3
 go_wp2
 go_ret
 exact ⟨rfl, Hb3.out⟩
end
section
open Go Go.RowKit
theorem eql_slice_some (x : Addr) (n c : Nat) (W : World) : (binOp .eql 27 (.slice (some x) n c) (.slice none 0 0)).run Tryz.prog W = .ok (.bool false) W := by kernel_rfl
theorem clone_some (x : Addr) (c : Nat) (w : World) :
    Calls Tryz.prog 297 #[.slice (some x) 0 c] w fun r w' => r = .returned (.slice (some ⟨w.heap.size, 0, none⟩) 0 0) ∧ w' = w.alloc (.cells #[] 3) := by
 have q := eql_slice_some x 0 c w
 go_enter Tryz.func297, Tryz.ntmps297
 go_wp2
 go_ret
 exact ⟨rfl, rfl⟩
end
section
open Go Go.RowKit
theorem leafed_0 (b c : Nat) (p0 m0 e0 p1 p2 m2 e2 : Int) (h0 : 0 < p0) (h1 : 0 ≤ p1) (h2 : 0 < p2) (hm0 : 0 ≤ m0 ∧ m0 ≤ 1000) (hm2 : 0 ≤ m2 ∧ m2 ≤ 1000) (hm : m0 ≠ m2) (he0 : 0 ≤ e0 ∧ e0 ≤ 1000) (he2 : 0 ≤ e2 ∧ e2 ≤ 1000) (w : World) (he : TzEnv w) (hsz : 3 ≤ w.heap.size) (h : T3 w b p0 m0 e0 p1 p2 m2 e2) :
    Calls Tryz.prog 178 #[.agg #[.slice (some ⟨b, 0, none⟩) 3 c], .int .i64 0] w fun r w' => r = .returned (.bool true) ∧ Below w.heap.size w w' := by
 have hb1 := (Below.refl w.heap.size w).alloc (Nat.le_refl _) (.cells #[.slice (some ⟨b, 0, none⟩) 3 c] 44)
 have hs1 : w.heap.size < (w.alloc (.cells #[.slice (some ⟨b, 0, none⟩) 3 c] 44)).heap.size := by simp
 have hct : (w.alloc (.cells #[.slice (some ⟨b, 0, none⟩) 3 c] 44)).cell? ⟨w.heap.size, 0, none⟩ = some (.slice (some ⟨b, 0, none⟩) 3 c) := by simp
 have hsize := size_3 b c p0 m0 e0 p1 p2 m2 e2 h0 h1 h2 hm0 hm2 hm he0 he2 _ (he.below hb1 hsz) (Nat.le_trans hsz hb1.size) (h.new hb1)
 have Hsize := hQ hsize; clear hsize
 have Hb1 := hQ hb1; clear hb1
 have Hs1 := hQ hs1; clear hs1
 have Hct := hQ hct; clear hct
 have H := hQ h; clear h
 have hp : (p0 == 0) = false := beq_eq_false_iff_ne.2 (by omega)
 have hp2 : ¬ p0 = 0 := by omega
 have hpn : (p0 != 0) = true := by simp [hp2]
 clear he h0 h1 h2 hm0 hm2 hm he0 he2
 go_enter Tryz.func178, Tryz.ntmps178
 go_wp2_with fail
 refine Hsize.out.mono ?_
 rintro e w2 ⟨rfl, hb2⟩
 have ht2 := (hb2.cell (p := ⟨w.heap.size, 0, none⟩) Hs1.out).trans Hct.out
 have Hb2 := hQ (Hb1.out.trans (hb2.mono Hb1.out.size)); clear hb2
 have k := (H.out.new Hb2.out).c0
 go_wp2
 go_ret
 exact ⟨rfl, Hb2.out⟩
theorem leafed_1 (b c : Nat) (p0 m0 e0 p1 p2 m2 e2 : Int) (h0 : 0 < p0) (h1 : 0 ≤ p1) (h2 : 0 < p2) (hm0 : 0 ≤ m0 ∧ m0 ≤ 1000) (hm2 : 0 ≤ m2 ∧ m2 ≤ 1000) (hm : m0 ≠ m2) (he0 : 0 ≤ e0 ∧ e0 ≤ 1000) (he2 : 0 ≤ e2 ∧ e2 ≤ 1000) (w : World) (he : TzEnv w) (hsz : 3 ≤ w.heap.size) (h : T3 w b p0 m0 e0 p1 p2 m2 e2) :
    Calls Tryz.prog 178 #[.agg #[.slice (some ⟨b, 0, none⟩) 3 c], .int .i64 1] w fun r w' => r = .returned (.bool true) ∧ Below w.heap.size w w' := by
 have hb1 := (Below.refl w.heap.size w).alloc (Nat.le_refl _) (.cells #[.slice (some ⟨b, 0, none⟩) 3 c] 44)
 have hs1 : w.heap.size < (w.alloc (.cells #[.slice (some ⟨b, 0, none⟩) 3 c] 44)).heap.size := by simp
 have hct : (w.alloc (.cells #[.slice (some ⟨b, 0, none⟩) 3 c] 44)).cell? ⟨w.heap.size, 0, none⟩ = some (.slice (some ⟨b, 0, none⟩) 3 c) := by simp
 have hsize := size_3 b c p0 m0 e0 p1 p2 m2 e2 h0 h1 h2 hm0 hm2 hm he0 he2 _ (he.below hb1 hsz) (Nat.le_trans hsz hb1.size) (h.new hb1)
 have Hsize := hQ hsize; clear hsize
 have Hb1 := hQ hb1; clear hb1
 have Hs1 := hQ hs1; clear hs1
 have Hct := hQ hct; clear hct
 have H := hQ h; clear h
 have hp : (p2 == 0) = false := beq_eq_false_iff_ne.2 (by omega)
 have hp2 : ¬ p2 = 0 := by omega
 have hpn : (p2 != 0) = true := by simp [hp2]
 clear he h0 h1 h2 hm0 hm2 hm he0 he2
 go_enter Tryz.func178, Tryz.ntmps178
 go_wp2_with fail
 refine Hsize.out.mono ?_
 rintro e w2 ⟨rfl, hb2⟩
 have ht2 := (hb2.cell (p := ⟨w.heap.size, 0, none⟩) Hs1.out).trans Hct.out
 have Hb2 := hQ (Hb1.out.trans (hb2.mono Hb1.out.size)); clear hb2
 have k := (H.out.new Hb2.out).c8
 go_wp2
 go_ret
 exact ⟨rfl, Hb2.out⟩
end
section
open Go Go.RowKit
theorem opened_yes (s : Nat) (F : Nat → Prop) (L : List TermD) (hl : L.length ≤ 2000000) (sl secret ta tb : Int) (h1 : getT L sl = ⟨6, 0, ta, tb⟩) (h2 : thereD L.length sl = true) (h3 : getT L ta = ⟨5, 0, secret, 0⟩) (w : World) (h : ProgStore w s F L) :
    Calls Tryz.prog 180 #[.pointer (some ⟨s, 0, none⟩), .int .i64 sl, .int .i64 secret] w fun r w' => r = .returned (.tuple #[.int .i64 tb, .bool true]) ∧ Below w.heap.size w w' := by
 have hg1 := sget_any s F L sl w h hl
 rw [h1, h2] at hg1
 have hg2 := fun W (hW : Below w.heap.size w W) => sget_any s F L ta W (h.new hW) hl
 rw [h3] at hg2
 unfold TermD.arr at hg1 hg2
 have Hg1 := hQ hg1; clear hg1
 have Hg2 := hQ hg2; clear hg2 h h1 h2 h3
 go_enter Tryz.func180, Tryz.ntmps180
 go_wp2_with fail
 refine Hg1.out.mono ?_
 rintro e w1 ⟨rfl, hb1⟩
 have hb1' := hb1.alloc hb1.size (.cells #[.int .u8 6, .int .i64 0, .int .i64 ta, .int .i64 tb] 107)
 have Hb1 := hQ hb1'; clear hb1 hb1'
 have hrow := rAl (w := w1) #[.int .u8 6, .int .i64 0, .int .i64 ta, .int .i64 tb] 107 (0, 0)
 have Hrow := hQ hrow; clear hrow
 go_wp2_with fail
 refine (Hg2.out _ Hb1.out).mono ?_
 rintro e w2 ⟨rfl, hb2⟩
 have hr2 := (hb2.block w1.heap.size (by simp)).trans Hrow.out
 have x0 : w2.cell? ⟨w1.heap.size, 0, none⟩ = some (.int .u8 6) := (cRw hr2 0).trans rfl
 have x2 : w2.cell? ⟨w1.heap.size, 2, none⟩ = some (.int .i64 ta) := (cRw hr2 2).trans rfl
 have x3 : w2.cell? ⟨w1.heap.size, 3, none⟩ = some (.int .i64 tb) := (cRw hr2 3).trans rfl
 have hlt := (Array.getElem?_eq_some_iff.1 hr2).1
 have Hb2 := hQ (Hb1.out.trans (hb2.mono Hb1.out.size)); clear hb2 hr2
 go_wp2_with fail
 have hb3 := Hb2.out.alloc Hb2.out.size (.cells #[.int .u8 5, .int .i64 0, .int .i64 secret, .int .i64 0] 107)
 have y3 : (w2.alloc (.cells #[.int .u8 5, .int .i64 0, .int .i64 secret, .int .i64 0] 107)).cell? ⟨w1.heap.size, 3, none⟩ = some (.int .i64 tb) := (((Below.refl w2.heap.size w2).alloc (Nat.le_refl _) _).cell (p := ⟨w1.heap.size, 3, none⟩) hlt).trans x3
 have Hb3 := hQ hb3; clear hb3 x0 x2 x3
 go_quiet (fail)
 go_wp2
 go_ret2
 exact ⟨rfl, bDr Hb3.out _⟩
end
section
open Go Go.RowKit
theorem eql_slice_none (c : Nat) (W : World) : (binOp .eql 27 (.slice none 0 c) (.slice none 0 0)).run Tryz.prog W = .ok (.bool true) W := by kernel_rfl
theorem clone_none (c : Nat) (w : World) :
    Calls Tryz.prog 297 #[.slice none 0 c] w fun r w' => r = .returned (.slice none 0 0) ∧ w' = w := by
 have q := eql_slice_none c w
 go_enter Tryz.func297, Tryz.ntmps297
 go_wp2
 go_ret
 exact ⟨rfl, rfl⟩
theorem clone_at (a : Option Addr) (c : Nat) (w : World) :
    Calls Tryz.prog 297 #[.slice a 0 c] w fun r w' => (∃ a' c', r = .returned (.slice a' 0 c')) ∧ Below w.heap.size w w' := by
 cases a with
 | none => exact (clone_none c w).mono fun r w' ⟨h1, h2⟩ => by subst h2; exact ⟨⟨_, _, h1⟩, Below.refl _ _⟩
 | some x => exact (clone_some x c w).mono fun r w' ⟨h1, h2⟩ => by subst h2; exact ⟨⟨_, _, h1⟩, (Below.refl _ _).alloc (Nat.le_refl _) _⟩
theorem min_one (g o c : Nat) (x : Int) (w : World) (h : w.cell? ⟨g, o, none⟩ = some (.int .i64 x)) :
    Calls Tryz.prog 204 #[.slice (some ⟨g, o, none⟩) 1 c] w fun r w' => r = .returned (.int .i64 x) ∧ w' = w := by
 go_enter Tryz.func204, Tryz.ntmps204
 go_wp2
 refine wp_loop_rounds 1 ?_
 rw [rounds_succ]
 go_wp2
 go_ret
 exact ⟨rfl, rfl⟩
theorem infoNode : (Tryz.prog.info? 125).map (fun i => (i.zero, i.size, i.bytes)) = some (some (.agg #[.int .i64 0, .int .i64 0, .int .i64 0, .slice none 0 0]), 4, 48) := by kernel_rfl
def row3 (p0 m0 e0 : Int) (v0 : Value) (p1 : Int) (v1 : Value) (p2 m2 e2 : Int) (v2 : Value) : List Value :=
 [.int .i64 p0, .int .i64 m0, .int .i64 e0, v0, .int .i64 p1, .int .i64 0, .int .i64 0, v1, .int .i64 p2, .int .i64 m2, .int .i64 e2, v2]
structure TwAt (w W : World) (g q : Nat) (l : List Value) : Prop where
 row : W.heap[g]? = some (.cells l.toArray 125 (0, 0))
 res : W.heap[q]? = some (.cells #[.slice none 0 0] 44 (0, 0))
 below : Below w.heap.size w W
theorem TwAt.step {w W W2 : World} {g q : Nat} {l : List Value} (h : TwAt w W g q l) (hb : Below W.heap.size W W2) : TwAt w W2 g q l :=
 ⟨(hb.block g (Array.getElem?_eq_some_iff.1 h.row).1).trans h.row, (hb.block q (Array.getElem?_eq_some_iff.1 h.res).1).trans h.res, h.below.trans (hb.mono h.below.size)⟩
theorem TwAt.put {w W : World} {g q : Nat} {l : List Value} (h : TwAt w W g q l) (hg : w.heap.size ≤ g) (hq : q ≠ g) (j : Nat) (v : Value) : TwAt w (W.setCell ⟨g, j, none⟩ v) g q (l.set j v) :=
 ⟨by rw [rSc h.row]; simp, (Below.heap_setCell _ _ _ _ hq).trans h.res, h.below.setCell (p := ⟨g, j, none⟩) hg v⟩
theorem TwAt.cell {w W : World} {g q : Nat} {l : List Value} (h : TwAt w W g q l) (j : Nat) : W.cell? ⟨g, j, none⟩ = l[j]? := by rw [cRw h.row, List.getElem?_toArray]
def TwinPost (w : World) (p0 m0 e0 p1 p2 m2 e2 : Int) (e : Ending) (w' : World) : Prop :=
 ∃ g, e = .returned (.agg #[.slice (some ⟨g, 0, none⟩) 3 3]) ∧ T3 w' g p0 m0 e0 p1 p2 m2 e2 ∧ w.heap.size ≤ g ∧ Below w.heap.size w w' ∧ ∃ l : List Value, w'.heap[g]? = some (.cells l.toArray 125 (0, 0)) ∧ l.length = 12
theorem make_three (W : World) : (Instr.makeSlice 42 (.int .i64 3) (.int .i64 3)).run Tryz.prog W = .ok (.slice (some ⟨W.heap.size, 0, none⟩) 3 3) (W.alloc (.cells (row3 0 0 0 (.slice none 0 0) 0 (.slice none 0 0) 0 0 0 (.slice none 0 0)).toArray 125 (0, 0))) := by kernel_rfl
theorem copy_three (w : World) (b c : Nat) (p0 m0 e0 p1 p2 m2 e2 : Int) (h : T3 w b p0 m0 e0 p1 p2 m2 e2) (o : Obj) (o2 : Value) :
    ∃ v0 v1 v2, (∃ a c, v0 = .slice a 0 c) ∧ (∃ a c, v1 = .slice a 0 c) ∧ (∃ a c, v2 = .slice a 0 c) ∧ ∃ W, (Builtin.copy_ #[42, 42] 3 #[.slice (some ⟨w.heap.size + 1 + 1, 0, none⟩) 3 3, .slice (some ⟨b, 0, none⟩) 3 c]).run Tryz.prog (((w.alloc o).alloc (.cells #[.slice none 0 0] 44)).alloc (.cells (row3 0 0 0 (.slice none 0 0) 0 (.slice none 0 0) 0 0 0 (.slice none 0 0)).toArray 125 (0, 0))) = .ok (.int .i64 3) W ∧
     TwAt w W (w.heap.size + 1 + 1) (w.heap.size + 1) (row3 p0 m0 e0 v0 p1 v1 p2 m2 e2 v2) := by
 obtain ⟨i0, hi0, hz0, hz1, hz2⟩ := info_parts infoNode
 obtain ⟨a3, c3, h3⟩ := h.c3
 obtain ⟨a7, c7, h7⟩ := h.c7
 obtain ⟨a11, c11, h11⟩ := h.c11
 have hb0 := (((Below.refl w.heap.size w).alloc (Nat.le_refl _) o).alloc (by simp) (.cells #[.slice none 0 0] 44)).alloc (by simp; omega) (.cells (row3 0 0 0 (.slice none 0 0) 0 (.slice none 0 0) 0 0 0 (.slice none 0 0)).toArray 125 (0, 0))
 have hlt := h.lt
 have hrow : (((w.alloc o).alloc (.cells #[.slice none 0 0] 44)).alloc (.cells (row3 0 0 0 (.slice none 0 0) 0 (.slice none 0 0) 0 0 0 (.slice none 0 0)).toArray 125 (0, 0))).heap[w.heap.size + 1 + 1]? = some (.cells (row3 0 0 0 (.slice none 0 0) 0 (.slice none 0 0) 0 0 0 (.slice none 0 0)).toArray 125 (0, 0)) := by
  have hsz : ((w.alloc o).alloc (.cells #[.slice none 0 0] 44)).heap.size = w.heap.size + 1 + 1 := by simp
  rw [← hsz]
  exact rAl _ _ _
 refine ⟨.slice a3 0 c3, .slice a7 0 c7, .slice a11 0 c11, ⟨_, _, rfl⟩, ⟨_, _, rfl⟩, ⟨_, _, rfl⟩, _, run_copy_any _ _ _ 125 i0 4 Tryz.underlying42 hi0 hz1 (w.heap.size + 1 + 1) 0 3 3 _ (some ⟨b, 0, none⟩) 3 c rfl _ _ hrow (row3 p0 m0 e0 (.slice a3 0 c3) p1 (.slice a7 0 c7) p2 m2 e2 (.slice a11 0 c11)) rfl ?_ (fun h => by cases h) (by simp [row3]) ?_, ⟨?_, ?_, below_setRow hb0 (by omega) _⟩⟩
 · rintro a ha j v hv
   cases ha
   have ha : (⟨b, 0, none⟩ : Addr).add j = ⟨b, j, none⟩ := by unfold Addr.add; split <;> simp_all
   rw [ha, hb0.cell (p := ⟨b, j, none⟩) hlt]
   have hj : j < 12 := by
    have := (List.getElem?_eq_some_iff.1 hv).1
    simpa [row3] using this
   have h0 := h.c0
   have h1 := h.c1
   have h2 := h.c2
   have h4 := h.c4
   have h5 := h.c5
   have h6 := h.c6
   have h8 := h.c8
   have h9 := h.c9
   have h10 := h.c10
   obtain rfl | rfl | rfl | rfl | rfl | rfl | rfl | rfl | rfl | rfl | rfl | rfl : j = 0 ∨ j = 1 ∨ j = 2 ∨ j = 3 ∨ j = 4 ∨ j = 5 ∨ j = 6 ∨ j = 7 ∨ j = 8 ∨ j = 9 ∨ j = 10 ∨ j = 11 := by omega
   all_goals (simp [row3] at hv; subst hv; assumption)
 · intro v hv
   simp [row3] at hv
   rcases hv with rfl | rfl | rfl | rfl | rfl | rfl | rfl | rfl | rfl | rfl | rfl | rfl <;> rfl
 · rw [row_setRow hrow]
   rfl
 · rw [setRow_other _ _ _ _ (by omega)]
   rw [heap_alloc_old _ _ (by simp)]
   have := rAl (w := w.alloc o) #[.slice none 0 0] 44 (0, 0)
   simpa using this
theorem twin_3 (b c : Nat) (p0 m0 e0 p1 p2 m2 e2 : Int) (w : World) (h : T3 w b p0 m0 e0 p1 p2 m2 e2) :
    Calls Tryz.prog 205 #[.agg #[.slice (some ⟨b, 0, none⟩) 3 c], .int .i64 2] w (TwinPost w p0 m0 e0 p1 p2 m2 e2) := by
 have mk3 := make_three ((w.alloc (.cells #[.slice (some ⟨b, 0, none⟩) 3 c] 44)).alloc (.cells #[.slice none 0 0] 44))
 obtain ⟨v0, v1, v2, ⟨a0, c0, rfl⟩, ⟨a1, c1, rfl⟩, ⟨a2, c2, rfl⟩, W, hcp, hW⟩ := copy_three w b c p0 m0 e0 p1 p2 m2 e2 h (.cells #[.slice (some ⟨b, 0, none⟩) 3 c] 44) (.slice none 0 0)
 have HW := hQ hW; clear hW h
 go_enter Tryz.func205, Tryz.ntmps205
 go_wp2
 clear hcp mk3
 obtain ⟨q, hq⟩ : ∃ q, q = w.heap.size + 1 := ⟨_, rfl⟩
 obtain ⟨g, hg⟩ : ∃ g, g = w.heap.size + 1 + 1 := ⟨_, rfl⟩
 rw [← hq] at HW ⊢
 rw [show q + 1 = g by omega] at HW ⊢
 have Hqg := hQ (show q ≠ g ∧ w.heap.size ≤ g by omega)
 have HQ := hQ (show w.heap.size ≤ q by omega); clear hq hg
 refine wp_loop_rounds 4 ?_
 rw [rounds_succ]
 have k : W.cell? ⟨g, 3, none⟩ = some (.slice a0 0 c0) := HW.out.cell 3
 go_wp2_with fail
 refine (clone_at _ _ _).mono ?_
 rintro e w2 ⟨⟨a, c, rfl⟩, hb2⟩
 have h2 := HW.out.step hb2
 have H3 := hQ (h2.put Hqg.out.2 Hqg.out.1 3 (.slice a 0 c))
 have f := fRw h2.row 3
 have kk : w2.cell? ⟨g, 3, none⟩ = some (.slice a0 0 c0) := h2.cell 3
 clear HW h2 k
 go_wp2_with fail
 obtain ⟨w3, hw3⟩ : ∃ w3, w3 = w2.setCell ⟨g, 3, none⟩ (.slice a 0 c) := ⟨_, rfl⟩
 rw [← hw3] at H3 ⊢
 clear hw3 hb2 f kk
 rw [rounds_succ]
 have k : w3.cell? ⟨g, 7, none⟩ = some (.slice a1 0 c1) := H3.out.cell 7
 go_wp2_with fail
 refine (clone_at _ _ _).mono ?_
 rintro e w4 ⟨⟨a', c', rfl⟩, hb4⟩
 have h4 := H3.out.step hb4
 have H5 := hQ (h4.put Hqg.out.2 Hqg.out.1 7 (.slice a' 0 c'))
 have f := fRw h4.row 7
 have kk : w4.cell? ⟨g, 7, none⟩ = some (.slice a1 0 c1) := h4.cell 7
 clear H3 h4 k
 go_wp2_with fail
 obtain ⟨w5, hw5⟩ : ∃ w5, w5 = w4.setCell ⟨g, 7, none⟩ (.slice a' 0 c') := ⟨_, rfl⟩
 rw [← hw5] at H5 ⊢
 clear hw5 hb4 f kk
 rw [rounds_succ]
 have k : w5.cell? ⟨g, 11, none⟩ = some (.slice a2 0 c2) := H5.out.cell 11
 go_wp2_with fail
 refine (clone_at _ _ _).mono ?_
 rintro e w6 ⟨⟨a'', c'', rfl⟩, hb6⟩
 have h6 := H5.out.step hb6
 have H7 := hQ (h6.put Hqg.out.2 Hqg.out.1 11 (.slice a'' 0 c''))
 have f := fRw h6.row 11
 have kk : w6.cell? ⟨g, 11, none⟩ = some (.slice a2 0 c2) := h6.cell 11
 clear H5 h6 k
 go_wp2_with fail
 obtain ⟨w7, hw7⟩ : ∃ w7, w7 = w6.setCell ⟨g, 11, none⟩ (.slice a'' 0 c'') := ⟨_, rfl⟩
 rw [← hw7] at H7 ⊢
 clear hw7 hb6 f kk
 rw [rounds_succ]
 have k : w7.cell? ⟨q, 0, none⟩ = some (.slice none 0 0) := cRw H7.out.res 0
 have f := fRw H7.out.res 0
 go_wp2
 refine bodyPost_ret_by (results_cell_row rfl _ _ q _ #[.slice (some ⟨g, 0, none⟩) 3 3] (0, 0) _ rfl (by exact rSc H7.out.res 0 _) Tryz.underlying44 rfl (by kernel_rfl)) rfl ?_
 have e3 : TwAt w w7 g q (row3 p0 m0 e0 (.slice a 0 c) p1 (.slice a' 0 c') p2 m2 e2 (.slice a'' 0 c'')) := H7.out
 have hTr := (Below.heap_setCell w7 ⟨q, 0, none⟩ (.slice (some ⟨g, 0, none⟩) 3 3) g (Ne.symm Hqg.out.1)).trans e3.row
 have hc : ∀ j, (w7.setCell ⟨q, 0, none⟩ (.slice (some ⟨g, 0, none⟩) 3 3)).cell? ⟨g, j, none⟩ = (row3 p0 m0 e0 (.slice a 0 c) p1 (.slice a' 0 c') p2 m2 e2 (.slice a'' 0 c''))[j]? := fun j => by rw [cRw hTr, List.getElem?_toArray]
 exact ⟨g, rfl, ⟨hc 0, hc 1, hc 2, ⟨_, _, hc 3⟩, hc 4, hc 5, hc 6, ⟨_, _, hc 7⟩, hc 8, hc 9, hc 10, ⟨_, _, hc 11⟩⟩, Hqg.out.2, e3.below.setCell (p := ⟨q, 0, none⟩) HQ.out _, _, hTr, rfl⟩
end
end Go.Proofs.YtedpljclnpiggaaGreatDoor
