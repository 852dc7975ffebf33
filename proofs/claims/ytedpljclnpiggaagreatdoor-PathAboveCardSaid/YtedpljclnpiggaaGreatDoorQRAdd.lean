/-
  The document's Add: into no tree.
-/
import Derived.Test.YtedpljclnpiggaaGreatDoorQRTree
set_option linter.unusedVariables false
set_option linter.unusedSimpArgs false
namespace Go.Proofs.YtedpljclnpiggaaGreatDoor
open Go Go.RowKit

abbrev St (w : World) (k : Nat) (o : Obj) : Prop := Stays (fun _ => False) w k o
theorem St.mk' {w : World} {k : Nat} {o : Obj} (h : w.heap[k]? = some o) : St w k o := ⟨h, fun h => h⟩
theorem Stays.put {F : Nat → Prop} {w : World} {k : Nat} {o : Obj} (h : Stays F w k o) {p : Addr} (hp : k ≠ p.block) (v : Value) : Stays F (w.setCell p v) k o := ⟨(Below.heap_setCell _ _ _ _ hp).trans h.at', h.out⟩

def RAddPost (w : World) (p m e : Int) (r : Ending) (w' : World) : Prop :=
  ∃ g c, r = .returned (.tuple #[.agg #[.slice (some ⟨g, 0, none⟩) 1 c], .int .i64 0, .int .i64 0]) ∧ T1 w' g p m e ∧ w.heap.size ≤ g ∧ Below w.heap.size w w'

theorem add_results (tmps : Array Value) (w : World) (r : Nat) (v : Value) (h4 : tmps.getD 4 undef = .pointer (some ⟨r, 0, none⟩))
    (hg : w.heap[r]? = some (.cells #[v] 44 (0, 0))) : (results Tryz.f177 tmps).run Tryz.prog w = .ok (.tuple #[.agg #[v], tmps.getD 5 undef, tmps.getD 6 undef]) w := by
  have hl := run_loadVar_row (P := Tryz.prog) w r 44 44 #[v] (0, 0) _ hg Tryz.underlying44 rfl (by kernel_rfl)
  have ha : (asAddr (.pointer (some ⟨r, 0, none⟩))).run Tryz.prog w = .ok ⟨r, 0, none⟩ w := by simp [asAddr]
  have hr : Tryz.f177.results = #[.cell 4 44, .tmp 5, .tmp 6] := by kernel_rfl
  have h4' : tmps[4]?.getD undef = .pointer (some ⟨r, 0, none⟩) := by simpa using h4
  simp only [results, hr]
  simp [Sem.run_bind, h4', ha, hl]

set_option maxRecDepth 100000 in
set_option maxHeartbeats 3200000 in
theorem radd_0 (m e p : Int) (hm : 0 ≤ m) (he : 0 ≤ e) (hp : 0 < p) (w : World) :
    Calls Tryz.prog 177 #[.agg #[.slice none 0 0], .agg #[.int .i64 m, .int .i64 e, .int .i64 p]] w (RAddPost w p m e) := by
  obtain ⟨iN, hiN, hn0, hn1, hn2⟩ := info_parts infoNode
  have hm1 : ¬ m < 0 := by omega
  have he1 : ¬ e < 0 := by omega
  have hp1 : ¬ p < 1 := by omega
  have hb1 := (((Below.refl w.heap.size w).alloc (Nat.le_refl _) (boxT (.slice none 0 0))).alloc (by simp) (.cells #[.int .i64 m, .int .i64 e, .int .i64 p] 163)).alloc (by simp; omega) (boxT (.slice none 0 0))
  have h0 : St (((w.alloc (boxT (.slice none 0 0))).alloc (.cells #[.int .i64 m, .int .i64 e, .int .i64 p] 163)).alloc (boxT (.slice none 0 0))) w.heap.size (boxT (.slice none 0 0)) := St.mk' ((heap_alloc_old _ _ (by simp <;> omega)).trans ((heap_alloc_old _ _ (by simp)).trans (row_alloc _ _ _)))
  have h1 : St (((w.alloc (boxT (.slice none 0 0))).alloc (.cells #[.int .i64 m, .int .i64 e, .int .i64 p] 163)).alloc (boxT (.slice none 0 0))) (w.heap.size + 1) (.cells #[.int .i64 m, .int .i64 e, .int .i64 p] 163 (0, 0)) := St.mk' ((heap_alloc_old _ _ (by simp)).trans (by have := row_alloc (w := w.alloc (boxT (.slice none 0 0))) #[.int .i64 m, .int .i64 e, .int .i64 p] 163 (0, 0); simpa using this))
  have h2 : St (((w.alloc (boxT (.slice none 0 0))).alloc (.cells #[.int .i64 m, .int .i64 e, .int .i64 p] 163)).alloc (boxT (.slice none 0 0))) (w.heap.size + 1 + 1) (boxT (.slice none 0 0)) := St.mk' (by have := row_alloc (w := (w.alloc (boxT (.slice none 0 0))).alloc (.cells #[.int .i64 m, .int .i64 e, .int .i64 p] 163)) #[.slice none 0 0] 44 (0, 0); simpa using this)
  have Hb1 := Lib.hid hb1; clear hb1
  have H0 := Lib.hid h0; clear h0
  have H1 := Lib.hid h1; clear h1
  have H2 := Lib.hid h2; clear h2
  go_enter Tryz.func177, Tryz.ntmps177
  go_wp2_with fail
  refine (rcheck_0 _).mono ?_
  obtain ⟨q, hq⟩ : ∃ q, q = w.heap.size := ⟨_, rfl⟩
  rw [← hq] at H0 H1 H2 ⊢
  have Hq := Lib.hid hq; clear hq
  generalize ((w.alloc (boxT (.slice none 0 0))).alloc (.cells #[.int .i64 m, .int .i64 e, .int .i64 p] 163)).alloc (boxT (.slice none 0 0)) = w1 at Hb1 H0 H1 H2 ⊢
  rintro r w2 ⟨rfl, hb⟩
  have H02 := Lib.hid (H0.out.new hb); have H12 := Lib.hid (H1.out.new hb); have H22 := Lib.hid (H2.out.new hb)
  have Hb2 := Lib.hid (Hb1.out.trans (hb.mono Hb1.out.size)); clear hb H0 H1 H2 Hb1
  have k := cell_row H02.out.at' 0
  have k0 := cell_row H12.out.at' 0
  have k1 := cell_row H12.out.at' 1
  have k2 := cell_row H12.out.at' 2
  go_wp2_with fail
  refine (rfind_0 m _).mono ?_
  rintro r w3 ⟨rfl, hb⟩
  have H03 := Lib.hid (H02.out.new hb); have H13 := Lib.hid (H12.out.new hb); have H23 := Lib.hid (H22.out.new hb)
  have Hb3 := Lib.hid (Hb2.out.trans (hb.mono Hb2.out.size)); clear hb H02 H12 H22 Hb2 k k0 k1 k2
  have k := cell_row H03.out.at' 0
  go_wp2_with fail
  refine (rtwin_0 _).mono ?_
  rintro r w4 ⟨rfl, hb⟩
  have H04 := Lib.hid (H03.out.new hb); have H14 := Lib.hid (H13.out.new hb); have H24 := Lib.hid (H23.out.new hb)
  have Hb4 := Lib.hid (Hb3.out.trans (hb.mono Hb3.out.size)); clear hb H03 H13 H23 Hb3 k
  have k := cell_row H04.out.at' 0
  have hal := (Below.refl w4.heap.size w4).alloc (Nat.le_refl _) (boxT (.slice none 0 0))
  have H74 := Lib.hid (show St (w4.alloc (boxT (.slice none 0 0))) w4.heap.size (boxT (.slice none 0 0)) from St.mk' (row_alloc _ _ _))
  have H05 := Lib.hid (H04.out.new hal); have H15 := Lib.hid (H14.out.new hal); have H25 := Lib.hid (H24.out.new hal)
  have Hb5 := Lib.hid (Hb4.out.trans (hal.mono Hb4.out.size)); clear hal
  have hql := H04.out.lt
  go_wp2_with fail
  refine (rfree_0 _).mono ?_
  obtain ⟨q7, hq7⟩ : ∃ q, q = w4.heap.size := ⟨_, rfl⟩
  have hb47 := Hb4.out.size
  rw [← hq7] at H74 hb47 ⊢
  have hqn : q + 1 + 1 < q7 := by have := H24.out.lt; omega
  have Hq7 := Lib.hid (And.intro hb47 hqn); clear hq7 hb47 hqn
  generalize w4.alloc (boxT (.slice none 0 0)) = w5 at H74 H05 H15 H25 Hb5 ⊢
  rintro r w6 ⟨rfl, hb⟩
  clear k hql H04 H14 H24 Hb4
  have H06 := Lib.hid (H05.out.new hb); have H16 := Lib.hid (H15.out.new hb); have H26 := Lib.hid (H25.out.new hb); have H76 := Lib.hid (H74.out.new hb)
  have Hb6 := Lib.hid (Hb5.out.trans (hb.mono Hb5.out.size)); clear hb H05 H15 H25 H74 Hb5
  have k := cell_row H06.out.at' 0
  go_wp2_with fail
  refine (rleaves_0 _).mono ?_
  rintro r w7 ⟨rfl, hb⟩
  have H17 := Lib.hid (H16.out.new hb); have H27 := Lib.hid (H26.out.new hb); have H77 := Lib.hid (H76.out.new hb)
  have Hb7 := Lib.hid (Hb6.out.trans (hb.mono Hb6.out.size)); clear hb H06 H16 H26 H76 Hb6 k
  have k7 := cell_row H77.out.at' 0
  have hql := H77.out.lt
  have hn1' : ∀ W : World, W.ownsRow 0 125 4 (.slice none 0 0) 0 [] := fun W => World.ownsRow_nil W 0 _ 4
  have Hn1 := Lib.hid hn1'; clear hn1'
  go_wp2_with fail
  refine wp_loop_rounds 2 ?_
  rw [rounds_succ]
  go_wp2_with (at_builtin; refine wpList_append_lies _ rfl (.tmp 71) (.tmp 73) 42 rfl 0 125 iN (.agg #[.int .i64 0, .int .i64 0, .int .i64 0, .slice none 0 0]) 4 48 Tryz.underlying42 hiN hn0 hn1 hn2 rfl (by decide) (.slice none 0 0) 0 [] rfl (Hn1.out _) ⟨w7.heap.size, 0, none⟩ 1 1 [.int .i64 0, .int .i64 0, .int .i64 0, .slice none 0 0] rfl rfl (node_cells w7 0 0 0 (.slice none 0 0) 125) (by intro u hu; simp at hu; rcases hu with rfl | rfl <;> rfl) (by omega) (by unfold maxLen; omega) (by omega) (Nat.zero_le _) (w7.heap.size + 1) (by simp) ?_; intro g8 c8 w8 hown8 hgrow8 hat8 hlt8; have hb8 := ((Below.refl w7.heap.size w7).alloc (Nat.le_refl _) (.cells #[.int .i64 0, .int .i64 0, .int .i64 0, .slice none 0 0] 125)).grown hgrow8 (by simp) (fun k hk => by simp [Value.ownBlock] at hk); have hst8 := H77.out.new hb8; have H78 := Lib.hid hst8; have k8 := cell_row hst8.at' 0; have f8 := free_row hst8.at' 0; have Hown8 := Lib.hid hown8; have Hg8 := Lib.hid (hat8.elim (fun e => by simp [Value.ownBlock] at e) id : g8 = w7.heap.size + 1); have H18 := Lib.hid (H17.out.new hb8); have H28 := Lib.hid (H27.out.new hb8); have Hb8 := Lib.hid (Hb7.out.trans (hb8.mono Hb7.out.size)); clear hown8 hgrow8 hat8 hlt8 hb8 hst8)
  have hg7 : g8 ≠ q7 := by have := Hg8.out; have := H77.out.lt; omega
  have h7g : q7 ≠ g8 := Ne.symm hg7
  have hg2 : g8 ≠ q + 1 + 1 := by have := Hg8.out; have := H27.out.lt; omega
  have hg1 : q + 1 ≠ g8 := by have := Hg8.out; have := H17.out.lt; omega
  have hq17 : q + 1 ≠ q7 := by have := Hq7.out.2; omega
  have hq27 : q + 1 + 1 ≠ q7 := by have := Hq7.out.2; omega
  have h79 : St (w8.setCell ⟨q7, 0, none⟩ (.slice (some ⟨g8, 0, none⟩) 1 c8)) q7 (boxT (.slice (some ⟨g8, 0, none⟩) 1 c8)) := St.mk' (row_setCell H78.out.at' 0 _)
  have h19 := H18.out.put (p := ⟨q7, 0, none⟩) hq17 (.slice (some ⟨g8, 0, none⟩) 1 c8)
  have h29 := H28.out.put (p := ⟨q7, 0, none⟩) hq27 (.slice (some ⟨g8, 0, none⟩) 1 c8)
  have hb9 := Hb8.out.setCell (p := ⟨q7, 0, none⟩) Hq7.out.1 (.slice (some ⟨g8, 0, none⟩) 1 c8)
  obtain ⟨cur, hg9, hcs⟩ : ∃ cur : Array Value, (w8.setCell ⟨q7, 0, none⟩ (.slice (some ⟨g8, 0, none⟩) 1 c8)).heap[g8]? = some (.cells cur 125 (0, 0)) ∧ 4 ≤ cur.size := by
    rcases Hown8.out.2 with ⟨e1, _⟩ | ⟨g', cap, cur, e1, _, hg, h1, _, hsz, _⟩
    · simp at e1
    · obtain ⟨rfl, rfl⟩ : g8 = g' ∧ c8 = cap := by simpa using e1
      exact ⟨cur, (Below.heap_setCell w8 ⟨q7, 0, none⟩ _ g8 hg7).trans hg, by omega⟩
  generalize w8.setCell ⟨q7, 0, none⟩ (.slice (some ⟨g8, 0, none⟩) 1 c8) = w9 at h79 h19 h29 hb9 hg9 ⊢
  have hgw : w.heap.size ≤ g8 := by have := Hg8.out; have := Hb7.out.size; omega
  clear k7 k8 f8 hql H17 H27 H77 H18 H28 H78 Hown8 Hb7 Hb8 Hg8
  have k7 := cell_row h79.at' 0
  have k0 := cell_row h19.at' 0
  have k1 := cell_row h19.at' 1
  have k2 := cell_row h19.at' 2
  have hcj : ∀ j, j < 4 → ∃ v, w9.cell? ⟨g8, j, none⟩ = some v := fun j hj => ⟨_, (cell_row hg9 j).trans (Array.getElem?_eq_getElem (by omega))⟩
  obtain ⟨v0, y0⟩ := hcj 0 (by omega)
  obtain ⟨v1, y1⟩ := hcj 1 (by omega)
  obtain ⟨v2, y2⟩ := hcj 2 (by omega)
  obtain ⟨v3, y3⟩ := hcj 3 (by omega)
  have z0 := free_row hg9 0
  have z1 := free_row hg9 1
  have z2 := free_row hg9 2
  have z3 := free_row hg9 3
  have h10 : OutAt w9 ((((w9.setCell ⟨g8, 0, none⟩ (.int .i64 p)).setCell ⟨g8, 1, none⟩ (.int .i64 m)).setCell ⟨g8, 2, none⟩ (.int .i64 e)).setCell ⟨g8, 3, none⟩ (.slice none 0 0)) g8 _ := (((OutAt.put ⟨hg9, Turned.refl _ _⟩ 0 (.int .i64 p)).put 1 (.int .i64 m)).put 2 (.int .i64 e)).put 3 (.slice none 0 0)
  have H10 := Lib.hid h10
  have H79 := Lib.hid h79
  have H29 := Lib.hid h29
  have Hb9 := Lib.hid hb9
  have Hcs := Lib.hid hcs
  have Hgw := Lib.hid hgw
  clear h10 h79 h29 h19 hb9 hg9 hcs hcj hgw
  rw [rounds_succ]
  go_wp2_with fail
  refine (rleaves_1 _ _ _).mono ?_
  rintro r w11 ⟨rfl, hb⟩
  have H11 := Lib.hid (H10.out.step hb); clear hb H10 k7 k0 k1 k2 y0 y1 y2 y3 z0 z1 z2 z3
  go_wp2_with (go_at_call 196; refine (rdirect_01 _).mono ?_; rintro r wx ⟨rfl, hwx⟩; subst wx)
  refine wp_loop_rounds 1 ?_
  rw [rounds_succ]
  have k7 := cell_row ((H11.out.turned.block q7 H79.out.lt (Ne.symm hg7)).trans H79.out.at') 0
  have hr2 := (H11.out.turned.block (q + 1 + 1) H29.out.lt (Ne.symm hg2)).trans H29.out.at'
  have kr := cell_row hr2 0
  have fr := free_row hr2 0
  have Hr2 := Lib.hid hr2; clear hr2
  go_wp2
  refine bodyPost_ret_by (add_results _ _ (q + 1 + 1) _ rfl (row_setCell Hr2.out 0 _)) rfl ?_
  have hrow := (Below.heap_setCell w11 ⟨q + 1 + 1, 0, none⟩ (.slice (some ⟨g8, 0, none⟩) 1 c8) g8 hg2).trans H11.out.row
  have hc := fun j => cell_row hrow j
  have hcs := Hcs.out
  have hb11 := Hb9.out.trans ((H11.out.turned.below (B := w.heap.size) Hb9.out.size (fun k hk => by rw [hk]; exact Hgw.out)))
  refine ⟨g8, c8, rfl, ⟨?_, ?_, ?_, ?_⟩, Hgw.out, hb11.setCell (p := ⟨q + 1 + 1, 0, none⟩) (by have := Hq.out; simp only; omega) _⟩
  · rw [hc 0]; simp [Array.getElem?_setIfInBounds, show 0 < cur.size by omega, show 1 < cur.size by omega, show 2 < cur.size by omega, show 3 < cur.size by omega]
  · rw [hc 1]; simp [Array.getElem?_setIfInBounds, show 0 < cur.size by omega, show 1 < cur.size by omega, show 2 < cur.size by omega, show 3 < cur.size by omega]
  · rw [hc 2]; simp [Array.getElem?_setIfInBounds, show 0 < cur.size by omega, show 1 < cur.size by omega, show 2 < cur.size by omega, show 3 < cur.size by omega]
  · rw [hc 3]; simp [Array.getElem?_setIfInBounds, show 0 < cur.size by omega, show 1 < cur.size by omega, show 2 < cur.size by omega, show 3 < cur.size by omega]
end Go.Proofs.YtedpljclnpiggaaGreatDoor
