/-
  tree.twin at a tree of three nodes; slices.Min of one number.
-/
import Derived.Test.YtedpljclnpiggaaGreatDoorQLeafed
import Derived.Test.YtedpljclnpiggaaGreatDoorMem
set_option linter.unusedVariables false
set_option linter.unusedSimpArgs false
namespace Go.Proofs.YtedpljclnpiggaaGreatDoor
open Go Go.RowKit

theorem eql_slice_none (c : Nat) (W : World) : (binOp .eql 27 (.slice none 0 c) (.slice none 0 0)).run Tryz.prog W = .ok (.bool true) W := by kernel_rfl

set_option maxRecDepth 100000 in
theorem clone_none (c : Nat) (w : World) :
    Calls Tryz.prog 297 #[.slice none 0 c] w fun r w' => r = .returned (.slice none 0 0) ∧ w' = w := by
  have q := eql_slice_none c w
  go_enter Tryz.func297, Tryz.ntmps297
  go_wp2
  go_ret
  exact ⟨rfl, rfl⟩

theorem clone_at (a : Option Addr) (c : Nat) (w : World) :
    Calls Tryz.prog 297 #[.slice a 0 c] w fun r w' => (∃ a' c', r = .returned (.slice a' 0 c')) ∧ Below w.heap.size w w' := by
  cases a with
  | none => exact (clone_none c w).mono fun r w' ⟨h1, h2⟩ => by subst h2; exact ⟨⟨_, _, h1⟩, Below.refl _ _⟩
  | some x => exact (clone_some x c w).mono fun r w' ⟨h1, h2⟩ => by subst h2; exact ⟨⟨_, _, h1⟩, (Below.refl _ _).alloc (Nat.le_refl _) _⟩

set_option maxRecDepth 100000 in
theorem min_one (g o c : Nat) (x : Int) (w : World) (h : w.cell? ⟨g, o, none⟩ = some (.int .i64 x)) :
    Calls Tryz.prog 204 #[.slice (some ⟨g, o, none⟩) 1 c] w fun r w' => r = .returned (.int .i64 x) ∧ w' = w := by
  go_enter Tryz.func204, Tryz.ntmps204
  go_wp2
  refine wp_loop_rounds 1 ?_
  rw [rounds_succ]
  go_wp2
  go_ret
  exact ⟨rfl, rfl⟩

theorem infoNode : (Tryz.prog.info? 125).map (fun i => (i.zero, i.size, i.bytes)) = some (some (.agg #[.int .i64 0, .int .i64 0, .int .i64 0, .slice none 0 0]), 4, 48) := by kernel_rfl

/-- The cells of three nodes. -/
def row3 (p0 m0 e0 : Int) (v0 : Value) (p1 : Int) (v1 : Value) (p2 m2 e2 : Int) (v2 : Value) : List Value :=
  [.int .i64 p0, .int .i64 m0, .int .i64 e0, v0, .int .i64 p1, .int .i64 0, .int .i64 0, v1, .int .i64 p2, .int .i64 m2, .int .i64 e2, v2]

/-- The copy under way: the block of nodes, the result's cell. -/
structure TwAt (w W : World) (g q : Nat) (l : List Value) : Prop where
  row : W.heap[g]? = some (.cells l.toArray 125 (0, 0))
  res : W.heap[q]? = some (.cells #[.slice none 0 0] 44 (0, 0))
  below : Below w.heap.size w W

theorem TwAt.step {w W W2 : World} {g q : Nat} {l : List Value} (h : TwAt w W g q l) (hb : Below W.heap.size W W2) : TwAt w W2 g q l :=
  ⟨(hb.block g (Array.getElem?_eq_some_iff.1 h.row).1).trans h.row, (hb.block q (Array.getElem?_eq_some_iff.1 h.res).1).trans h.res, h.below.trans (hb.mono h.below.size)⟩

theorem TwAt.put {w W : World} {g q : Nat} {l : List Value} (h : TwAt w W g q l) (hg : w.heap.size ≤ g) (hq : q ≠ g) (j : Nat) (v : Value) : TwAt w (W.setCell ⟨g, j, none⟩ v) g q (l.set j v) :=
  ⟨by rw [row_setCell h.row]; simp, (Below.heap_setCell _ _ _ _ hq).trans h.res, h.below.setCell (p := ⟨g, j, none⟩) hg v⟩

theorem TwAt.cell {w W : World} {g q : Nat} {l : List Value} (h : TwAt w W g q l) (j : Nat) : W.cell? ⟨g, j, none⟩ = l[j]? := by rw [cell_row h.row, List.getElem?_toArray]

def TwinPost (w : World) (p0 m0 e0 p1 p2 m2 e2 : Int) (e : Ending) (w' : World) : Prop :=
  ∃ g, e = .returned (.agg #[.slice (some ⟨g, 0, none⟩) 3 3]) ∧ T3 w' g p0 m0 e0 p1 p2 m2 e2 ∧ w.heap.size ≤ g ∧ Below w.heap.size w w' ∧ ∃ l : List Value, w'.heap[g]? = some (.cells l.toArray 125 (0, 0)) ∧ l.length = 12

theorem make_three (W : World) : (Instr.makeSlice 42 (.int .i64 3) (.int .i64 3)).run Tryz.prog W = .ok (.slice (some ⟨W.heap.size, 0, none⟩) 3 3) (W.alloc (.cells (row3 0 0 0 (.slice none 0 0) 0 (.slice none 0 0) 0 0 0 (.slice none 0 0)).toArray 125 (0, 0))) := by kernel_rfl

theorem copy_three (w : World) (b c : Nat) (p0 m0 e0 p1 p2 m2 e2 : Int) (h : T3 w b p0 m0 e0 p1 p2 m2 e2) (o : Obj) (o2 : Value) :
    ∃ v0 v1 v2, (∃ a c, v0 = .slice a 0 c) ∧ (∃ a c, v1 = .slice a 0 c) ∧ (∃ a c, v2 = .slice a 0 c) ∧ ∃ W, (Builtin.copy_ #[42, 42] 3 #[.slice (some ⟨w.heap.size + 1 + 1, 0, none⟩) 3 3, .slice (some ⟨b, 0, none⟩) 3 c]).run Tryz.prog (((w.alloc o).alloc (.cells #[.slice none 0 0] 44)).alloc (.cells (row3 0 0 0 (.slice none 0 0) 0 (.slice none 0 0) 0 0 0 (.slice none 0 0)).toArray 125 (0, 0))) = .ok (.int .i64 3) W ∧
      TwAt w W (w.heap.size + 1 + 1) (w.heap.size + 1) (row3 p0 m0 e0 v0 p1 v1 p2 m2 e2 v2) := by
  obtain ⟨i0, hi0, hz0, hz1, hz2⟩ := info_parts infoNode
  obtain ⟨a3, c3, h3⟩ := h.c3
  obtain ⟨a7, c7, h7⟩ := h.c7
  obtain ⟨a11, c11, h11⟩ := h.c11
  have hb0 := (((Below.refl w.heap.size w).alloc (Nat.le_refl _) o).alloc (by simp) (.cells #[.slice none 0 0] 44)).alloc (by simp; omega) (.cells (row3 0 0 0 (.slice none 0 0) 0 (.slice none 0 0) 0 0 0 (.slice none 0 0)).toArray 125 (0, 0))
  have hlt := h.lt
  have hrow : (((w.alloc o).alloc (.cells #[.slice none 0 0] 44)).alloc (.cells (row3 0 0 0 (.slice none 0 0) 0 (.slice none 0 0) 0 0 0 (.slice none 0 0)).toArray 125 (0, 0))).heap[w.heap.size + 1 + 1]? = some (.cells (row3 0 0 0 (.slice none 0 0) 0 (.slice none 0 0) 0 0 0 (.slice none 0 0)).toArray 125 (0, 0)) := by
    have hsz : ((w.alloc o).alloc (.cells #[.slice none 0 0] 44)).heap.size = w.heap.size + 1 + 1 := by simp
    rw [← hsz]
    exact row_alloc _ _ _
  refine ⟨.slice a3 0 c3, .slice a7 0 c7, .slice a11 0 c11, ⟨_, _, rfl⟩, ⟨_, _, rfl⟩, ⟨_, _, rfl⟩, _, run_copy_any _ _ _ 125 i0 4 Tryz.underlying42 hi0 hz1 (w.heap.size + 1 + 1) 0 3 3 _ (some ⟨b, 0, none⟩) 3 c rfl _ _ hrow (row3 p0 m0 e0 (.slice a3 0 c3) p1 (.slice a7 0 c7) p2 m2 e2 (.slice a11 0 c11)) rfl ?_ (fun h => by cases h) (by simp [row3]) ?_, ⟨?_, ?_, below_setRow hb0 (by omega) _⟩⟩
  · rintro a ha j v hv
    cases ha
    have ha : (⟨b, 0, none⟩ : Addr).add j = ⟨b, j, none⟩ := by unfold Addr.add; split <;> simp_all
    rw [ha, hb0.cell (p := ⟨b, j, none⟩) hlt]
    have hj : j < 12 := by
      have := (List.getElem?_eq_some_iff.1 hv).1
      simpa [row3] using this
    have h0 := h.c0
    have h1 := h.c1
    have h2 := h.c2
    have h4 := h.c4
    have h5 := h.c5
    have h6 := h.c6
    have h8 := h.c8
    have h9 := h.c9
    have h10 := h.c10
    obtain rfl | rfl | rfl | rfl | rfl | rfl | rfl | rfl | rfl | rfl | rfl | rfl : j = 0 ∨ j = 1 ∨ j = 2 ∨ j = 3 ∨ j = 4 ∨ j = 5 ∨ j = 6 ∨ j = 7 ∨ j = 8 ∨ j = 9 ∨ j = 10 ∨ j = 11 := by omega
    all_goals (simp [row3] at hv; subst hv; assumption)
  · intro v hv
    simp [row3] at hv
    rcases hv with rfl | rfl | rfl | rfl | rfl | rfl | rfl | rfl | rfl | rfl | rfl | rfl <;> rfl
  · rw [row_setRow hrow]
    rfl
  · rw [setRow_other _ _ _ _ (by omega)]
    rw [heap_alloc_old _ _ (by simp)]
    have := row_alloc (w := w.alloc o) #[.slice none 0 0] 44 (0, 0)
    simpa using this

set_option maxRecDepth 100000 in
set_option maxHeartbeats 1600000 in
theorem twin_3 (b c : Nat) (p0 m0 e0 p1 p2 m2 e2 : Int) (w : World) (h : T3 w b p0 m0 e0 p1 p2 m2 e2) :
    Calls Tryz.prog 205 #[.agg #[.slice (some ⟨b, 0, none⟩) 3 c], .int .i64 2] w (TwinPost w p0 m0 e0 p1 p2 m2 e2) := by
  have mk3 := make_three ((w.alloc (.cells #[.slice (some ⟨b, 0, none⟩) 3 c] 44)).alloc (.cells #[.slice none 0 0] 44))
  obtain ⟨v0, v1, v2, ⟨a0, c0, rfl⟩, ⟨a1, c1, rfl⟩, ⟨a2, c2, rfl⟩, W, hcp, hW⟩ := copy_three w b c p0 m0 e0 p1 p2 m2 e2 h (.cells #[.slice (some ⟨b, 0, none⟩) 3 c] 44) (.slice none 0 0)
  have HW := Lib.hid hW; clear hW h
  go_enter Tryz.func205, Tryz.ntmps205
  go_wp2
  clear hcp mk3
  obtain ⟨q, hq⟩ : ∃ q, q = w.heap.size + 1 := ⟨_, rfl⟩
  obtain ⟨g, hg⟩ : ∃ g, g = w.heap.size + 1 + 1 := ⟨_, rfl⟩
  rw [← hq] at HW ⊢
  rw [show q + 1 = g by omega] at HW ⊢
  have Hqg := Lib.hid (show q ≠ g ∧ w.heap.size ≤ g by omega)
  have HQ := Lib.hid (show w.heap.size ≤ q by omega); clear hq hg
  refine wp_loop_rounds 4 ?_
  rw [rounds_succ]
  have k : W.cell? ⟨g, 3, none⟩ = some (.slice a0 0 c0) := HW.out.cell 3
  go_wp2_with fail
  refine (clone_at _ _ _).mono ?_
  rintro e w2 ⟨⟨a, c, rfl⟩, hb2⟩
  have h2 := HW.out.step hb2
  have H3 := Lib.hid (h2.put Hqg.out.2 Hqg.out.1 3 (.slice a 0 c))
  have f := free_row h2.row 3
  have kk : w2.cell? ⟨g, 3, none⟩ = some (.slice a0 0 c0) := h2.cell 3
  clear HW h2 k
  go_wp2_with fail
  obtain ⟨w3, hw3⟩ : ∃ w3, w3 = w2.setCell ⟨g, 3, none⟩ (.slice a 0 c) := ⟨_, rfl⟩
  rw [← hw3] at H3 ⊢
  clear hw3 hb2 f kk
  rw [rounds_succ]
  have k : w3.cell? ⟨g, 7, none⟩ = some (.slice a1 0 c1) := H3.out.cell 7
  go_wp2_with fail
  refine (clone_at _ _ _).mono ?_
  rintro e w4 ⟨⟨a', c', rfl⟩, hb4⟩
  have h4 := H3.out.step hb4
  have H5 := Lib.hid (h4.put Hqg.out.2 Hqg.out.1 7 (.slice a' 0 c'))
  have f := free_row h4.row 7
  have kk : w4.cell? ⟨g, 7, none⟩ = some (.slice a1 0 c1) := h4.cell 7
  clear H3 h4 k
  go_wp2_with fail
  obtain ⟨w5, hw5⟩ : ∃ w5, w5 = w4.setCell ⟨g, 7, none⟩ (.slice a' 0 c') := ⟨_, rfl⟩
  rw [← hw5] at H5 ⊢
  clear hw5 hb4 f kk
  rw [rounds_succ]
  have k : w5.cell? ⟨g, 11, none⟩ = some (.slice a2 0 c2) := H5.out.cell 11
  go_wp2_with fail
  refine (clone_at _ _ _).mono ?_
  rintro e w6 ⟨⟨a'', c'', rfl⟩, hb6⟩
  have h6 := H5.out.step hb6
  have H7 := Lib.hid (h6.put Hqg.out.2 Hqg.out.1 11 (.slice a'' 0 c''))
  have f := free_row h6.row 11
  have kk : w6.cell? ⟨g, 11, none⟩ = some (.slice a2 0 c2) := h6.cell 11
  clear H5 h6 k
  go_wp2_with fail
  obtain ⟨w7, hw7⟩ : ∃ w7, w7 = w6.setCell ⟨g, 11, none⟩ (.slice a'' 0 c'') := ⟨_, rfl⟩
  rw [← hw7] at H7 ⊢
  clear hw7 hb6 f kk
  rw [rounds_succ]
  have k : w7.cell? ⟨q, 0, none⟩ = some (.slice none 0 0) := cell_row H7.out.res 0
  have f := free_row H7.out.res 0
  go_wp2
  refine bodyPost_ret_by (results_cell_row rfl _ _ q _ #[.slice (some ⟨g, 0, none⟩) 3 3] (0, 0) _ rfl (by exact row_setCell H7.out.res 0 _) Tryz.underlying44 rfl (by kernel_rfl)) rfl ?_
  have e3 : TwAt w w7 g q (row3 p0 m0 e0 (.slice a 0 c) p1 (.slice a' 0 c') p2 m2 e2 (.slice a'' 0 c'')) := H7.out
  have hTr := (Below.heap_setCell w7 ⟨q, 0, none⟩ (.slice (some ⟨g, 0, none⟩) 3 3) g (Ne.symm Hqg.out.1)).trans e3.row
  have hc : ∀ j, (w7.setCell ⟨q, 0, none⟩ (.slice (some ⟨g, 0, none⟩) 3 3)).cell? ⟨g, j, none⟩ = (row3 p0 m0 e0 (.slice a 0 c) p1 (.slice a' 0 c') p2 m2 e2 (.slice a'' 0 c''))[j]? := fun j => by rw [cell_row hTr, List.getElem?_toArray]
  exact ⟨g, rfl, ⟨hc 0, hc 1, hc 2, ⟨_, _, hc 3⟩, hc 4, hc 5, hc 6, ⟨_, _, hc 7⟩, hc 8, hc 9, hc 10, ⟨_, _, hc 11⟩⟩, Hqg.out.2, e3.below.setCell (p := ⟨q, 0, none⟩) HQ.out _, _, hTr, rfl⟩
end Go.Proofs.YtedpljclnpiggaaGreatDoor
