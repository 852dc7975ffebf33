/-
  The document's trees: none, and of one leaf.
-/
import Derived.Test.YtedpljclnpiggaaGreatDoorQRIdx
set_option linter.unusedVariables false
set_option linter.unusedSimpArgs false
namespace Go.Proofs.YtedpljclnpiggaaGreatDoor
open Go Go.RowKit

/-- A tree of one leaf. -/
structure T1 (w : World) (b : Nat) (p m e : Int) : Prop where
  c0 : w.cell? ⟨b, 0, none⟩ = some (.int .i64 p)
  c1 : w.cell? ⟨b, 1, none⟩ = some (.int .i64 m)
  c2 : w.cell? ⟨b, 2, none⟩ = some (.int .i64 e)
  c3 : w.cell? ⟨b, 3, none⟩ = some (.slice none 0 0)
theorem T1.lt {w : World} {b : Nat} {p m e : Int} (h : T1 w b p m e) : b < w.heap.size := World.block_lt_of_cell? w _ h.c0
theorem T1.new {w w' : World} {b : Nat} {p m e : Int} (h : T1 w b p m e) (hb : Below w.heap.size w w') : T1 w' b p m e :=
  have hc : ∀ j, w'.cell? ⟨b, j, none⟩ = w.cell? ⟨b, j, none⟩ := fun j => hb.cell (p := ⟨b, j, none⟩) h.lt
  ⟨(hc 0).trans h.c0, (hc 1).trans h.c1, (hc 2).trans h.c2, (hc 3).trans h.c3⟩

abbrev boxT (v : Value) : Obj := .cells #[v] 44 (0, 0)

set_option maxRecDepth 100000 in
theorem rleaves_0 (w : World) : Calls Tryz.prog 191 #[.agg #[.slice none 0 0]] w fun e w' => e = .returned (.int .i64 0) ∧ Below w.heap.size w w' := by
  have Hb := Lib.hid ((Below.refl w.heap.size w).alloc (Nat.le_refl _) (boxT (.slice none 0 0)))
  go_enter Tryz.func191, Tryz.ntmps191
  go_wp2
  refine wp_loop_rounds 5 ?_
  rw [rounds_succ]
  go_wp2
  rw [rounds_succ]
  go_wp2
  rw [rounds_succ]
  go_wp2
  rw [rounds_succ]
  go_wp2
  rw [rounds_succ]
  go_wp2
  go_ret
  exact ⟨rfl, Hb.out⟩

set_option maxRecDepth 100000 in
theorem rleaves_1 (a : Option Addr) (c : Nat) (w : World) : Calls Tryz.prog 191 #[.agg #[.slice a 1 c]] w fun e w' => e = .returned (.int .i64 1) ∧ Below w.heap.size w w' := by
  have Hb := Lib.hid ((Below.refl w.heap.size w).alloc (Nat.le_refl _) (boxT (.slice a 1 c)))
  go_enter Tryz.func191, Tryz.ntmps191
  go_wp2
  refine wp_loop_rounds 1 ?_
  rw [rounds_succ]
  go_wp2
  go_ret
  exact ⟨rfl, Hb.out⟩

set_option maxRecDepth 100000 in
theorem rleaves_3 (a : Option Addr) (c : Nat) (w : World) : Calls Tryz.prog 191 #[.agg #[.slice a 3 c]] w fun e w' => e = .returned (.int .i64 2) ∧ Below w.heap.size w w' := by
  have Hb := Lib.hid ((Below.refl w.heap.size w).alloc (Nat.le_refl _) (boxT (.slice a 3 c)))
  go_enter Tryz.func191, Tryz.ntmps191
  go_wp2
  refine wp_loop_rounds 2 ?_
  rw [rounds_succ]
  go_wp2
  rw [rounds_succ]
  go_wp2
  go_ret
  exact ⟨rfl, Hb.out⟩

set_option maxRecDepth 100000 in
theorem rcheck_0 (w : World) : Calls Tryz.prog 50 #[.agg #[.slice none 0 0]] w fun e w' => e = .returned (.int .i64 0) ∧ Below w.heap.size w w' := by
  have Hb := Lib.hid ((Below.refl w.heap.size w).alloc (Nat.le_refl _) (boxT (.slice none 0 0)))
  go_enter Tryz.func50, Tryz.ntmps50
  go_wp2
  go_ret
  exact ⟨rfl, Hb.out⟩

set_option maxRecDepth 100000 in
theorem rfind_0 (m : Int) (w : World) : Calls Tryz.prog 279 #[.agg #[.slice none 0 0], .int .i64 m] w fun e w' => e = .returned (.int .i64 (-1)) ∧ Below w.heap.size w w' := by
  have Hb := Lib.hid ((Below.refl w.heap.size w).alloc (Nat.le_refl _) (boxT (.slice none 0 0)))
  have hrow := row_alloc (w := w) #[.slice none 0 0] 44 (0, 0)
  have hs : w.heap.size < (w.alloc (boxT (.slice none 0 0))).heap.size := by simp
  have Hrow := Lib.hid hrow; clear hrow
  have Hs := Lib.hid hs; clear hs
  go_enter Tryz.func279, Tryz.ntmps279
  go_wp2_with fail
  refine (rcheck_0 _).mono ?_
  rintro e w2 ⟨rfl, hb2⟩
  have k := cell_row ((hb2.block w.heap.size Hs.out).trans Hrow.out) 0
  have Hb2 := Lib.hid (Hb.out.trans (hb2.mono (Nat.le_of_lt Hs.out))); clear hb2
  go_wp2
  refine wp_loop_rounds 1 ?_
  rw [rounds_succ]
  go_wp2
  go_ret
  exact ⟨rfl, Hb2.out⟩

set_option maxRecDepth 100000 in
theorem rfree_0 (w : World) : Calls Tryz.prog 280 #[.agg #[.slice none 0 0]] w fun e w' => e = .returned (.int .i64 (-1)) ∧ Below w.heap.size w w' := by
  have Hb := Lib.hid ((Below.refl w.heap.size w).alloc (Nat.le_refl _) (boxT (.slice none 0 0)))
  go_enter Tryz.func280, Tryz.ntmps280
  go_wp2
  refine wp_loop_rounds 1 ?_
  rw [rounds_succ]
  go_wp2
  go_ret
  exact ⟨rfl, Hb.out⟩

set_option maxRecDepth 100000 in
theorem rtwin_0 (w : World) : Calls Tryz.prog 211 #[.agg #[.slice none 0 0]] w fun e w' => e = .returned (.agg #[.slice none 0 0]) ∧ Below w.heap.size w w' := by
  have Hb := Lib.hid ((Below.refl w.heap.size w).alloc (Nat.le_refl _) (boxT (.slice none 0 0)))
  go_enter Tryz.func211, Tryz.ntmps211
  go_wp2
  refine wp_loop_rounds 1 ?_
  rw [rounds_succ]
  go_wp2
  refine bodyPost_ret_by (results_cell_row rfl _ _ (w.heap.size + 1) _ #[.slice none 0 0] (0, 0) _ rfl (by have := row_alloc (w := w.alloc (boxT (.slice none 0 0))) #[.slice none 0 0] 44 (0, 0); simpa using this) Tryz.underlying44 rfl (by kernel_rfl)) rfl ?_
  exact ⟨rfl, Hb.out.alloc Hb.out.size _⟩

set_option maxRecDepth 100000 in
theorem rfree_1 (b c : Nat) (p m e : Int) (hp : 0 < p) (w : World) (h : T1 w b p m e) : Calls Tryz.prog 280 #[.agg #[.slice (some ⟨b, 0, none⟩) 1 c]] w fun e w' => e = .returned (.int .i64 (-1)) ∧ Below w.heap.size w w' := by
  have hb := (Below.refl w.heap.size w).alloc (Nat.le_refl _) (boxT (.slice (some ⟨b, 0, none⟩) 1 c))
  have k := (h.new hb).c0
  have hp0 : (p == 0) = false := beq_eq_false_iff_ne.2 (by omega)
  have Hb := Lib.hid hb; clear hb h
  go_enter Tryz.func280, Tryz.ntmps280
  go_wp2
  refine wp_loop_rounds 2 ?_
  rw [rounds_succ]
  go_wp2
  rw [rounds_succ]
  go_wp2
  go_ret
  exact ⟨rfl, Hb.out⟩

set_option maxRecDepth 100000 in
theorem rsome_1 (b c : Nat) (p m e : Int) (hp : 0 < p) (w : World) (h : T1 w b p m e) : Calls Tryz.prog 195 #[.agg #[.slice (some ⟨b, 0, none⟩) 1 c], .int .i64 0] w fun e w' => e = .returned (.bool true) ∧ Below w.heap.size w w' := by
  have hb := (Below.refl w.heap.size w).alloc (Nat.le_refl _) (boxT (.slice (some ⟨b, 0, none⟩) 1 c))
  have k := (h.new hb).c0
  have hp0 : (p == 0) = false := beq_eq_false_iff_ne.2 (by omega)
  have hp1 : (p != 0) = true := by simp [bne, hp0]
  have Hb := Lib.hid hb; clear hb h
  go_enter Tryz.func195, Tryz.ntmps195
  go_wp2
  refine wp_loop_rounds 1 ?_
  rw [rounds_succ]
  go_wp2
  go_ret
  exact ⟨rfl, Hb.out⟩

set_option maxRecDepth 100000 in
theorem rtwice_1 (a : Option Addr) (c : Nat) (w : World) : Calls Tryz.prog 194 #[.agg #[.slice a 1 c]] w fun e w' => e = .returned (.bool false) ∧ Below w.heap.size w w' := by
  have Hb := Lib.hid ((Below.refl w.heap.size w).alloc (Nat.le_refl _) (boxT (.slice a 1 c)))
  go_enter Tryz.func194, Tryz.ntmps194
  go_wp2
  refine wp_loop_rounds 2 ?_
  rw [rounds_succ]
  go_wp2
  refine wp_loop_rounds 1 ?_
  rw [rounds_succ]
  go_wp2
  rw [rounds_succ]
  go_wp2
  go_ret
  exact ⟨rfl, Hb.out⟩

set_option maxRecDepth 100000 in
theorem rblank_no (p m e : Int) (hp : 0 < p) (a : Option Addr) (c : Nat) (w : World) :
    Calls Tryz.prog 290 #[.agg #[.int .i64 p, .int .i64 m, .int .i64 e, .slice a 0 c]] w fun r w' => r = .returned (.bool false) ∧ Below w.heap.size w w' := by
  have hb := (Below.refl w.heap.size w).alloc (Nat.le_refl _) (.cells #[.int .i64 p, .int .i64 m, .int .i64 e, .slice a 0 c] 125)
  have Hb := Lib.hid hb; clear hb
  have hp0 : (p == 0) = false := beq_eq_false_iff_ne.2 (by omega)
  go_enter Tryz.func290, Tryz.ntmps290
  go_wp2
  go_ret
  exact ⟨rfl, Hb.out⟩

set_option maxRecDepth 100000 in
theorem rleaf_yes (p m e : Int) (hp : 0 < p) (hm : 0 ≤ m) (he : 0 ≤ e) (a : Option Addr) (c : Nat) (w : World) :
    Calls Tryz.prog 192 #[.agg #[.int .i64 p, .int .i64 m, .int .i64 e, .slice a 0 c]] w fun r w' => r = .returned (.bool true) ∧ Below w.heap.size w w' := by
  have hb := (Below.refl w.heap.size w).alloc (Nat.le_refl _) (.cells #[.int .i64 p, .int .i64 m, .int .i64 e, .slice a 0 c] 125)
  have hrow := row_alloc (w := w) #[.int .i64 p, .int .i64 m, .int .i64 e, .slice a 0 c] 125 (0, 0)
  have Hb := Lib.hid hb; clear hb
  have Hrow := Lib.hid hrow; clear hrow
  have hs : w.heap.size < (w.alloc (.cells #[.int .i64 p, .int .i64 m, .int .i64 e, .slice a 0 c] 125)).heap.size := by simp
  have Hs := Lib.hid hs; clear hs
  go_enter Tryz.func192, Tryz.ntmps192
  go_wp2_with fail
  refine (rblank_no p m e hp a c _).mono ?_
  rintro r w2 ⟨rfl, hb2⟩
  have hr := (hb2.block w.heap.size Hs.out).trans Hrow.out
  have k0 := (cell_row hr 0).trans rfl
  have k1 := (cell_row hr 1).trans rfl
  have k2 := (cell_row hr 2).trans rfl
  have k3 := (cell_row hr 3).trans rfl
  have Hb2 := Lib.hid (Hb.out.trans (hb2.mono (Nat.le_of_lt Hs.out))); clear hb2 hr
  go_wp2
  go_ret
  exact ⟨rfl, Hb2.out⟩
end Go.Proofs.YtedpljclnpiggaaGreatDoor

/-
  The document's trees of one leaf: Check, Find, Twin.
-/
namespace Go.Proofs.YtedpljclnpiggaaGreatDoor
open Go Go.RowKit

set_option maxRecDepth 100000 in
set_option maxHeartbeats 800000 in
theorem rcheck_1 (b c : Nat) (p m e : Int) (hp : 0 < p) (hm : 0 ≤ m) (he : 0 ≤ e) (w : World) (h : T1 w b p m e) : Calls Tryz.prog 50 #[.agg #[.slice (some ⟨b, 0, none⟩) 1 c]] w fun e w' => e = .returned (.int .i64 0) ∧ Below w.heap.size w w' := by
  have hb := (Below.refl w.heap.size w).alloc (Nat.le_refl _) (boxT (.slice (some ⟨b, 0, none⟩) 1 c))
  have hrow := row_alloc (w := w) #[.slice (some ⟨b, 0, none⟩) 1 c] 44 (0, 0)
  have hs : w.heap.size < (w.alloc (boxT (.slice (some ⟨b, 0, none⟩) 1 c))).heap.size := by simp
  have Hb := Lib.hid hb; clear hb
  have Hrow := Lib.hid hrow; clear hrow
  have Hs := Lib.hid hs; clear hs
  have H := Lib.hid h; clear h
  go_enter Tryz.func50, Tryz.ntmps50
  go_wp2_with fail
  refine (rleaves_1 _ _ _).mono ?_
  rintro r w2 ⟨rfl, hb2⟩
  have hr2 := (hb2.block w.heap.size Hs.out).trans Hrow.out
  have Hb2 := Lib.hid (Hb.out.trans (hb2.mono (Nat.le_of_lt Hs.out))); clear hb2
  have k := cell_row hr2 0
  have hl2 : w.heap.size < w2.heap.size := (Array.getElem?_eq_some_iff.1 hr2).1
  obtain ⟨q, hq⟩ : ∃ q, q = w.heap.size := ⟨_, rfl⟩
  rw [← hq] at k hl2 hr2 ⊢
  have Hq := Lib.hid hq; clear hq
  have Hr2 := Lib.hid hr2; clear hr2
  have hT := H.out.new Hb2.out
  have k0 := hT.c0
  have k1 := hT.c1
  have k2 := hT.c2
  have k3 := hT.c3
  clear hT
  have Hl2 := Lib.hid hl2; clear hl2
  go_wp2_with fail
  refine wp_loop_rounds 2 ?_
  rw [rounds_succ]
  go_wp2_with fail
  refine (rleaf_yes p m e hp hm he none 0 _).mono ?_
  rintro r w3 ⟨rfl, hb3⟩
  have hr3 := (hb3.block q Hl2.out).trans Hr2.out
  have Hb3 := Lib.hid (Hb2.out.trans (hb3.mono Hb2.out.size)); clear hb3 k k0 k1 k2 k3
  have k := cell_row hr3 0
  have Hl3 := Lib.hid (Array.getElem?_eq_some_iff.1 hr3).1
  have Hr3 := Lib.hid hr3; clear hr3 Hr2
  go_wp2_with fail
  rw [rounds_succ]
  go_wp2_with fail
  refine (rtwice_1 _ _ _).mono ?_
  rintro r w4 ⟨rfl, hb4⟩
  have hr4 := (hb4.block q Hl3.out).trans Hr3.out
  have Hb4 := Lib.hid (Hb3.out.trans (hb4.mono Hb3.out.size)); clear hb4 k
  have k := cell_row hr4 0
  have Hl4 := Lib.hid (Array.getElem?_eq_some_iff.1 hr4).1
  have Hr4 := Lib.hid hr4; clear hr4 Hr3
  go_wp2_with fail
  refine (rsome_1 b c p m e hp _ (H.out.new Hb4.out)).mono ?_
  rintro r w5 ⟨rfl, hb5⟩
  have Hb5 := Lib.hid (Hb4.out.trans (hb5.mono Hb4.out.size)); clear hb5 k
  go_wp2
  go_ret
  exact ⟨rfl, Hb5.out⟩

set_option maxRecDepth 100000 in
set_option maxHeartbeats 800000 in
theorem rfind_1 (b c : Nat) (p m e x : Int) (hp : 0 < p) (hm : 0 ≤ m) (he : 0 ≤ e) (hx : ¬ m = x) (w : World) (h : T1 w b p m e) : Calls Tryz.prog 279 #[.agg #[.slice (some ⟨b, 0, none⟩) 1 c], .int .i64 x] w fun e w' => e = .returned (.int .i64 (-1)) ∧ Below w.heap.size w w' := by
  have hb := (Below.refl w.heap.size w).alloc (Nat.le_refl _) (boxT (.slice (some ⟨b, 0, none⟩) 1 c))
  have hrow := row_alloc (w := w) #[.slice (some ⟨b, 0, none⟩) 1 c] 44 (0, 0)
  have hs : w.heap.size < (w.alloc (boxT (.slice (some ⟨b, 0, none⟩) 1 c))).heap.size := by simp
  have hck := rcheck_1 b c p m e hp hm he _ (h.new hb)
  have Hck := Lib.hid hck; clear hck
  have Hb := Lib.hid hb; clear hb
  have Hrow := Lib.hid hrow; clear hrow
  have Hs := Lib.hid hs; clear hs
  have H := Lib.hid h; clear h
  have hp0 : (p == 0) = false := beq_eq_false_iff_ne.2 (by omega)
  have hp1 : (p != 0) = true := by simp [bne, hp0]
  have hx0 : (m == x) = false := beq_eq_false_iff_ne.2 hx
  go_enter Tryz.func279, Tryz.ntmps279
  go_wp2_with fail
  refine Hck.out.mono ?_
  rintro r w2 ⟨rfl, hb2⟩
  have k := cell_row ((hb2.block w.heap.size Hs.out).trans Hrow.out) 0
  have Hb2 := Lib.hid (Hb.out.trans (hb2.mono (Nat.le_of_lt Hs.out))); clear hb2
  have hT := H.out.new Hb2.out
  have k0 := hT.c0
  have k1 := hT.c1
  clear hT Hck
  go_wp2
  refine wp_loop_rounds 2 ?_
  rw [rounds_succ]
  go_wp2
  rw [rounds_succ]
  go_wp2
  go_ret
  exact ⟨rfl, Hb2.out⟩

/-- The tree again, in blocks of its own. -/
def RTwPost (w : World) (p m e : Int) (r : Ending) (w' : World) : Prop :=
  ∃ g c v, r = .returned (.agg #[.slice (some ⟨g, 0, none⟩) 1 c]) ∧ 1 ≤ c ∧ w'.ownsRow 0 125 4 (.slice (some ⟨g, 0, none⟩) 1 c) 1 [.int .i64 p, .int .i64 m, .int .i64 e, v] ∧ (∃ a n, v = .slice a 0 n) ∧ w.heap.size ≤ g ∧ Below w.heap.size w w'

theorem node_cells (w : World) (p m e : Int) (v : Value) (t : TypeId) : ∀ j u, [Value.int .i64 p, .int .i64 m, .int .i64 e, v][j]? = some u → (w.alloc (.cells #[.int .i64 p, .int .i64 m, .int .i64 e, v] t)).cell? ((⟨w.heap.size, 0, none⟩ : Addr).add j) = some u := by
  intro j u hj
  have ha : (⟨w.heap.size, 0, none⟩ : Addr).add j = ⟨w.heap.size, j, none⟩ := by unfold Addr.add; split <;> simp_all
  rw [ha, cell_row (row_alloc _ _ _)]
  rw [show (#[.int .i64 p, .int .i64 m, .int .i64 e, v] : Array Value) = [Value.int .i64 p, .int .i64 m, .int .i64 e, v].toArray from rfl, List.getElem?_toArray]
  exact hj

set_option maxRecDepth 100000 in
set_option maxHeartbeats 800000 in
theorem rtwin_1 (b c : Nat) (p m e : Int) (w : World) (h : T1 w b p m e) : Calls Tryz.prog 211 #[.agg #[.slice (some ⟨b, 0, none⟩) 1 c]] w (RTwPost w p m e) := by
  obtain ⟨iN, hiN, hn0, hn1, hn2⟩ := info_parts infoNode
  have hb := ((Below.refl w.heap.size w).alloc (Nat.le_refl _) (boxT (.slice (some ⟨b, 0, none⟩) 1 c))).alloc (by simp) (boxT (.slice none 0 0))
  have hT := h.new hb
  have k0 := hT.c0
  have k1 := hT.c1
  have k2 := hT.c2
  have k3 := hT.c3
  have hb3 := ((hb.alloc hb.size (.cells #[.int .i64 p, .int .i64 m, .int .i64 e, .slice (some ⟨w.heap.size + 1 + 1 + 1, 0, none⟩) 0 0] 125)).alloc (by simp; omega) (.cells #[] 3)).alloc (by simp; omega) (.cells #[.int .i64 p, .int .i64 m, .int .i64 e, .slice (some ⟨w.heap.size + 1 + 1 + 1, 0, none⟩) 0 0] 125)
  have hrow := row_alloc (w := w.alloc (boxT (.slice (some ⟨b, 0, none⟩) 1 c))) #[.slice none 0 0] 44 (0, 0)
  have Hb3 := Lib.hid hb3; clear hb hb3 hT h
  have Hrow := Lib.hid hrow; clear hrow
  have hn1' : ∀ W : World, W.ownsRow 0 125 4 (.slice none 0 0) 0 [] := fun W => World.ownsRow_nil W 0 _ 4
  have Hn1 := Lib.hid hn1'; clear hn1'
  go_enter Tryz.func211, Tryz.ntmps211
  go_wp2
  refine wp_loop_rounds 2 ?_
  rw [rounds_succ]
  go_wp2_with (at_builtin; (refine wpList_append_lies _ rfl (.tmp 23) (.tmp 25) 42 rfl 0 125 iN (.agg #[.int .i64 0, .int .i64 0, .int .i64 0, .slice none 0 0]) 4 48 Tryz.underlying42 hiN hn0 hn1 hn2 rfl (by decide) (.slice none 0 0) 0 [] rfl (Hn1.out _) ⟨w.heap.size + 1 + 1 + 1 + 1, 0, none⟩ 1 1 [.int .i64 p, .int .i64 m, .int .i64 e, .slice (some ⟨w.heap.size + 1 + 1 + 1, 0, none⟩) 0 0] rfl rfl (by intro j u hj; have h9 := node_cells ((((w.alloc (boxT (.slice (some ⟨b, 0, none⟩) 1 c))).alloc (boxT (.slice none 0 0))).alloc (.cells #[.int .i64 p, .int .i64 m, .int .i64 e, .slice (some ⟨w.heap.size + 1 + 1 + 1, 0, none⟩) 0 0] 125)).alloc (.cells #[] 3)) p m e (.slice (some ⟨w.heap.size + 1 + 1 + 1, 0, none⟩) 0 0) 125 j u hj; simpa using h9) (by intro u hu; simp at hu; rcases hu with rfl | rfl | rfl | rfl <;> rfl) (by omega) (by unfold maxLen; omega) (by omega) (Nat.zero_le _) (w.heap.size + 1 + 1 + 1 + 1 + 1) (by simp) ?_; intro g5 c5 w5 hown5 hgrow5 hat5 hlt5; have hr5 := (hgrow5.block (w.heap.size + 1) (by simp) (fun e => by simp [Value.ownBlock] at e)).trans (show _ = some (Obj.cells #[.slice none 0 0] 44 (0, 0)) by (rw [heap_alloc_old _ _ (by simp <;> omega), heap_alloc_old _ _ (by simp <;> omega), heap_alloc_old _ _ (by simp <;> omega)]; simpa using Hrow.out)); have k9 := cell_row hr5 0; have f9 := free_row hr5 0; have Hr5 := Lib.hid hr5; have Hb5 := Lib.hid (Hb3.out.grown hgrow5 Hb3.out.size (fun k hk => by simp [Value.ownBlock] at hk)); have Hown5 := Lib.hid hown5; have Hg5 := Lib.hid (hat5.elim (fun e => by simp [Value.ownBlock] at e) id : g5 = w.heap.size + 1 + 1 + 1 + 1 + 1); have hbx5 := (hgrow5.block w.heap.size (by simp <;> omega) (fun e => by simp [Value.ownBlock] at e)).trans (show _ = some (Obj.cells #[.slice (some ⟨b, 0, none⟩) 1 c] 44 (0, 0)) by (rw [heap_alloc_old _ _ (by simp <;> omega), heap_alloc_old _ _ (by simp <;> omega), heap_alloc_old _ _ (by simp <;> omega), heap_alloc_old _ _ (by simp)]; exact row_alloc _ _ _)); have kb5 := cell_row hbx5 0; clear hown5 hgrow5 hat5 hr5 hbx5))
  rw [rounds_succ]
  go_wp2_with fail
  refine bodyPost_ret_by (results_cell_row rfl _ _ (w.heap.size + 1) _ #[.slice (some ⟨g5, 0, none⟩) 1 c5] (0, 0) _ rfl (row_setCell Hr5.out 0 _) Tryz.underlying44 rfl (by kernel_rfl)) rfl ?_
  have hst : StO (fun _ => False) w5 125 4 (.slice (some ⟨g5, 0, none⟩) 1 c5) 1 [.int .i64 p, .int .i64 m, .int .i64 e, .slice (some ⟨w.heap.size + 1 + 1 + 1, 0, none⟩) 0 0] := ⟨Hown5.out, fun _ _ h => h⟩
  have hst2 := hst.turn (Turned.setCell (F := fun k => k = w.heap.size + 1) (Turned.refl _ _) (p := ⟨w.heap.size + 1, 0, none⟩) (fun _ => rfl) (.slice (some ⟨g5, 0, none⟩) 1 c5)) (fun g hg e => by
    have h1 : g5 = g := by simpa [Value.ownBlock] using hg
    have h2 := Hg5.out
    omega)
  refine ⟨g5, c5, _, rfl, ?_, hst2.own, ⟨_, _, rfl⟩, by have := Hg5.out; omega, Hb5.out.setCell (p := ⟨w.heap.size + 1, 0, none⟩) (by simp) _⟩
  rcases hst.own.2 with ⟨e1, _⟩ | ⟨g', cap, cur, e1, _, _, h1, _⟩
  · simp at e1
  · obtain ⟨_, rfl⟩ : g5 = g' ∧ c5 = cap := by simpa using e1
    exact h1
end Go.Proofs.YtedpljclnpiggaaGreatDoor
