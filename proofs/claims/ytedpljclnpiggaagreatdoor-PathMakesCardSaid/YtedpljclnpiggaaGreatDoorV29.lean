/- The document's Add: into a tree of one leaf. -/
import Derived.Test.YtedpljclnpiggaaGreatDoorV28
set_option linter.unusedVariables false
set_option linter.unusedSimpArgs false
set_option maxRecDepth 100000
set_option maxHeartbeats 12800000
namespace Go.Proofs.YtedpljclnpiggaaGreatDoor
section
open Go Go.RowKit
structure T1 (w : World) (b : Nat) (p m e : Int) : Prop where
 c0 : w.cell? ⟨b, 0, none⟩ = some (.int .i64 p)
 c1 : w.cell? ⟨b, 1, none⟩ = some (.int .i64 m)
 c2 : w.cell? ⟨b, 2, none⟩ = some (.int .i64 e)
 c3 : w.cell? ⟨b, 3, none⟩ = some (.slice none 0 0)
theorem T1.lt {w : World} {b : Nat} {p m e : Int} (h : T1 w b p m e) : b < w.heap.size := World.block_lt_of_cell? w _ h.c0
theorem T1.new {w w' : World} {b : Nat} {p m e : Int} (h : T1 w b p m e) (hb : Below w.heap.size w w') : T1 w' b p m e :=
 have hc : ∀ j, w'.cell? ⟨b, j, none⟩ = w.cell? ⟨b, j, none⟩ := fun j => hb.cell (p := ⟨b, j, none⟩) h.lt
 ⟨(hc 0).trans h.c0, (hc 1).trans h.c1, (hc 2).trans h.c2, (hc 3).trans h.c3⟩
abbrev boxT (v : Value) : Obj := .cells #[v] 44 (0, 0)
theorem rleaves_0 (w : World) : Calls Tryz.prog 191 #[.agg #[.slice none 0 0]] w fun e w' => e = .returned (.int .i64 0) ∧ Below w.heap.size w w' := by
 have Hb := hQ ((Below.refl w.heap.size w).alloc (Nat.le_refl _) (boxT (.slice none 0 0)))
 go_enter Tryz.func191, Tryz.ntmps191
 go_wp2
 refine wp_loop_rounds 5 ?_
 rw [rounds_succ]
 go_wp2
 rw [rounds_succ]
 go_wp2
 rw [rounds_succ]
 go_wp2
 rw [rounds_succ]
 go_wp2
 rw [rounds_succ]
 go_wp2
 go_ret
 exact ⟨rfl, Hb.out⟩
theorem rleaves_1 (a : Option Addr) (c : Nat) (w : World) : Calls Tryz.prog 191 #[.agg #[.slice a 1 c]] w fun e w' => e = .returned (.int .i64 1) ∧ Below w.heap.size w w' := by
 have Hb := hQ ((Below.refl w.heap.size w).alloc (Nat.le_refl _) (boxT (.slice a 1 c)))
 go_enter Tryz.func191, Tryz.ntmps191
 go_wp2
 refine wp_loop_rounds 1 ?_
 rw [rounds_succ]
 go_wp2
 go_ret
 exact ⟨rfl, Hb.out⟩
theorem rleaves_3 (a : Option Addr) (c : Nat) (w : World) : Calls Tryz.prog 191 #[.agg #[.slice a 3 c]] w fun e w' => e = .returned (.int .i64 2) ∧ Below w.heap.size w w' := by
 have Hb := hQ ((Below.refl w.heap.size w).alloc (Nat.le_refl _) (boxT (.slice a 3 c)))
 go_enter Tryz.func191, Tryz.ntmps191
 go_wp2
 refine wp_loop_rounds 2 ?_
 rw [rounds_succ]
 go_wp2
 rw [rounds_succ]
 go_wp2
 go_ret
 exact ⟨rfl, Hb.out⟩
theorem rcheck_0 (w : World) : Calls Tryz.prog 50 #[.agg #[.slice none 0 0]] w fun e w' => e = .returned (.int .i64 0) ∧ Below w.heap.size w w' := by
 have Hb := hQ ((Below.refl w.heap.size w).alloc (Nat.le_refl _) (boxT (.slice none 0 0)))
 go_enter Tryz.func50, Tryz.ntmps50
 go_wp2
 go_ret
 exact ⟨rfl, Hb.out⟩
theorem rfind_0 (m : Int) (w : World) : Calls Tryz.prog 279 #[.agg #[.slice none 0 0], .int .i64 m] w fun e w' => e = .returned (.int .i64 (-1)) ∧ Below w.heap.size w w' := by
 have Hb := hQ ((Below.refl w.heap.size w).alloc (Nat.le_refl _) (boxT (.slice none 0 0)))
 have hrow := rAl (w := w) #[.slice none 0 0] 44 (0, 0)
 have hs : w.heap.size < (w.alloc (boxT (.slice none 0 0))).heap.size := by simp
 have Hrow := hQ hrow; clear hrow
 have Hs := hQ hs; clear hs
 go_enter Tryz.func279, Tryz.ntmps279
 go_wp2_with fail
 refine (rcheck_0 _).mono ?_
 rintro e w2 ⟨rfl, hb2⟩
 have k := cRw ((hb2.block w.heap.size Hs.out).trans Hrow.out) 0
 have Hb2 := hQ (Hb.out.trans (hb2.mono (Nat.le_of_lt Hs.out))); clear hb2
 go_wp2
 refine wp_loop_rounds 1 ?_
 rw [rounds_succ]
 go_wp2
 go_ret
 exact ⟨rfl, Hb2.out⟩
theorem rfree_0 (w : World) : Calls Tryz.prog 280 #[.agg #[.slice none 0 0]] w fun e w' => e = .returned (.int .i64 (-1)) ∧ Below w.heap.size w w' := by
 have Hb := hQ ((Below.refl w.heap.size w).alloc (Nat.le_refl _) (boxT (.slice none 0 0)))
 go_enter Tryz.func280, Tryz.ntmps280
 go_wp2
 refine wp_loop_rounds 1 ?_
 rw [rounds_succ]
 go_wp2
 go_ret
 exact ⟨rfl, Hb.out⟩
theorem rtwin_0 (w : World) : Calls Tryz.prog 211 #[.agg #[.slice none 0 0]] w fun e w' => e = .returned (.agg #[.slice none 0 0]) ∧ Below w.heap.size w w' := by
 have Hb := hQ ((Below.refl w.heap.size w).alloc (Nat.le_refl _) (boxT (.slice none 0 0)))
 go_enter Tryz.func211, Tryz.ntmps211
 go_wp2
 refine wp_loop_rounds 1 ?_
 rw [rounds_succ]
 go_wp2
 refine bodyPost_ret_by (results_cell_row rfl _ _ (w.heap.size + 1) _ #[.slice none 0 0] (0, 0) _ rfl (by have := rAl (w := w.alloc (boxT (.slice none 0 0))) #[.slice none 0 0] 44 (0, 0); simpa using this) Tryz.underlying44 rfl (by kernel_rfl)) rfl ?_
 exact ⟨rfl, Hb.out.alloc Hb.out.size _⟩
theorem rfree_1 (b c : Nat) (p m e : Int) (hp : 0 < p) (w : World) (h : T1 w b p m e) : Calls Tryz.prog 280 #[.agg #[.slice (some ⟨b, 0, none⟩) 1 c]] w fun e w' => e = .returned (.int .i64 (-1)) ∧ Below w.heap.size w w' := by
 have hb := (Below.refl w.heap.size w).alloc (Nat.le_refl _) (boxT (.slice (some ⟨b, 0, none⟩) 1 c))
 have k := (h.new hb).c0
 have hp0 : (p == 0) = false := beq_eq_false_iff_ne.2 (by omega)
 have Hb := hQ hb; clear hb h
 go_enter Tryz.func280, Tryz.ntmps280
 go_wp2
 refine wp_loop_rounds 2 ?_
 rw [rounds_succ]
 go_wp2
 rw [rounds_succ]
 go_wp2
 go_ret
 exact ⟨rfl, Hb.out⟩
theorem rsome_1 (b c : Nat) (p m e : Int) (hp : 0 < p) (w : World) (h : T1 w b p m e) : Calls Tryz.prog 195 #[.agg #[.slice (some ⟨b, 0, none⟩) 1 c], .int .i64 0] w fun e w' => e = .returned (.bool true) ∧ Below w.heap.size w w' := by
 have hb := (Below.refl w.heap.size w).alloc (Nat.le_refl _) (boxT (.slice (some ⟨b, 0, none⟩) 1 c))
 have k := (h.new hb).c0
 have hp0 : (p == 0) = false := beq_eq_false_iff_ne.2 (by omega)
 have hp1 : (p != 0) = true := by simp [bne, hp0]
 have Hb := hQ hb; clear hb h
 go_enter Tryz.func195, Tryz.ntmps195
 go_wp2
 refine wp_loop_rounds 1 ?_
 rw [rounds_succ]
 go_wp2
 go_ret
 exact ⟨rfl, Hb.out⟩
theorem rtwice_1 (a : Option Addr) (c : Nat) (w : World) : Calls Tryz.prog 194 #[.agg #[.slice a 1 c]] w fun e w' => e = .returned (.bool false) ∧ Below w.heap.size w w' := by
 have Hb := hQ ((Below.refl w.heap.size w).alloc (Nat.le_refl _) (boxT (.slice a 1 c)))
 go_enter Tryz.func194, Tryz.ntmps194
 go_wp2
 refine wp_loop_rounds 2 ?_
 rw [rounds_succ]
 go_wp2
 refine wp_loop_rounds 1 ?_
 rw [rounds_succ]
 go_wp2
 rw [rounds_succ]
 go_wp2
 go_ret
 exact ⟨rfl, Hb.out⟩
theorem rblank_no (p m e : Int) (hp : 0 < p) (a : Option Addr) (c : Nat) (w : World) :
    Calls Tryz.prog 290 #[.agg #[.int .i64 p, .int .i64 m, .int .i64 e, .slice a 0 c]] w fun r w' => r = .returned (.bool false) ∧ Below w.heap.size w w' := by
 have hb := (Below.refl w.heap.size w).alloc (Nat.le_refl _) (.cells #[.int .i64 p, .int .i64 m, .int .i64 e, .slice a 0 c] 125)
 have Hb := hQ hb; clear hb
 have hp0 : (p == 0) = false := beq_eq_false_iff_ne.2 (by omega)
 go_enter Tryz.func290, Tryz.ntmps290
 go_wp2
 go_ret
 exact ⟨rfl, Hb.out⟩
theorem rleaf_yes (p m e : Int) (hp : 0 < p) (hm : 0 ≤ m) (he : 0 ≤ e) (a : Option Addr) (c : Nat) (w : World) :
    Calls Tryz.prog 192 #[.agg #[.int .i64 p, .int .i64 m, .int .i64 e, .slice a 0 c]] w fun r w' => r = .returned (.bool true) ∧ Below w.heap.size w w' := by
 have hb := (Below.refl w.heap.size w).alloc (Nat.le_refl _) (.cells #[.int .i64 p, .int .i64 m, .int .i64 e, .slice a 0 c] 125)
 have hrow := rAl (w := w) #[.int .i64 p, .int .i64 m, .int .i64 e, .slice a 0 c] 125 (0, 0)
 have Hb := hQ hb; clear hb
 have Hrow := hQ hrow; clear hrow
 have hs : w.heap.size < (w.alloc (.cells #[.int .i64 p, .int .i64 m, .int .i64 e, .slice a 0 c] 125)).heap.size := by simp
 have Hs := hQ hs; clear hs
 go_enter Tryz.func192, Tryz.ntmps192
 go_wp2_with fail
 refine (rblank_no p m e hp a c _).mono ?_
 rintro r w2 ⟨rfl, hb2⟩
 have hr := (hb2.block w.heap.size Hs.out).trans Hrow.out
 have k0 := (cRw hr 0).trans rfl
 have k1 := (cRw hr 1).trans rfl
 have k2 := (cRw hr 2).trans rfl
 have k3 := (cRw hr 3).trans rfl
 have Hb2 := hQ (Hb.out.trans (hb2.mono (Nat.le_of_lt Hs.out))); clear hb2 hr
 go_wp2
 go_ret
 exact ⟨rfl, Hb2.out⟩
end
section
open Go Go.RowKit
theorem rcheck_1 (b c : Nat) (p m e : Int) (hp : 0 < p) (hm : 0 ≤ m) (he : 0 ≤ e) (w : World) (h : T1 w b p m e) : Calls Tryz.prog 50 #[.agg #[.slice (some ⟨b, 0, none⟩) 1 c]] w fun e w' => e = .returned (.int .i64 0) ∧ Below w.heap.size w w' := by
 have hb := (Below.refl w.heap.size w).alloc (Nat.le_refl _) (boxT (.slice (some ⟨b, 0, none⟩) 1 c))
 have hrow := rAl (w := w) #[.slice (some ⟨b, 0, none⟩) 1 c] 44 (0, 0)
 have hs : w.heap.size < (w.alloc (boxT (.slice (some ⟨b, 0, none⟩) 1 c))).heap.size := by simp
 have Hb := hQ hb; clear hb
 have Hrow := hQ hrow; clear hrow
 have Hs := hQ hs; clear hs
 have H := hQ h; clear h
 go_enter Tryz.func50, Tryz.ntmps50
 go_wp2_with fail
 refine (rleaves_1 _ _ _).mono ?_
 rintro r w2 ⟨rfl, hb2⟩
 have hr2 := (hb2.block w.heap.size Hs.out).trans Hrow.out
 have Hb2 := hQ (Hb.out.trans (hb2.mono (Nat.le_of_lt Hs.out))); clear hb2
 have k := cRw hr2 0
 have hl2 : w.heap.size < w2.heap.size := (Array.getElem?_eq_some_iff.1 hr2).1
 obtain ⟨q, hq⟩ : ∃ q, q = w.heap.size := ⟨_, rfl⟩
 rw [← hq] at k hl2 hr2 ⊢
 have Hq := hQ hq; clear hq
 have Hr2 := hQ hr2; clear hr2
 have hT := H.out.new Hb2.out
 have k0 := hT.c0
 have k1 := hT.c1
 have k2 := hT.c2
 have k3 := hT.c3
 clear hT
 have Hl2 := hQ hl2; clear hl2
 go_wp2_with fail
 refine wp_loop_rounds 2 ?_
 rw [rounds_succ]
 go_wp2_with fail
 refine (rleaf_yes p m e hp hm he none 0 _).mono ?_
 rintro r w3 ⟨rfl, hb3⟩
 have hr3 := (hb3.block q Hl2.out).trans Hr2.out
 have Hb3 := hQ (Hb2.out.trans (hb3.mono Hb2.out.size)); clear hb3 k k0 k1 k2 k3
 have k := cRw hr3 0
 have Hl3 := hQ (Array.getElem?_eq_some_iff.1 hr3).1
 have Hr3 := hQ hr3; clear hr3 Hr2
 go_wp2_with fail
 rw [rounds_succ]
 go_wp2_with fail
 refine (rtwice_1 _ _ _).mono ?_
 rintro r w4 ⟨rfl, hb4⟩
 have hr4 := (hb4.block q Hl3.out).trans Hr3.out
 have Hb4 := hQ (Hb3.out.trans (hb4.mono Hb3.out.size)); clear hb4 k
 have k := cRw hr4 0
 have Hl4 := hQ (Array.getElem?_eq_some_iff.1 hr4).1
 have Hr4 := hQ hr4; clear hr4 Hr3
 go_wp2_with fail
 refine (rsome_1 b c p m e hp _ (H.out.new Hb4.out)).mono ?_
 rintro r w5 ⟨rfl, hb5⟩
 have Hb5 := hQ (Hb4.out.trans (hb5.mono Hb4.out.size)); clear hb5 k
 go_wp2
 go_ret
 exact ⟨rfl, Hb5.out⟩
theorem rfind_1 (b c : Nat) (p m e x : Int) (hp : 0 < p) (hm : 0 ≤ m) (he : 0 ≤ e) (hx : ¬ m = x) (w : World) (h : T1 w b p m e) : Calls Tryz.prog 279 #[.agg #[.slice (some ⟨b, 0, none⟩) 1 c], .int .i64 x] w fun e w' => e = .returned (.int .i64 (-1)) ∧ Below w.heap.size w w' := by
 have hb := (Below.refl w.heap.size w).alloc (Nat.le_refl _) (boxT (.slice (some ⟨b, 0, none⟩) 1 c))
 have hrow := rAl (w := w) #[.slice (some ⟨b, 0, none⟩) 1 c] 44 (0, 0)
 have hs : w.heap.size < (w.alloc (boxT (.slice (some ⟨b, 0, none⟩) 1 c))).heap.size := by simp
 have hck := rcheck_1 b c p m e hp hm he _ (h.new hb)
 have Hck := hQ hck; clear hck
 have Hb := hQ hb; clear hb
 have Hrow := hQ hrow; clear hrow
 have Hs := hQ hs; clear hs
 have H := hQ h; clear h
 have hp0 : (p == 0) = false := beq_eq_false_iff_ne.2 (by omega)
 have hp1 : (p != 0) = true := by simp [bne, hp0]
 have hx0 : (m == x) = false := beq_eq_false_iff_ne.2 hx
 go_enter Tryz.func279, Tryz.ntmps279
 go_wp2_with fail
 refine Hck.out.mono ?_
 rintro r w2 ⟨rfl, hb2⟩
 have k := cRw ((hb2.block w.heap.size Hs.out).trans Hrow.out) 0
 have Hb2 := hQ (Hb.out.trans (hb2.mono (Nat.le_of_lt Hs.out))); clear hb2
 have hT := H.out.new Hb2.out
 have k0 := hT.c0
 have k1 := hT.c1
 clear hT Hck
 go_wp2
 refine wp_loop_rounds 2 ?_
 rw [rounds_succ]
 go_wp2
 rw [rounds_succ]
 go_wp2
 go_ret
 exact ⟨rfl, Hb2.out⟩
def RTwPost (w : World) (p m e : Int) (r : Ending) (w' : World) : Prop :=
 ∃ g c v, r = .returned (.agg #[.slice (some ⟨g, 0, none⟩) 1 c]) ∧ 1 ≤ c ∧ w'.ownsRow 0 125 4 (.slice (some ⟨g, 0, none⟩) 1 c) 1 [.int .i64 p, .int .i64 m, .int .i64 e, v] ∧ (∃ a n, v = .slice a 0 n) ∧ w.heap.size ≤ g ∧ Below w.heap.size w w'
theorem node_cells (w : World) (p m e : Int) (v : Value) (t : TypeId) : ∀ j u, [Value.int .i64 p, .int .i64 m, .int .i64 e, v][j]? = some u → (w.alloc (.cells #[.int .i64 p, .int .i64 m, .int .i64 e, v] t)).cell? ((⟨w.heap.size, 0, none⟩ : Addr).add j) = some u := by
 intro j u hj
 have ha : (⟨w.heap.size, 0, none⟩ : Addr).add j = ⟨w.heap.size, j, none⟩ := by unfold Addr.add; split <;> simp_all
 rw [ha, cRw (rAl _ _ _)]
 rw [show (#[.int .i64 p, .int .i64 m, .int .i64 e, v] : Array Value) = [Value.int .i64 p, .int .i64 m, .int .i64 e, v].toArray from rfl, List.getElem?_toArray]
 exact hj
theorem rtwin_1 (b c : Nat) (p m e : Int) (w : World) (h : T1 w b p m e) : Calls Tryz.prog 211 #[.agg #[.slice (some ⟨b, 0, none⟩) 1 c]] w (RTwPost w p m e) := by
 obtain ⟨iN, hiN, hn0, hn1, hn2⟩ := info_parts infoNode
 have hb := ((Below.refl w.heap.size w).alloc (Nat.le_refl _) (boxT (.slice (some ⟨b, 0, none⟩) 1 c))).alloc (by simp) (boxT (.slice none 0 0))
 have hT := h.new hb
 have k0 := hT.c0
 have k1 := hT.c1
 have k2 := hT.c2
 have k3 := hT.c3
 have hb3 := ((hb.alloc hb.size (.cells #[.int .i64 p, .int .i64 m, .int .i64 e, .slice (some ⟨w.heap.size + 1 + 1 + 1, 0, none⟩) 0 0] 125)).alloc (by simp; omega) (.cells #[] 3)).alloc (by simp; omega) (.cells #[.int .i64 p, .int .i64 m, .int .i64 e, .slice (some ⟨w.heap.size + 1 + 1 + 1, 0, none⟩) 0 0] 125)
 have hrow := rAl (w := w.alloc (boxT (.slice (some ⟨b, 0, none⟩) 1 c))) #[.slice none 0 0] 44 (0, 0)
 have Hb3 := hQ hb3; clear hb hb3 hT h
 have Hrow := hQ hrow; clear hrow
 have hn1' : ∀ W : World, W.ownsRow 0 125 4 (.slice none 0 0) 0 [] := fun W => World.ownsRow_nil W 0 _ 4
 have Hn1 := hQ hn1'; clear hn1'
 go_enter Tryz.func211, Tryz.ntmps211
 go_wp2
 refine wp_loop_rounds 2 ?_
 rw [rounds_succ]
 go_wp2_with (at_builtin; (refine wpList_append_lies _ rfl (.tmp 23) (.tmp 25) 42 rfl 0 125 iN (.agg #[.int .i64 0, .int .i64 0, .int .i64 0, .slice none 0 0]) 4 48 Tryz.underlying42 hiN hn0 hn1 hn2 rfl (by decide) (.slice none 0 0) 0 [] rfl (Hn1.out _) ⟨w.heap.size + 1 + 1 + 1 + 1, 0, none⟩ 1 1 [.int .i64 p, .int .i64 m, .int .i64 e, .slice (some ⟨w.heap.size + 1 + 1 + 1, 0, none⟩) 0 0] rfl rfl (by intro j u hj; have h9 := node_cells ((((w.alloc (boxT (.slice (some ⟨b, 0, none⟩) 1 c))).alloc (boxT (.slice none 0 0))).alloc (.cells #[.int .i64 p, .int .i64 m, .int .i64 e, .slice (some ⟨w.heap.size + 1 + 1 + 1, 0, none⟩) 0 0] 125)).alloc (.cells #[] 3)) p m e (.slice (some ⟨w.heap.size + 1 + 1 + 1, 0, none⟩) 0 0) 125 j u hj; simpa using h9) (by intro u hu; simp at hu; rcases hu with rfl | rfl | rfl | rfl <;> rfl) (by omega) (by unfold maxLen; omega) (by omega) (Nat.zero_le _) (w.heap.size + 1 + 1 + 1 + 1 + 1) (by simp) ?_; intro g5 c5 w5 hown5 hgrow5 hat5 hlt5; have hr5 := (hgrow5.block (w.heap.size + 1) (by simp) (fun e => by simp [Value.ownBlock] at e)).trans (show _ = some (Obj.cells #[.slice none 0 0] 44 (0, 0)) by (rw [heap_alloc_old _ _ (by simp <;> omega), heap_alloc_old _ _ (by simp <;> omega), heap_alloc_old _ _ (by simp <;> omega)]; simpa using Hrow.out)); have k9 := cRw hr5 0; have f9 := fRw hr5 0; have Hr5 := hQ hr5; have Hb5 := hQ (Hb3.out.grown hgrow5 Hb3.out.size (fun k hk => by simp [Value.ownBlock] at hk)); have Hown5 := hQ hown5; have Hg5 := hQ (hat5.elim (fun e => by simp [Value.ownBlock] at e) id : g5 = w.heap.size + 1 + 1 + 1 + 1 + 1); have hbx5 := (hgrow5.block w.heap.size (by simp <;> omega) (fun e => by simp [Value.ownBlock] at e)).trans (show _ = some (Obj.cells #[.slice (some ⟨b, 0, none⟩) 1 c] 44 (0, 0)) by (rw [heap_alloc_old _ _ (by simp <;> omega), heap_alloc_old _ _ (by simp <;> omega), heap_alloc_old _ _ (by simp <;> omega), heap_alloc_old _ _ (by simp)]; exact rAl _ _ _)); have kb5 := cRw hbx5 0; clear hown5 hgrow5 hat5 hr5 hbx5))
 rw [rounds_succ]
 go_wp2_with fail
 refine bodyPost_ret_by (results_cell_row rfl _ _ (w.heap.size + 1) _ #[.slice (some ⟨g5, 0, none⟩) 1 c5] (0, 0) _ rfl (rSc Hr5.out 0 _) Tryz.underlying44 rfl (by kernel_rfl)) rfl ?_
 have hst : StO (fun _ => False) w5 125 4 (.slice (some ⟨g5, 0, none⟩) 1 c5) 1 [.int .i64 p, .int .i64 m, .int .i64 e, .slice (some ⟨w.heap.size + 1 + 1 + 1, 0, none⟩) 0 0] := ⟨Hown5.out, fun _ _ h => h⟩
 have hst2 := hst.turn (Turned.setCell (F := fun k => k = w.heap.size + 1) (Turned.refl _ _) (p := ⟨w.heap.size + 1, 0, none⟩) (fun _ => rfl) (.slice (some ⟨g5, 0, none⟩) 1 c5)) (fun g hg e => by
  have h1 : g5 = g := by simpa [Value.ownBlock] using hg
  have h2 := Hg5.out
  omega)
 refine ⟨g5, c5, _, rfl, ?_, hst2.own, ⟨_, _, rfl⟩, by have := Hg5.out; omega, Hb5.out.setCell (p := ⟨w.heap.size + 1, 0, none⟩) (by simp) _⟩
 rcases hst.own.2 with ⟨e1, _⟩ | ⟨g', cap, cur, e1, _, _, h1, _⟩
 · simp at e1
 · obtain ⟨_, rfl⟩ : g5 = g' ∧ c5 = cap := by simpa using e1
   exact h1
end
section
open Go Go.RowKit
abbrev St (w : World) (k : Nat) (o : Obj) : Prop := Stays (fun _ => False) w k o
theorem St.mk' {w : World} {k : Nat} {o : Obj} (h : w.heap[k]? = some o) : St w k o := ⟨h, fun h => h⟩
theorem Stays.put {F : Nat → Prop} {w : World} {k : Nat} {o : Obj} (h : Stays F w k o) {p : Addr} (hp : k ≠ p.block) (v : Value) : Stays F (w.setCell p v) k o := ⟨(Below.heap_setCell _ _ _ _ hp).trans h.at', h.out⟩
def RAddPost (w : World) (p m e : Int) (r : Ending) (w' : World) : Prop :=
 ∃ g c, r = .returned (.tuple #[.agg #[.slice (some ⟨g, 0, none⟩) 1 c], .int .i64 0, .int .i64 0]) ∧ T1 w' g p m e ∧ w.heap.size ≤ g ∧ Below w.heap.size w w'
theorem add_results (tmps : Array Value) (w : World) (r : Nat) (v : Value) (h4 : tmps.getD 4 undef = .pointer (some ⟨r, 0, none⟩))
    (hg : w.heap[r]? = some (.cells #[v] 44 (0, 0))) : (results Tryz.f177 tmps).run Tryz.prog w = .ok (.tuple #[.agg #[v], tmps.getD 5 undef, tmps.getD 6 undef]) w := by
 have hl := run_loadVar_row (P := Tryz.prog) w r 44 44 #[v] (0, 0) _ hg Tryz.underlying44 rfl (by kernel_rfl)
 have ha : (asAddr (.pointer (some ⟨r, 0, none⟩))).run Tryz.prog w = .ok ⟨r, 0, none⟩ w := by simp [asAddr]
 have hr : Tryz.f177.results = #[.cell 4 44, .tmp 5, .tmp 6] := by kernel_rfl
 have h4' : tmps[4]?.getD undef = .pointer (some ⟨r, 0, none⟩) := by simpa using h4
 simp only [results, hr]
 simp [Sem.run_bind, h4', ha, hl]
theorem radd_0 (m e p : Int) (hm : 0 ≤ m) (he : 0 ≤ e) (hp : 0 < p) (w : World) :
    Calls Tryz.prog 177 #[.agg #[.slice none 0 0], .agg #[.int .i64 m, .int .i64 e, .int .i64 p]] w (RAddPost w p m e) := by
 obtain ⟨iN, hiN, hn0, hn1, hn2⟩ := info_parts infoNode
 have hm1 : ¬ m < 0 := by omega
 have he1 : ¬ e < 0 := by omega
 have hp1 : ¬ p < 1 := by omega
 have hb1 := (((Below.refl w.heap.size w).alloc (Nat.le_refl _) (boxT (.slice none 0 0))).alloc (by simp) (.cells #[.int .i64 m, .int .i64 e, .int .i64 p] 163)).alloc (by simp; omega) (boxT (.slice none 0 0))
 have h0 : St (((w.alloc (boxT (.slice none 0 0))).alloc (.cells #[.int .i64 m, .int .i64 e, .int .i64 p] 163)).alloc (boxT (.slice none 0 0))) w.heap.size (boxT (.slice none 0 0)) := St.mk' ((heap_alloc_old _ _ (by simp <;> omega)).trans ((heap_alloc_old _ _ (by simp)).trans (rAl _ _ _)))
 have h1 : St (((w.alloc (boxT (.slice none 0 0))).alloc (.cells #[.int .i64 m, .int .i64 e, .int .i64 p] 163)).alloc (boxT (.slice none 0 0))) (w.heap.size + 1) (.cells #[.int .i64 m, .int .i64 e, .int .i64 p] 163 (0, 0)) := St.mk' ((heap_alloc_old _ _ (by simp)).trans (by have := rAl (w := w.alloc (boxT (.slice none 0 0))) #[.int .i64 m, .int .i64 e, .int .i64 p] 163 (0, 0); simpa using this))
 have h2 : St (((w.alloc (boxT (.slice none 0 0))).alloc (.cells #[.int .i64 m, .int .i64 e, .int .i64 p] 163)).alloc (boxT (.slice none 0 0))) (w.heap.size + 1 + 1) (boxT (.slice none 0 0)) := St.mk' (by have := rAl (w := (w.alloc (boxT (.slice none 0 0))).alloc (.cells #[.int .i64 m, .int .i64 e, .int .i64 p] 163)) #[.slice none 0 0] 44 (0, 0); simpa using this)
 have Hb1 := hQ hb1; clear hb1
 have H0 := hQ h0; clear h0
 have H1 := hQ h1; clear h1
 have H2 := hQ h2; clear h2
 go_enter Tryz.func177, Tryz.ntmps177
 go_wp2_with fail
 refine (rcheck_0 _).mono ?_
 obtain ⟨q, hq⟩ : ∃ q, q = w.heap.size := ⟨_, rfl⟩
 rw [← hq] at H0 H1 H2 ⊢
 have Hq := hQ hq; clear hq
 generalize ((w.alloc (boxT (.slice none 0 0))).alloc (.cells #[.int .i64 m, .int .i64 e, .int .i64 p] 163)).alloc (boxT (.slice none 0 0)) = w1 at Hb1 H0 H1 H2 ⊢
 rintro r w2 ⟨rfl, hb⟩
 have H02 := hQ (H0.out.new hb); have H12 := hQ (H1.out.new hb); have H22 := hQ (H2.out.new hb)
 have Hb2 := hQ (Hb1.out.trans (hb.mono Hb1.out.size)); clear hb H0 H1 H2 Hb1
 have k := cRw H02.out.at' 0
 have k0 := cRw H12.out.at' 0
 have k1 := cRw H12.out.at' 1
 have k2 := cRw H12.out.at' 2
 go_wp2_with fail
 refine (rfind_0 m _).mono ?_
 rintro r w3 ⟨rfl, hb⟩
 have H03 := hQ (H02.out.new hb); have H13 := hQ (H12.out.new hb); have H23 := hQ (H22.out.new hb)
 have Hb3 := hQ (Hb2.out.trans (hb.mono Hb2.out.size)); clear hb H02 H12 H22 Hb2 k k0 k1 k2
 have k := cRw H03.out.at' 0
 go_wp2_with fail
 refine (rtwin_0 _).mono ?_
 rintro r w4 ⟨rfl, hb⟩
 have H04 := hQ (H03.out.new hb); have H14 := hQ (H13.out.new hb); have H24 := hQ (H23.out.new hb)
 have Hb4 := hQ (Hb3.out.trans (hb.mono Hb3.out.size)); clear hb H03 H13 H23 Hb3 k
 have k := cRw H04.out.at' 0
 have hal := (Below.refl w4.heap.size w4).alloc (Nat.le_refl _) (boxT (.slice none 0 0))
 have H74 := hQ (show St (w4.alloc (boxT (.slice none 0 0))) w4.heap.size (boxT (.slice none 0 0)) from St.mk' (rAl _ _ _))
 have H05 := hQ (H04.out.new hal); have H15 := hQ (H14.out.new hal); have H25 := hQ (H24.out.new hal)
 have Hb5 := hQ (Hb4.out.trans (hal.mono Hb4.out.size)); clear hal
 have hql := H04.out.lt
 go_wp2_with fail
 refine (rfree_0 _).mono ?_
 obtain ⟨q7, hq7⟩ : ∃ q, q = w4.heap.size := ⟨_, rfl⟩
 have hb47 := Hb4.out.size
 rw [← hq7] at H74 hb47 ⊢
 have hqn : q + 1 + 1 < q7 := by have := H24.out.lt; omega
 have Hq7 := hQ (And.intro hb47 hqn); clear hq7 hb47 hqn
 generalize w4.alloc (boxT (.slice none 0 0)) = w5 at H74 H05 H15 H25 Hb5 ⊢
 rintro r w6 ⟨rfl, hb⟩
 clear k hql H04 H14 H24 Hb4
 have H06 := hQ (H05.out.new hb); have H16 := hQ (H15.out.new hb); have H26 := hQ (H25.out.new hb); have H76 := hQ (H74.out.new hb)
 have Hb6 := hQ (Hb5.out.trans (hb.mono Hb5.out.size)); clear hb H05 H15 H25 H74 Hb5
 have k := cRw H06.out.at' 0
 go_wp2_with fail
 refine (rleaves_0 _).mono ?_
 rintro r w7 ⟨rfl, hb⟩
 have H17 := hQ (H16.out.new hb); have H27 := hQ (H26.out.new hb); have H77 := hQ (H76.out.new hb)
 have Hb7 := hQ (Hb6.out.trans (hb.mono Hb6.out.size)); clear hb H06 H16 H26 H76 Hb6 k
 have k7 := cRw H77.out.at' 0
 have hql := H77.out.lt
 have hn1' : ∀ W : World, W.ownsRow 0 125 4 (.slice none 0 0) 0 [] := fun W => World.ownsRow_nil W 0 _ 4
 have Hn1 := hQ hn1'; clear hn1'
 go_wp2_with fail
 refine wp_loop_rounds 2 ?_
 rw [rounds_succ]
 go_wp2_with (at_builtin; refine wpList_append_lies _ rfl (.tmp 71) (.tmp 73) 42 rfl 0 125 iN (.agg #[.int .i64 0, .int .i64 0, .int .i64 0, .slice none 0 0]) 4 48 Tryz.underlying42 hiN hn0 hn1 hn2 rfl (by decide) (.slice none 0 0) 0 [] rfl (Hn1.out _) ⟨w7.heap.size, 0, none⟩ 1 1 [.int .i64 0, .int .i64 0, .int .i64 0, .slice none 0 0] rfl rfl (node_cells w7 0 0 0 (.slice none 0 0) 125) (by intro u hu; simp at hu; rcases hu with rfl | rfl <;> rfl) (by omega) (by unfold maxLen; omega) (by omega) (Nat.zero_le _) (w7.heap.size + 1) (by simp) ?_; intro g8 c8 w8 hown8 hgrow8 hat8 hlt8; have hb8 := ((Below.refl w7.heap.size w7).alloc (Nat.le_refl _) (.cells #[.int .i64 0, .int .i64 0, .int .i64 0, .slice none 0 0] 125)).grown hgrow8 (by simp) (fun k hk => by simp [Value.ownBlock] at hk); have hst8 := H77.out.new hb8; have H78 := hQ hst8; have k8 := cRw hst8.at' 0; have f8 := fRw hst8.at' 0; have Hown8 := hQ hown8; have Hg8 := hQ (hat8.elim (fun e => by simp [Value.ownBlock] at e) id : g8 = w7.heap.size + 1); have H18 := hQ (H17.out.new hb8); have H28 := hQ (H27.out.new hb8); have Hb8 := hQ (Hb7.out.trans (hb8.mono Hb7.out.size)); clear hown8 hgrow8 hat8 hlt8 hb8 hst8)
 have hg7 : g8 ≠ q7 := by have := Hg8.out; have := H77.out.lt; omega
 have h7g : q7 ≠ g8 := Ne.symm hg7
 have hg2 : g8 ≠ q + 1 + 1 := by have := Hg8.out; have := H27.out.lt; omega
 have hg1 : q + 1 ≠ g8 := by have := Hg8.out; have := H17.out.lt; omega
 have hq17 : q + 1 ≠ q7 := by have := Hq7.out.2; omega
 have hq27 : q + 1 + 1 ≠ q7 := by have := Hq7.out.2; omega
 have h79 : St (w8.setCell ⟨q7, 0, none⟩ (.slice (some ⟨g8, 0, none⟩) 1 c8)) q7 (boxT (.slice (some ⟨g8, 0, none⟩) 1 c8)) := St.mk' (rSc H78.out.at' 0 _)
 have h19 := H18.out.put (p := ⟨q7, 0, none⟩) hq17 (.slice (some ⟨g8, 0, none⟩) 1 c8)
 have h29 := H28.out.put (p := ⟨q7, 0, none⟩) hq27 (.slice (some ⟨g8, 0, none⟩) 1 c8)
 have hb9 := Hb8.out.setCell (p := ⟨q7, 0, none⟩) Hq7.out.1 (.slice (some ⟨g8, 0, none⟩) 1 c8)
 obtain ⟨cur, hg9, hcs⟩ : ∃ cur : Array Value, (w8.setCell ⟨q7, 0, none⟩ (.slice (some ⟨g8, 0, none⟩) 1 c8)).heap[g8]? = some (.cells cur 125 (0, 0)) ∧ 4 ≤ cur.size := by
  rcases Hown8.out.2 with ⟨e1, _⟩ | ⟨g', cap, cur, e1, _, hg, h1, _, hsz, _⟩
  · simp at e1
  · obtain ⟨rfl, rfl⟩ : g8 = g' ∧ c8 = cap := by simpa using e1
    exact ⟨cur, (Below.heap_setCell w8 ⟨q7, 0, none⟩ _ g8 hg7).trans hg, by omega⟩
 generalize w8.setCell ⟨q7, 0, none⟩ (.slice (some ⟨g8, 0, none⟩) 1 c8) = w9 at h79 h19 h29 hb9 hg9 ⊢
 have hgw : w.heap.size ≤ g8 := by have := Hg8.out; have := Hb7.out.size; omega
 clear k7 k8 f8 hql H17 H27 H77 H18 H28 H78 Hown8 Hb7 Hb8 Hg8
 have k7 := cRw h79.at' 0
 have k0 := cRw h19.at' 0
 have k1 := cRw h19.at' 1
 have k2 := cRw h19.at' 2
 have hcj : ∀ j, j < 4 → ∃ v, w9.cell? ⟨g8, j, none⟩ = some v := fun j hj => ⟨_, (cRw hg9 j).trans (Array.getElem?_eq_getElem (by omega))⟩
 obtain ⟨v0, y0⟩ := hcj 0 (by omega)
 obtain ⟨v1, y1⟩ := hcj 1 (by omega)
 obtain ⟨v2, y2⟩ := hcj 2 (by omega)
 obtain ⟨v3, y3⟩ := hcj 3 (by omega)
 have z0 := fRw hg9 0
 have z1 := fRw hg9 1
 have z2 := fRw hg9 2
 have z3 := fRw hg9 3
 have h10 : OutAt w9 ((((w9.setCell ⟨g8, 0, none⟩ (.int .i64 p)).setCell ⟨g8, 1, none⟩ (.int .i64 m)).setCell ⟨g8, 2, none⟩ (.int .i64 e)).setCell ⟨g8, 3, none⟩ (.slice none 0 0)) g8 _ := (((OutAt.put ⟨hg9, Turned.refl _ _⟩ 0 (.int .i64 p)).put 1 (.int .i64 m)).put 2 (.int .i64 e)).put 3 (.slice none 0 0)
 have H10 := hQ h10
 have H79 := hQ h79
 have H29 := hQ h29
 have Hb9 := hQ hb9
 have Hcs := hQ hcs
 have Hgw := hQ hgw
 clear h10 h79 h29 h19 hb9 hg9 hcs hcj hgw
 rw [rounds_succ]
 go_wp2_with fail
 refine (rleaves_1 _ _ _).mono ?_
 rintro r w11 ⟨rfl, hb⟩
 have H11 := hQ (H10.out.step hb); clear hb H10 k7 k0 k1 k2 y0 y1 y2 y3 z0 z1 z2 z3
 go_wp2_with (go_at_call 196; refine (rdirect_01 _).mono ?_; rintro r wx ⟨rfl, hwx⟩; subst wx)
 refine wp_loop_rounds 1 ?_
 rw [rounds_succ]
 have k7 := cRw ((H11.out.turned.block q7 H79.out.lt (Ne.symm hg7)).trans H79.out.at') 0
 have hr2 := (H11.out.turned.block (q + 1 + 1) H29.out.lt (Ne.symm hg2)).trans H29.out.at'
 have kr := cRw hr2 0
 have fr := fRw hr2 0
 have Hr2 := hQ hr2; clear hr2
 go_wp2
 refine bodyPost_ret_by (add_results _ _ (q + 1 + 1) _ rfl (rSc Hr2.out 0 _)) rfl ?_
 have hrow := (Below.heap_setCell w11 ⟨q + 1 + 1, 0, none⟩ (.slice (some ⟨g8, 0, none⟩) 1 c8) g8 hg2).trans H11.out.row
 have hc := fun j => cRw hrow j
 have hcs := Hcs.out
 have hb11 := Hb9.out.trans ((H11.out.turned.below (B := w.heap.size) Hb9.out.size (fun k hk => by rw [hk]; exact Hgw.out)))
 refine ⟨g8, c8, rfl, ⟨?_, ?_, ?_, ?_⟩, Hgw.out, hb11.setCell (p := ⟨q + 1 + 1, 0, none⟩) (by have := Hq.out; simp only; omega) _⟩
 · rw [hc 0]; simp [Array.getElem?_setIfInBounds, show 0 < cur.size by omega, show 1 < cur.size by omega, show 2 < cur.size by omega, show 3 < cur.size by omega]
 · rw [hc 1]; simp [Array.getElem?_setIfInBounds, show 0 < cur.size by omega, show 1 < cur.size by omega, show 2 < cur.size by omega, show 3 < cur.size by omega]
 · rw [hc 2]; simp [Array.getElem?_setIfInBounds, show 0 < cur.size by omega, show 1 < cur.size by omega, show 2 < cur.size by omega, show 3 < cur.size by omega]
 · rw [hc 3]; simp [Array.getElem?_setIfInBounds, show 0 < cur.size by omega, show 1 < cur.size by omega, show 2 < cur.size by omega, show 3 < cur.size by omega]
end
section
open Go Go.RowKit
def RAdd1Post (w : World) (p0 m0 e0 p m e : Int) (r : Ending) (w' : World) : Prop :=
 ∃ g c, r = .returned (.tuple #[.agg #[.slice (some ⟨g, 0, none⟩) 3 c], .int .i64 1, .int .i64 0]) ∧ T3 w' g p0 m0 e0 0 p m e ∧ w.heap.size ≤ g ∧ Below w.heap.size w w'
theorem radd_1 (b c : Nat) (m0 e0 p0 m e p : Int) (hm0 : 0 ≤ m0) (he0 : 0 ≤ e0) (hp0 : 0 < p0) (hm : 0 ≤ m) (he : 0 ≤ e) (hp : 0 < p) (hne : ¬ m0 = m) (w : World) (h : T1 w b p0 m0 e0) :
    Calls Tryz.prog 177 #[.agg #[.slice (some ⟨b, 0, none⟩) 1 c], .agg #[.int .i64 m, .int .i64 e, .int .i64 p]] w (RAdd1Post w p0 m0 e0 p m e) := by
 obtain ⟨iN, hiN, hn0, hn1, hn2⟩ := info_parts infoNode
 have hm1 : ¬ m < 0 := by omega
 have he1 : ¬ e < 0 := by omega
 have hp1 : ¬ p < 1 := by omega
 have hb1 := (((Below.refl w.heap.size w).alloc (Nat.le_refl _) (boxT (.slice (some ⟨b, 0, none⟩) 1 c))).alloc (by simp) (.cells #[.int .i64 m, .int .i64 e, .int .i64 p] 163)).alloc (by simp; omega) (boxT (.slice none 0 0))
 have h0 : St (((w.alloc (boxT (.slice (some ⟨b, 0, none⟩) 1 c))).alloc (.cells #[.int .i64 m, .int .i64 e, .int .i64 p] 163)).alloc (boxT (.slice none 0 0))) w.heap.size (boxT (.slice (some ⟨b, 0, none⟩) 1 c)) := St.mk' ((heap_alloc_old _ _ (by simp <;> omega)).trans ((heap_alloc_old _ _ (by simp)).trans (rAl _ _ _)))
 have h1 : St (((w.alloc (boxT (.slice (some ⟨b, 0, none⟩) 1 c))).alloc (.cells #[.int .i64 m, .int .i64 e, .int .i64 p] 163)).alloc (boxT (.slice none 0 0))) (w.heap.size + 1) (.cells #[.int .i64 m, .int .i64 e, .int .i64 p] 163 (0, 0)) := St.mk' ((heap_alloc_old _ _ (by simp)).trans (by have := rAl (w := w.alloc (boxT (.slice (some ⟨b, 0, none⟩) 1 c))) #[.int .i64 m, .int .i64 e, .int .i64 p] 163 (0, 0); simpa using this))
 have h2 : St (((w.alloc (boxT (.slice (some ⟨b, 0, none⟩) 1 c))).alloc (.cells #[.int .i64 m, .int .i64 e, .int .i64 p] 163)).alloc (boxT (.slice none 0 0))) (w.heap.size + 1 + 1) (boxT (.slice none 0 0)) := St.mk' (by have := rAl (w := (w.alloc (boxT (.slice (some ⟨b, 0, none⟩) 1 c))).alloc (.cells #[.int .i64 m, .int .i64 e, .int .i64 p] 163)) #[.slice none 0 0] 44 (0, 0); simpa using this)
 have HT := hQ (h.new hb1); clear h
 have Hb1 := hQ hb1; clear hb1
 have H0 := hQ h0; clear h0
 have H1 := hQ h1; clear h1
 have H2 := hQ h2; clear h2
 go_enter Tryz.func177, Tryz.ntmps177
 go_wp2_with fail
 refine (rcheck_1 b c p0 m0 e0 hp0 hm0 he0 _ HT.out).mono ?_
 obtain ⟨q, hq⟩ : ∃ q, q = w.heap.size := ⟨_, rfl⟩
 rw [← hq] at H0 H1 H2 ⊢
 have Hq := hQ hq; clear hq
 generalize ((w.alloc (boxT (.slice (some ⟨b, 0, none⟩) 1 c))).alloc (.cells #[.int .i64 m, .int .i64 e, .int .i64 p] 163)).alloc (boxT (.slice none 0 0)) = w1 at Hb1 H0 H1 H2 HT ⊢
 rintro r w2 ⟨rfl, hb⟩
 have H02 := hQ (H0.out.new hb); have H12 := hQ (H1.out.new hb); have H22 := hQ (H2.out.new hb)
 have HT2 := hQ (HT.out.new hb)
 have Hb2 := hQ (Hb1.out.trans (hb.mono Hb1.out.size)); clear hb H0 H1 H2 Hb1
 have k := cRw H02.out.at' 0
 have k0 := cRw H12.out.at' 0
 have k1 := cRw H12.out.at' 1
 have k2 := cRw H12.out.at' 2
 go_wp2_with fail
 refine (rfind_1 b c p0 m0 e0 m hp0 hm0 he0 hne _ HT2.out).mono ?_
 rintro r w3 ⟨rfl, hb⟩
 have H03 := hQ (H02.out.new hb); have H13 := hQ (H12.out.new hb); have H23 := hQ (H22.out.new hb)
 have HT3 := hQ (HT2.out.new hb)
 have Hb3 := hQ (Hb2.out.trans (hb.mono Hb2.out.size)); clear hb H02 H12 H22 Hb2 k k0 k1 k2
 have k := cRw H03.out.at' 0
 go_wp2_with fail
 refine (rtwin_1 b c p0 m0 e0 _ HT3.out).mono ?_
 rintro r w4 ⟨g5, c5, v5, rfl, hc5, hown5, ⟨a5, n5, rfl⟩, hg5, hb⟩
 have hst5 : StO (fun _ => False) w4 125 4 (.slice (some ⟨g5, 0, none⟩) 1 c5) 1 [.int .i64 p0, .int .i64 m0, .int .i64 e0, .slice a5 0 n5] := ⟨hown5, fun _ _ h => h⟩
 have hq25 : q + 1 + 1 < g5 := by have := H23.out.lt; omega
 have H04 := hQ (H03.out.new hb); have H14 := hQ (H13.out.new hb); have H24 := hQ (H23.out.new hb)
 have HT4 := hQ (HT3.out.new hb)
 have Hb4 := hQ (Hb3.out.trans (hb.mono Hb3.out.size)); clear hb H03 H13 H23 Hb3 k
 have k := cRw H04.out.at' 0
 have hal := (Below.refl w4.heap.size w4).alloc (Nat.le_refl _) (boxT (.slice (some ⟨g5, 0, none⟩) 1 c5))
 have H74 := hQ (show St (w4.alloc (boxT (.slice (some ⟨g5, 0, none⟩) 1 c5))) w4.heap.size (boxT (.slice (some ⟨g5, 0, none⟩) 1 c5)) from St.mk' (rAl _ _ _))
 have H05 := hQ (H04.out.new hal); have H15 := hQ (H14.out.new hal); have H25 := hQ (H24.out.new hal)
 have HT5 := hQ (HT4.out.new hal)
 have Hs5 := hQ (hst5.new hal)
 have hg57 : g5 < w4.heap.size := hst5.lt rfl
 clear hst5 hown5
 have Hb5 := hQ (Hb4.out.trans (hal.mono Hb4.out.size)); clear hal
 have hql := H04.out.lt
 go_wp2_with fail
 refine (rfree_1 b c p0 m0 e0 hp0 _ HT5.out).mono ?_
 obtain ⟨q7, hq7⟩ : ∃ q, q = w4.heap.size := ⟨_, rfl⟩
 have hb47 := Hb4.out.size
 rw [← hq7] at H74 hb47 hg57 ⊢
 have hqn : q + 1 + 1 < q7 := by have := H24.out.lt; omega
 have Hq7 := hQ (And.intro hb47 hqn); clear hq7 hb47 hqn
 generalize w4.alloc (boxT (.slice (some ⟨g5, 0, none⟩) 1 c5)) = w5 at HT5 Hs5 H74 H05 H15 H25 Hb5 ⊢
 rintro r w6 ⟨rfl, hb⟩
 clear k hql H04 H14 H24 Hb4
 have H06 := hQ (H05.out.new hb); have H16 := hQ (H15.out.new hb); have H26 := hQ (H25.out.new hb); have H76 := hQ (H74.out.new hb)
 have Hs6 := hQ (Hs5.out.new hb)
 have Hb6 := hQ (Hb5.out.trans (hb.mono Hb5.out.size)); clear hb H05 H15 H25 H74 Hb5
 have k := cRw H06.out.at' 0
 go_wp2_with fail
 refine (rleaves_1 _ _ _).mono ?_
 rintro r w7 ⟨rfl, hb⟩
 have H17 := hQ (H16.out.new hb); have H27 := hQ (H26.out.new hb); have H77 := hQ (H76.out.new hb)
 have Hs7 := hQ (Hs6.out.new hb)
 have Hb7 := hQ (Hb6.out.trans (hb.mono Hb6.out.size)); clear hb H06 H16 H26 H76 Hb6 k
 have k7 := cRw H77.out.at' 0
 have hql := H77.out.lt
 have hgq7 : g5 ≠ q7 := by omega
 have hq7g : q7 ≠ g5 := by omega
 go_wp2_with fail
 refine wp_loop_rounds 3 ?_
 rw [rounds_succ]
 have Hgs := hQ (show q + 1 + 1 < g5 ∧ g5 < q7 from ⟨hq25, hg57⟩)
 have k7 := cRw H77.out.at' 0
 have hql := H77.out.lt
 go_wp2_with (at_builtin; refine wpList_append_lies _ rfl (.tmp 71) (.tmp 73) 42 rfl 0 125 iN (.agg #[.int .i64 0, .int .i64 0, .int .i64 0, .slice none 0 0]) 4 48 Tryz.underlying42 hiN hn0 hn1 hn2 rfl (by decide) (.slice (some ⟨g5, 0, none⟩) 1 c5) 1 [.int .i64 p0, .int .i64 m0, .int .i64 e0, .slice a5 0 n5] rfl (Hs7.out.own.alloc _) ⟨w7.heap.size, 0, none⟩ 1 1 [.int .i64 0, .int .i64 0, .int .i64 0, .slice none 0 0] rfl rfl (node_cells w7 0 0 0 (.slice none 0 0) 125) (by intro u hu; simp at hu; rcases hu with rfl | rfl <;> rfl) (by omega) (by unfold maxLen; omega) (by omega) (Nat.zero_le _) (w7.heap.size + 1) (by simp) ?_; intro g8 c8 w8 hownN hgrowN hatN hltN; have hTN := Turned.grown ((Turned.refl (fun k => k = g5) w7).alloc (.cells #[.int .i64 0, .int .i64 0, .int .i64 0, .slice none 0 0] 125)) hgrowN (fun k _ hk => by simp [Value.ownBlock] at hk; exact hk.symm); have hstN := H77.out.turn hTN (Ne.symm hgq7); have k8 := cRw hstN.at' 0; have f8 := fRw hstN.at' 0; have H7N := hQ hstN; have H1N := hQ (H17.out.turn hTN (by have := Hgs.out; omega)); have H2N := hQ (H27.out.turn hTN (by have := Hgs.out; omega)); have HbN := hQ (Hb7.out.trans (hTN.below (B := w.heap.size) Hb7.out.size (fun k hk => by have := Hgs.out; have := Hq.out; omega))); have HownN := hQ hownN; have HatN := hQ hatN; clear hownN hgrowN hatN hltN hTN hstN)
 have hgq8 : g8 ≠ q7 ∧ q + 1 + 1 < g8 := by
  have h1 := Hgs.out
  have h2 := H77.out.lt
  rcases HatN.out with h3 | h3
  · have h4 : g5 = g8 := by simpa [Value.ownBlock] using h3
    omega
  · omega
 have Hgs8 := hQ hgq8
 have h7w := St.mk' (rSc H7N.out.at' 0 (.slice (some ⟨g8, 0, none⟩) 2 c8))
 have h1w := H1N.out.put (p := ⟨q7, 0, none⟩) (by have := Hq7.out.2; simp only; omega) (.slice (some ⟨g8, 0, none⟩) 2 c8)
 have h2w := H2N.out.put (p := ⟨q7, 0, none⟩) (by have := Hq7.out.2; simp only; omega) (.slice (some ⟨g8, 0, none⟩) 2 c8)
 have hbw := HbN.out.setCell (p := ⟨q7, 0, none⟩) Hq7.out.1 (.slice (some ⟨g8, 0, none⟩) 2 c8)
 have hsw : StO (fun _ => False) (w8.setCell ⟨q7, 0, none⟩ (.slice (some ⟨g8, 0, none⟩) 2 c8)) 125 4 (.slice (some ⟨g8, 0, none⟩) 2 c8) 2 [.int .i64 p0, .int .i64 m0, .int .i64 e0, .slice a5 0 n5, .int .i64 0, .int .i64 0, .int .i64 0, .slice none 0 0] :=
  by
   refine StO.turn (G := fun k => k = q7) ⟨HownN.out, fun _ _ h => h⟩ (Turned.setCell (F := fun k => k = q7) (Turned.refl _ _) (p := ⟨q7, 0, none⟩) (fun _ => rfl) _) (fun g hg e => hgq8.1 ?_)
   have h1 : g8 = g := by simpa [Value.ownBlock] using hg
   omega
 generalize w8.setCell ⟨q7, 0, none⟩ (.slice (some ⟨g8, 0, none⟩) 2 c8) = w9 at h7w h1w h2w hbw hsw ⊢
 have H79 := hQ h7w
 have H19 := hQ h1w
 have H29 := hQ h2w
 have Hb9 := hQ hbw
 have Hs9 := hQ hsw
 have hgq8' := hgq8.1
 clear h7w h1w h2w hbw hsw k7 k8 f8 hql H7N H1N H2N HbN HownN HatN hgq8 H17 H27 H77 Hb7 Hs7
 clear Hgs
 have Hgs := Hgs8
 rw [rounds_succ]
 have k7 := cRw H79.out.at' 0
 have hql := H79.out.lt
 go_wp2_with (at_builtin; refine wpList_append_lies _ rfl (.tmp 71) (.tmp 73) 42 rfl 0 125 iN (.agg #[.int .i64 0, .int .i64 0, .int .i64 0, .slice none 0 0]) 4 48 Tryz.underlying42 hiN hn0 hn1 hn2 rfl (by decide) (.slice (some ⟨g8, 0, none⟩) 2 c8) 2 [.int .i64 p0, .int .i64 m0, .int .i64 e0, .slice a5 0 n5, .int .i64 0, .int .i64 0, .int .i64 0, .slice none 0 0] rfl (Hs9.out.own.alloc _) ⟨w9.heap.size, 0, none⟩ 1 1 [.int .i64 0, .int .i64 0, .int .i64 0, .slice none 0 0] rfl rfl (node_cells w9 0 0 0 (.slice none 0 0) 125) (by intro u hu; simp at hu; rcases hu with rfl | rfl <;> rfl) (by omega) (by unfold maxLen; omega) (by omega) (Nat.zero_le _) (w9.heap.size + 1) (by simp) ?_; intro g10 c10 w10 hownN hgrowN hatN hltN; have hTN := Turned.grown ((Turned.refl (fun k => k = g8) w9).alloc (.cells #[.int .i64 0, .int .i64 0, .int .i64 0, .slice none 0 0] 125)) hgrowN (fun k _ hk => by simp [Value.ownBlock] at hk; exact hk.symm); have hstN := H79.out.turn hTN (Ne.symm hgq8'); have k8 := cRw hstN.at' 0; have f8 := fRw hstN.at' 0; have H7N := hQ hstN; have H1N := hQ (H19.out.turn hTN (by have := Hgs.out; omega)); have H2N := hQ (H29.out.turn hTN (by have := Hgs.out; omega)); have HbN := hQ (Hb9.out.trans (hTN.below (B := w.heap.size) Hb9.out.size (fun k hk => by have := Hgs.out; have := Hq.out; omega))); have HownN := hQ hownN; have HatN := hQ hatN; clear hownN hgrowN hatN hltN hTN hstN)
 have hg10 : g10 ≠ q7 ∧ q + 1 + 1 < g10 := by
  have h1 := Hgs.out
  have h2 := H79.out.lt
  rcases HatN.out with h3 | h3
  · have h4 : g8 = g10 := by simpa [Value.ownBlock] using h3
    omega
  · omega
 have h79 : St (w10.setCell ⟨q7, 0, none⟩ (.slice (some ⟨g10, 0, none⟩) 3 c10)) q7 (boxT (.slice (some ⟨g10, 0, none⟩) 3 c10)) := St.mk' (rSc H7N.out.at' 0 _)
 have h19 := H1N.out.put (p := ⟨q7, 0, none⟩) (by have := Hq7.out.2; simp only; omega) (.slice (some ⟨g10, 0, none⟩) 3 c10)
 have h29 := H2N.out.put (p := ⟨q7, 0, none⟩) (by have := Hq7.out.2; simp only; omega) (.slice (some ⟨g10, 0, none⟩) 3 c10)
 have hb9 := HbN.out.setCell (p := ⟨q7, 0, none⟩) Hq7.out.1 (.slice (some ⟨g10, 0, none⟩) 3 c10)
 obtain ⟨cur, hg9, hcs, htk⟩ : ∃ cur : Array Value, (w10.setCell ⟨q7, 0, none⟩ (.slice (some ⟨g10, 0, none⟩) 3 c10)).heap[g10]? = some (.cells cur 125 (0, 0)) ∧ 12 ≤ cur.size ∧ cur.toList.take 12 = [.int .i64 p0, .int .i64 m0, .int .i64 e0, .slice a5 0 n5, .int .i64 0, .int .i64 0, .int .i64 0, .slice none 0 0, .int .i64 0, .int .i64 0, .int .i64 0, .slice none 0 0] := by
  rcases HownN.out.2 with ⟨e1, _⟩ | ⟨g', cap, cur, e1, _, hg, h1, _, hsz, htk⟩
  · simp at e1
  · obtain ⟨rfl, rfl⟩ : g10 = g' ∧ c10 = cap := by simpa using e1
    exact ⟨cur, (Below.heap_setCell w10 ⟨q7, 0, none⟩ _ g10 hg10.1).trans hg, by omega, by simpa using htk⟩
 have Hg10 := hQ hg10
 have hg107 := hg10.1
 clear hg10 k8 f8
 generalize w10.setCell ⟨q7, 0, none⟩ (.slice (some ⟨g10, 0, none⟩) 3 c10) = w11 at h79 h19 h29 hb9 hg9 ⊢
 have k7 := cRw h79.at' 0
 have k0 := cRw h19.at' 0
 have k1 := cRw h19.at' 1
 have k2 := cRw h19.at' 2
 have hcj : ∀ j, j < 12 → ∃ v, w11.cell? ⟨g10, j, none⟩ = some v := fun j hj => ⟨_, (cRw hg9 j).trans (Array.getElem?_eq_getElem (by omega))⟩
 obtain ⟨v0, y0⟩ := hcj 8 (by omega)
 obtain ⟨v1, y1⟩ := hcj 9 (by omega)
 obtain ⟨v2, y2⟩ := hcj 10 (by omega)
 obtain ⟨v3, y3⟩ := hcj 11 (by omega)
 have z0 := fRw hg9 8
 have z1 := fRw hg9 9
 have z2 := fRw hg9 10
 have z3 := fRw hg9 11
 have h10 : OutAt w11 ((((w11.setCell ⟨g10, 8, none⟩ (.int .i64 p)).setCell ⟨g10, 9, none⟩ (.int .i64 m)).setCell ⟨g10, 10, none⟩ (.int .i64 e)).setCell ⟨g10, 11, none⟩ (.slice none 0 0)) g10 _ := (((OutAt.put ⟨hg9, Turned.refl _ _⟩ 8 (.int .i64 p)).put 9 (.int .i64 m)).put 10 (.int .i64 e)).put 11 (.slice none 0 0)
 have H10 := hQ h10
 have H79' := hQ h79
 have H29' := hQ h29
 have Hb11 := hQ hb9
 have Hcs := hQ hcs
 have Htk := hQ htk
 clear h10 h79 h29 h19 hb9 hg9 hcs hcj htk H7N H1N H2N HbN HownN HatN H79 H19 H29 Hb9 Hs9 Hgs hql
 rw [rounds_succ]
 go_wp2_with fail
 refine (rleaves_3 _ _ _).mono ?_
 rintro r w12 ⟨rfl, hb⟩
 have H12 := hQ (H10.out.step hb); clear hb H10 k7 k0 k1 k2 y0 y1 y2 y3 z0 z1 z2 z3
 go_wp2_with fail
 refine (rdirect_22 _).mono ?_
 intro r w13 hx
 obtain ⟨go, co, rfl, hco1, hco2, hgo, cgo, hbo⟩ := newI_one hx
 unfold maxLen at hco2
 have H13 := hQ (H12.out.step hbo)
 have h7x := (H13.out.turned.block q7 H79'.out.lt (Ne.symm hg107)).trans H79'.out.at'
 have k7 := cRw h7x 0
 have ky : w13.cell? ⟨g10, 4, none⟩ = some (.int .i64 0) := by
  rw [cRw H13.out.row 4]
  have hcs := Hcs.out
  have htk := Htk.out
  have h4 : cur[4]? = some (.int .i64 0) := by
   rw [← Array.getElem?_toList]
   have := congrArg (fun l : List Value => l[4]?) htk
   simpa [List.getElem?_take] using this
  simpa [Array.getElem?_setIfInBounds] using h4
 clear hx hbo H12
 go_wp2_with fail
 refine wp_loop_rounds 2 ?_
 rw [rounds_succ]
 go_wp2_with fail
 go_quiet (fail)
 go_wp2
 rw [rounds_succ]
 have hr2 := (H13.out.turned.block (q + 1 + 1) H29'.out.lt (by have := Hg10.out; omega)).trans H29'.out.at'
 have kr := cRw hr2 0
 have fr := fRw hr2 0
 have Hr2 := hQ hr2; clear hr2
 go_wp2
 refine bodyPost_ret_by (add_results _ _ (q + 1 + 1) _ rfl (rSc Hr2.out 0 _)) rfl ?_
 have hg2 : g10 ≠ q + 1 + 1 := by have := Hg10.out; omega
 have hrow := (Below.heap_setCell (w13.drewN nq) ⟨q + 1 + 1, 0, none⟩ (.slice (some ⟨g10, 0, none⟩) 3 c10) g10 hg2).trans (show (w13.drewN nq).heap[g10]? = _ from H13.out.row)
 have hc := fun j => cRw hrow j
 have hcs := Hcs.out
 have htk := Htk.out
 have hq := Hq.out
 have hg := Hg10.out
 have hb13 := Hb11.out.trans ((H13.out.turned.below (B := w.heap.size) Hb11.out.size (fun k hk => by omega)))
 have hcur : ∀ j, j < 12 → cur[j]? = ([.int .i64 p0, .int .i64 m0, .int .i64 e0, .slice a5 0 n5, .int .i64 0, .int .i64 0, .int .i64 0, .slice none 0 0, .int .i64 0, .int .i64 0, .int .i64 0, .slice none 0 0] : List Value)[j]? := by
  intro j hj
  rw [← htk, ← Array.getElem?_toList, List.getElem?_take, if_pos hj]
 have h0 := hcur 0 (by omega)
 have h1 := hcur 1 (by omega)
 have h2 := hcur 2 (by omega)
 have h3 := hcur 3 (by omega)
 have h4 := hcur 4 (by omega)
 have h5 := hcur 5 (by omega)
 have h6 := hcur 6 (by omega)
 have h7 := hcur 7 (by omega)
 refine ⟨g10, c10, rfl, ⟨?_, ?_, ?_, ⟨a5, n5, ?_⟩, ?_, ?_, ?_, ⟨none, 0, ?_⟩, ?_, ?_, ?_, ⟨none, 0, ?_⟩⟩, by omega, (show Below w.heap.size w (w13.drewN nq) from ⟨hb13.os, hb13.tape, hb13.output, hb13.size, hb13.block⟩).setCell (p := ⟨q + 1 + 1, 0, none⟩) (by simp only; omega) _⟩
 · rw [hc 0]; simpa [Array.getElem?_setIfInBounds] using h0
 · rw [hc 1]; simpa [Array.getElem?_setIfInBounds] using h1
 · rw [hc 2]; simpa [Array.getElem?_setIfInBounds] using h2
 · rw [hc 3]; simpa [Array.getElem?_setIfInBounds] using h3
 · rw [hc 4]; simpa [Array.getElem?_setIfInBounds] using h4
 · rw [hc 5]; simpa [Array.getElem?_setIfInBounds] using h5
 · rw [hc 6]; simpa [Array.getElem?_setIfInBounds] using h6
 · rw [hc 7]; simpa [Array.getElem?_setIfInBounds] using h7
 · rw [hc 8]; simp [Array.getElem?_setIfInBounds, show 8 < cur.size by omega]
 · rw [hc 9]; simp [Array.getElem?_setIfInBounds, show 9 < cur.size by omega]
 · rw [hc 10]; simp [Array.getElem?_setIfInBounds, show 10 < cur.size by omega]
 · rw [hc 11]; simp [Array.getElem?_setIfInBounds, show 11 < cur.size by omega]
end
end Go.Proofs.YtedpljclnpiggaaGreatDoor
