/-
  path.held over a tree of three nodes whose keys are terms of the store.
-/
import Derived.Test.YtedpljclnpiggaaGreatDoorQPath
set_option linter.unusedVariables false
set_option linter.unusedSimpArgs false
namespace Go.Proofs.YtedpljclnpiggaaGreatDoor
open Go Go.RowKit

set_option maxRecDepth 100000 in
theorem held_fn (s q : Nat) (F : Nat → Prop) (L : List TermD) (hl : L.length ≤ 2000000) (p m e : Int) (hp : p = 0 ∨ thereD L.length p = true) (a : Option Addr) (c : Nat) (w : World) (h : ProgStore w s F L) (hq : w.cell? ⟨q, 0, none⟩ = some (.pointer (some ⟨s, 0, none⟩))) :
    Calls Tryz.prog 184 #[.agg #[.int .i64 p, .int .i64 m, .int .i64 e, .slice a 0 c], .pointer (some ⟨q, 0, none⟩)] w fun r w' => r = .returned (.bool false) ∧ Below w.heap.size w w' := by
  have hb := (Below.refl w.heap.size w).alloc (Nat.le_refl _) (.cells #[.int .i64 p, .int .i64 m, .int .i64 e, .slice a 0 c] 125)
  have hq1 := (hb.cell (p := ⟨q, 0, none⟩) (World.block_lt_of_cell? w _ hq)).trans hq
  rcases hp with rfl | hp
  · have Hb := Lib.hid hb; clear hb
    clear h hq
    go_enter Tryz.func184, Tryz.ntmps184
    go_wp2
    go_ret
    exact ⟨rfl, Hb.out⟩
  · have his := sis_any s F L p _ (h.new hb) hl
    rw [hp] at his
    have His := Lib.hid his; clear his
    have hp1 := there_bounds hp
    have hp0 : (p == 0) = false := beq_eq_false_iff_ne.2 (by omega)
    have hp2 : ¬ p = 0 := by omega
    have Hb := Lib.hid hb; clear hb
    clear h hq hp hp1
    go_enter Tryz.func184, Tryz.ntmps184
    go_wp2_with (go_at_call 37; refine His.out.mono ?_; rintro e w2 ⟨rfl, hb2⟩; have Hb2 := Lib.hid (Hb.out.trans (hb2.mono Hb.out.size)); clear hb2)
    go_ret
    exact ⟨rfl, Hb2.out⟩

set_option maxRecDepth 100000 in
set_option maxHeartbeats 1600000 in
theorem indexf_nodes (s q b c : Nat) (F : Nat → Prop) (L : List TermD) (hl : L.length ≤ 2000000) (p0 m0 e0 p1 p2 m2 e2 : Int) (h0 : p0 = 0 ∨ thereD L.length p0 = true) (h1 : p1 = 0 ∨ thereD L.length p1 = true) (h2 : p2 = 0 ∨ thereD L.length p2 = true)
    (w : World) (h : ProgStore w s F L) (hT : T3 w b p0 m0 e0 p1 p2 m2 e2) (hq : w.cell? ⟨q, 0, none⟩ = some (.pointer (some ⟨s, 0, none⟩))) :
    Calls Tryz.prog 285 #[.slice (some ⟨b, 0, none⟩) 3 c, .func (.func 184) #[] #[.pointer (some ⟨q, 0, none⟩)]] w fun r w' => r = .returned (.int .i64 (-1)) ∧ Below w.heap.size w w' := by
  have hfn := fun (p m e : Int) (hp : p = 0 ∨ thereD L.length p = true) (a : Option Addr) (cc : Nat) (W : World) (hW : Below w.heap.size w W) => held_fn s q F L hl p m e hp a cc W (h.new hW) ((hW.cell (p := ⟨q, 0, none⟩) (World.block_lt_of_cell? w _ hq)).trans hq)
  have Hfn := Lib.hid hfn; clear hfn h hq
  obtain ⟨a0, d0, k3⟩ := hT.c3
  have k0 := hT.c0
  have k1 := hT.c1
  have k2 := hT.c2
  have HT := Lib.hid hT; clear hT
  have H0 := Lib.hid h0; clear h0
  have H1 := Lib.hid h1; clear h1
  have H2 := Lib.hid h2; clear h2
  go_enter Tryz.func285, Tryz.ntmps285
  go_wp2
  refine wp_loop_rounds 4 ?_
  rw [rounds_succ]
  go_wp2_with fail
  refine (Hfn.out p0 m0 e0 H0.out a0 d0 w (Below.refl _ _)).mono ?_
  rintro e w1 ⟨rfl, hb1⟩
  have hT1 := HT.out.new hb1
  have Hb1 := Lib.hid hb1; clear hb1 k0 k1 k2 k3
  obtain ⟨a1, d1, k3⟩ := hT1.c7
  have k0 := hT1.c4
  have k1 := hT1.c5
  have k2 := hT1.c6
  clear hT1
  go_wp2
  rw [rounds_succ]
  go_wp2_with fail
  refine (Hfn.out p1 0 0 H1.out a1 d1 w1 Hb1.out).mono ?_
  rintro e w2 ⟨rfl, hb2⟩
  have hb2' := Hb1.out.trans (hb2.mono Hb1.out.size)
  have hT2 := HT.out.new hb2'
  have Hb2 := Lib.hid hb2'; clear hb2 hb2' k0 k1 k2 k3
  obtain ⟨a2, d2, k3⟩ := hT2.c11
  have k0 := hT2.c8
  have k1 := hT2.c9
  have k2 := hT2.c10
  clear hT2
  go_wp2
  rw [rounds_succ]
  go_wp2_with fail
  refine (Hfn.out p2 m2 e2 H2.out a2 d2 w2 Hb2.out).mono ?_
  rintro e w3 ⟨rfl, hb3⟩
  have Hb3 := Lib.hid (Hb2.out.trans (hb3.mono Hb2.out.size)); clear hb3 k0 k1 k2 k3
  go_wp2
  rw [rounds_succ]
  go_wp2
  go_ret
  exact ⟨rfl, Hb3.out⟩
end Go.Proofs.YtedpljclnpiggaaGreatDoor

/-
  path.held answers true over a tree of three nodes whose keys are terms of the store.
-/
namespace Go.Proofs.YtedpljclnpiggaaGreatDoor
open Go Go.RowKit

theorem containsf_nodes (v f : Value) (w : World) (h : Calls Tryz.prog 285 #[v, f] w fun r w' => r = .returned (.int .i64 (-1)) ∧ Below w.heap.size w w') :
    Calls Tryz.prog 183 #[v, f] w fun r w' => r = .returned (.bool false) ∧ Below w.heap.size w w' := by
  have H := Lib.hid h; clear h
  go_enter Tryz.func183, Tryz.ntmps183
  go_wp2_with fail
  refine H.out.mono ?_
  rintro e w2 ⟨rfl, hb2⟩
  have Hb2 := Lib.hid hb2; clear hb2
  go_wp2
  go_ret
  exact ⟨rfl, Hb2.out⟩

set_option maxRecDepth 100000 in
set_option maxHeartbeats 800000 in
theorem held_3 (s b c : Nat) (F : Nat → Prop) (L : List TermD) (hl : L.length ≤ 2000000) (p0 m0 e0 p1 p2 m2 e2 : Int) (g0 : thereD L.length p0 = true) (g1 : p1 = 0 ∨ thereD L.length p1 = true) (g2 : thereD L.length p2 = true)
    (hm0 : 0 ≤ m0 ∧ m0 ≤ 1000) (hm2 : 0 ≤ m2 ∧ m2 ≤ 1000) (hm : m0 ≠ m2) (he0 : 0 ≤ e0 ∧ e0 ≤ 1000) (he2 : 0 ≤ e2 ∧ e2 ≤ 1000)
    (w : World) (he : TzEnv w) (hsz : 3 ≤ w.heap.size) (h : ProgStore w s F L) (hT : T3 w b p0 m0 e0 p1 p2 m2 e2) :
    Calls Tryz.prog 46 #[.pointer (some ⟨s, 0, none⟩), .agg #[.slice (some ⟨b, 0, none⟩) 3 c]] w fun r w' => r = .returned (.bool true) ∧ Below w.heap.size w w' := by
  have hb0 := (Below.refl w.heap.size w).alloc (Nat.le_refl _) (.cells #[.pointer (some ⟨s, 0, none⟩)] 23)
  have hb1 := hb0.alloc hb0.size (.cells #[.slice (some ⟨b, 0, none⟩) 3 c] 44)
  have b0 := there_bounds g0
  have b2 := there_bounds g2
  have b1 : 0 ≤ p1 := by
    rcases g1 with e | e
    · omega
    · have := there_bounds e; omega
  have hck := check_3 b c p0 m0 e0 p1 p2 m2 e2 (by omega) b1 (by omega) hm0 hm2 hm he0 he2 _ (he.below hb1 hsz) (Nat.le_trans hsz hb1.size) (hT.new hb1)
  have hcq : ((w.alloc (.cells #[.pointer (some ⟨s, 0, none⟩)] 23)).alloc (.cells #[.slice (some ⟨b, 0, none⟩) 3 c] 44)).cell? ⟨w.heap.size, 0, none⟩ = some (.pointer (some ⟨s, 0, none⟩)) := by simp
  have hct : ((w.alloc (.cells #[.pointer (some ⟨s, 0, none⟩)] 23)).alloc (.cells #[.slice (some ⟨b, 0, none⟩) 3 c] 44)).cell? ⟨w.heap.size + 1, 0, none⟩ = some (.slice (some ⟨b, 0, none⟩) 3 c) := by simp
  have hsz1 : w.heap.size + 1 < ((w.alloc (.cells #[.pointer (some ⟨s, 0, none⟩)] 23)).alloc (.cells #[.slice (some ⟨b, 0, none⟩) 3 c] 44)).heap.size := by simp
  have hix := fun (W : World) (hW : Below w.heap.size w W) (hq : W.cell? ⟨w.heap.size, 0, none⟩ = some (.pointer (some ⟨s, 0, none⟩))) => indexf_nodes s w.heap.size b c F L hl p0 m0 e0 p1 p2 m2 e2 (.inr g0) g1 (.inr g2) W (h.new hW) (hT.new hW) hq
  have Hix := Lib.hid hix; clear hix
  have Hck := Lib.hid hck; clear hck
  have Hb1 := Lib.hid hb1; clear hb1 hb0
  have Hcq := Lib.hid hcq; clear hcq
  have Hct := Lib.hid hct; clear hct
  have Hs1 := Lib.hid hsz1; clear hsz1
  clear h hT he b0 b1 b2 g0 g1 g2 hm0 hm2 hm he0 he2
  go_enter Tryz.func46, Tryz.ntmps46
  go_wp2_with fail
  refine Hck.out.mono ?_
  rintro e w2 ⟨rfl, hb2⟩
  have ht2 := (hb2.cell (p := ⟨w.heap.size + 1, 0, none⟩) Hs1.out).trans Hct.out
  have hq2 := (hb2.cell (p := ⟨w.heap.size, 0, none⟩) (Nat.lt_trans (Nat.lt_succ_self _) Hs1.out)).trans Hcq.out
  have Hb2 := Lib.hid (Hb1.out.trans (hb2.mono Hb1.out.size)); clear hb2
  have Hx := Lib.hid (Hix.out w2 Hb2.out hq2)
  clear hq2
  go_wp2_with fail
  refine (containsf_nodes _ _ _ Hx.out).mono ?_
  rintro e w3 ⟨rfl, hb3⟩
  have Hb3 := Lib.hid (Hb2.out.trans (hb3.mono Hb2.out.size)); clear hb3
  go_wp2
  go_ret
  exact ⟨rfl, Hb3.out⟩
end Go.Proofs.YtedpljclnpiggaaGreatDoor

/-
  tree.twin (under way): Clone of an empty list.
-/
namespace Go.Proofs.YtedpljclnpiggaaGreatDoor
open Go Go.RowKit

theorem eql_slice_nil (W : World) : (binOp .eql 27 (.slice none 0 0) (.slice none 0 0)).run Tryz.prog W = .ok (.bool true) W := by kernel_rfl
theorem eql_slice_some (x : Addr) (n c : Nat) (W : World) : (binOp .eql 27 (.slice (some x) n c) (.slice none 0 0)).run Tryz.prog W = .ok (.bool false) W := by kernel_rfl

set_option maxRecDepth 100000 in
theorem clone_nil (w : World) :
    Calls Tryz.prog 297 #[.slice none 0 0] w fun r w' => r = .returned (.slice none 0 0) ∧ w' = w := by
  have q := eql_slice_nil w
  go_enter Tryz.func297, Tryz.ntmps297
  go_wp2
  go_ret
  exact ⟨rfl, rfl⟩

set_option maxRecDepth 100000 in
theorem clone_some (x : Addr) (c : Nat) (w : World) :
    Calls Tryz.prog 297 #[.slice (some x) 0 c] w fun r w' => r = .returned (.slice (some ⟨w.heap.size, 0, none⟩) 0 0) ∧ w' = w.alloc (.cells #[] 3) := by
  have q := eql_slice_some x 0 c w
  go_enter Tryz.func297, Tryz.ntmps297
  go_wp2
  go_ret
  exact ⟨rfl, rfl⟩

/-- An empty list, nil or not. -/
def EmptyS (v : Value) : Prop := v = .slice none 0 0 ∨ ∃ x c, v = .slice (some x) 0 c

theorem clone_any (v : Value) (hv : EmptyS v) (w : World) :
    Calls Tryz.prog 297 #[v] w fun r w' => (∃ v', r = .returned v' ∧ EmptyS v') ∧ Below w.heap.size w w' := by
  rcases hv with rfl | ⟨x, c, rfl⟩
  · exact (clone_nil w).mono fun r w' ⟨h1, h2⟩ => by subst h2; exact ⟨⟨_, h1, .inl rfl⟩, Below.refl _ _⟩
  · exact (clone_some x c w).mono fun r w' ⟨h1, h2⟩ => by subst h2; exact ⟨⟨_, h1, .inr ⟨_, _, rfl⟩⟩, (Below.refl _ _).alloc (Nat.le_refl _) _⟩
end Go.Proofs.YtedpljclnpiggaaGreatDoor
