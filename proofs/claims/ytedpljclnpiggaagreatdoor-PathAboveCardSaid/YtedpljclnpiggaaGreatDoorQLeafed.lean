/-
  path.leafed at a tree of three nodes.
-/
import Derived.Test.YtedpljclnpiggaaGreatDoorQHeld
set_option linter.unusedVariables false
set_option linter.unusedSimpArgs false
namespace Go.Proofs.YtedpljclnpiggaaGreatDoor
open Go Go.RowKit

set_option maxRecDepth 100000 in
set_option maxHeartbeats 800000 in
theorem leafed_0 (b c : Nat) (p0 m0 e0 p1 p2 m2 e2 : Int) (h0 : 0 < p0) (h1 : 0 ≤ p1) (h2 : 0 < p2) (hm0 : 0 ≤ m0 ∧ m0 ≤ 1000) (hm2 : 0 ≤ m2 ∧ m2 ≤ 1000) (hm : m0 ≠ m2) (he0 : 0 ≤ e0 ∧ e0 ≤ 1000) (he2 : 0 ≤ e2 ∧ e2 ≤ 1000) (w : World) (he : TzEnv w) (hsz : 3 ≤ w.heap.size) (h : T3 w b p0 m0 e0 p1 p2 m2 e2) :
    Calls Tryz.prog 178 #[.agg #[.slice (some ⟨b, 0, none⟩) 3 c], .int .i64 0] w fun r w' => r = .returned (.bool true) ∧ Below w.heap.size w w' := by
  have hb1 := (Below.refl w.heap.size w).alloc (Nat.le_refl _) (.cells #[.slice (some ⟨b, 0, none⟩) 3 c] 44)
  have hs1 : w.heap.size < (w.alloc (.cells #[.slice (some ⟨b, 0, none⟩) 3 c] 44)).heap.size := by simp
  have hct : (w.alloc (.cells #[.slice (some ⟨b, 0, none⟩) 3 c] 44)).cell? ⟨w.heap.size, 0, none⟩ = some (.slice (some ⟨b, 0, none⟩) 3 c) := by simp
  have hsize := size_3 b c p0 m0 e0 p1 p2 m2 e2 h0 h1 h2 hm0 hm2 hm he0 he2 _ (he.below hb1 hsz) (Nat.le_trans hsz hb1.size) (h.new hb1)
  have Hsize := Lib.hid hsize; clear hsize
  have Hb1 := Lib.hid hb1; clear hb1
  have Hs1 := Lib.hid hs1; clear hs1
  have Hct := Lib.hid hct; clear hct
  have H := Lib.hid h; clear h
  have hp : (p0 == 0) = false := beq_eq_false_iff_ne.2 (by omega)
  have hp2 : ¬ p0 = 0 := by omega
  have hpn : (p0 != 0) = true := by simp [hp2]
  clear he h0 h1 h2 hm0 hm2 hm he0 he2
  go_enter Tryz.func178, Tryz.ntmps178
  go_wp2_with fail
  refine Hsize.out.mono ?_
  rintro e w2 ⟨rfl, hb2⟩
  have ht2 := (hb2.cell (p := ⟨w.heap.size, 0, none⟩) Hs1.out).trans Hct.out
  have Hb2 := Lib.hid (Hb1.out.trans (hb2.mono Hb1.out.size)); clear hb2
  have k := (H.out.new Hb2.out).c0
  go_wp2
  go_ret
  exact ⟨rfl, Hb2.out⟩

set_option maxRecDepth 100000 in
set_option maxHeartbeats 800000 in
theorem leafed_1 (b c : Nat) (p0 m0 e0 p1 p2 m2 e2 : Int) (h0 : 0 < p0) (h1 : 0 ≤ p1) (h2 : 0 < p2) (hm0 : 0 ≤ m0 ∧ m0 ≤ 1000) (hm2 : 0 ≤ m2 ∧ m2 ≤ 1000) (hm : m0 ≠ m2) (he0 : 0 ≤ e0 ∧ e0 ≤ 1000) (he2 : 0 ≤ e2 ∧ e2 ≤ 1000) (w : World) (he : TzEnv w) (hsz : 3 ≤ w.heap.size) (h : T3 w b p0 m0 e0 p1 p2 m2 e2) :
    Calls Tryz.prog 178 #[.agg #[.slice (some ⟨b, 0, none⟩) 3 c], .int .i64 1] w fun r w' => r = .returned (.bool true) ∧ Below w.heap.size w w' := by
  have hb1 := (Below.refl w.heap.size w).alloc (Nat.le_refl _) (.cells #[.slice (some ⟨b, 0, none⟩) 3 c] 44)
  have hs1 : w.heap.size < (w.alloc (.cells #[.slice (some ⟨b, 0, none⟩) 3 c] 44)).heap.size := by simp
  have hct : (w.alloc (.cells #[.slice (some ⟨b, 0, none⟩) 3 c] 44)).cell? ⟨w.heap.size, 0, none⟩ = some (.slice (some ⟨b, 0, none⟩) 3 c) := by simp
  have hsize := size_3 b c p0 m0 e0 p1 p2 m2 e2 h0 h1 h2 hm0 hm2 hm he0 he2 _ (he.below hb1 hsz) (Nat.le_trans hsz hb1.size) (h.new hb1)
  have Hsize := Lib.hid hsize; clear hsize
  have Hb1 := Lib.hid hb1; clear hb1
  have Hs1 := Lib.hid hs1; clear hs1
  have Hct := Lib.hid hct; clear hct
  have H := Lib.hid h; clear h
  have hp : (p2 == 0) = false := beq_eq_false_iff_ne.2 (by omega)
  have hp2 : ¬ p2 = 0 := by omega
  have hpn : (p2 != 0) = true := by simp [hp2]
  clear he h0 h1 h2 hm0 hm2 hm he0 he2
  go_enter Tryz.func178, Tryz.ntmps178
  go_wp2_with fail
  refine Hsize.out.mono ?_
  rintro e w2 ⟨rfl, hb2⟩
  have ht2 := (hb2.cell (p := ⟨w.heap.size, 0, none⟩) Hs1.out).trans Hct.out
  have Hb2 := Lib.hid (Hb1.out.trans (hb2.mono Hb1.out.size)); clear hb2
  have k := (H.out.new Hb2.out).c8
  go_wp2
  go_ret
  exact ⟨rfl, Hb2.out⟩
end Go.Proofs.YtedpljclnpiggaaGreatDoor

/-
  path.opened of a seal that a public key closes, by that key's secret.
-/
namespace Go.Proofs.YtedpljclnpiggaaGreatDoor
open Go Go.RowKit

set_option maxRecDepth 100000 in
set_option maxHeartbeats 800000 in
theorem opened_yes (s : Nat) (F : Nat → Prop) (L : List TermD) (hl : L.length ≤ 2000000) (sl secret ta tb : Int) (h1 : getT L sl = ⟨6, 0, ta, tb⟩) (h2 : thereD L.length sl = true) (h3 : getT L ta = ⟨5, 0, secret, 0⟩) (w : World) (h : ProgStore w s F L) :
    Calls Tryz.prog 180 #[.pointer (some ⟨s, 0, none⟩), .int .i64 sl, .int .i64 secret] w fun r w' => r = .returned (.tuple #[.int .i64 tb, .bool true]) ∧ Below w.heap.size w w' := by
  have hg1 := sget_any s F L sl w h hl
  rw [h1, h2] at hg1
  have hg2 := fun W (hW : Below w.heap.size w W) => sget_any s F L ta W (h.new hW) hl
  rw [h3] at hg2
  unfold TermD.arr at hg1 hg2
  have Hg1 := Lib.hid hg1; clear hg1
  have Hg2 := Lib.hid hg2; clear hg2 h h1 h2 h3
  go_enter Tryz.func180, Tryz.ntmps180
  go_wp2_with fail
  refine Hg1.out.mono ?_
  rintro e w1 ⟨rfl, hb1⟩
  have hb1' := hb1.alloc hb1.size (.cells #[.int .u8 6, .int .i64 0, .int .i64 ta, .int .i64 tb] 107)
  have Hb1 := Lib.hid hb1'; clear hb1 hb1'
  have hrow := row_alloc (w := w1) #[.int .u8 6, .int .i64 0, .int .i64 ta, .int .i64 tb] 107 (0, 0)
  have Hrow := Lib.hid hrow; clear hrow
  go_wp2_with fail
  refine (Hg2.out _ Hb1.out).mono ?_
  rintro e w2 ⟨rfl, hb2⟩
  have hr2 := (hb2.block w1.heap.size (by simp)).trans Hrow.out
  have x0 : w2.cell? ⟨w1.heap.size, 0, none⟩ = some (.int .u8 6) := (cell_row hr2 0).trans rfl
  have x2 : w2.cell? ⟨w1.heap.size, 2, none⟩ = some (.int .i64 ta) := (cell_row hr2 2).trans rfl
  have x3 : w2.cell? ⟨w1.heap.size, 3, none⟩ = some (.int .i64 tb) := (cell_row hr2 3).trans rfl
  have hlt := (Array.getElem?_eq_some_iff.1 hr2).1
  have Hb2 := Lib.hid (Hb1.out.trans (hb2.mono Hb1.out.size)); clear hb2 hr2
  go_wp2_with fail
  have hb3 := Hb2.out.alloc Hb2.out.size (.cells #[.int .u8 5, .int .i64 0, .int .i64 secret, .int .i64 0] 107)
  have y3 : (w2.alloc (.cells #[.int .u8 5, .int .i64 0, .int .i64 secret, .int .i64 0] 107)).cell? ⟨w1.heap.size, 3, none⟩ = some (.int .i64 tb) := (((Below.refl w2.heap.size w2).alloc (Nat.le_refl _) _).cell (p := ⟨w1.heap.size, 3, none⟩) hlt).trans x3
  have Hb3 := Lib.hid hb3; clear hb3 x0 x2 x3
  go_quiet (fail)
  go_wp2
  go_ret2
  exact ⟨rfl, below_drewN Hb3.out _⟩
end Go.Proofs.YtedpljclnpiggaaGreatDoor
