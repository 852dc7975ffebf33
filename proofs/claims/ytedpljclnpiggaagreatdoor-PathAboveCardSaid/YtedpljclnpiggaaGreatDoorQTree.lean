/-
  A tree of three nodes: leaves, blank; index.Within.
-/
import Derived.Test.YtedpljclnpiggaaGreatDoorQIdx4
set_option linter.unusedVariables false
set_option linter.unusedSimpArgs false
namespace Go.Proofs.YtedpljclnpiggaaGreatDoor
open Go Go.RowKit

/-- The nodes of a tree of two leaves, their Unmerged empty. -/
structure T3 (w : World) (b : Nat) (p0 m0 e0 p1 p2 m2 e2 : Int) : Prop where
  c0 : w.cell? ⟨b, 0, none⟩ = some (.int .i64 p0)
  c1 : w.cell? ⟨b, 1, none⟩ = some (.int .i64 m0)
  c2 : w.cell? ⟨b, 2, none⟩ = some (.int .i64 e0)
  c3 : ∃ a c, w.cell? ⟨b, 3, none⟩ = some (.slice a 0 c)
  c4 : w.cell? ⟨b, 4, none⟩ = some (.int .i64 p1)
  c5 : w.cell? ⟨b, 5, none⟩ = some (.int .i64 0)
  c6 : w.cell? ⟨b, 6, none⟩ = some (.int .i64 0)
  c7 : ∃ a c, w.cell? ⟨b, 7, none⟩ = some (.slice a 0 c)
  c8 : w.cell? ⟨b, 8, none⟩ = some (.int .i64 p2)
  c9 : w.cell? ⟨b, 9, none⟩ = some (.int .i64 m2)
  c10 : w.cell? ⟨b, 10, none⟩ = some (.int .i64 e2)
  c11 : ∃ a c, w.cell? ⟨b, 11, none⟩ = some (.slice a 0 c)

theorem T3.lt {w : World} {b : Nat} {p0 m0 e0 p1 p2 m2 e2 : Int} (h : T3 w b p0 m0 e0 p1 p2 m2 e2) : b < w.heap.size := World.block_lt_of_cell? w _ h.c0
theorem T3.below {B : Nat} {w w' : World} {b : Nat} {p0 m0 e0 p1 p2 m2 e2 : Int} (h : T3 w b p0 m0 e0 p1 p2 m2 e2) (hb : Below B w w') (hB : b < B) : T3 w' b p0 m0 e0 p1 p2 m2 e2 :=
  have hc : ∀ j, w'.cell? ⟨b, j, none⟩ = w.cell? ⟨b, j, none⟩ := fun j => hb.cell (p := ⟨b, j, none⟩) hB
  ⟨(hc 0).trans h.c0, (hc 1).trans h.c1, (hc 2).trans h.c2, let ⟨a, c, e⟩ := h.c3; ⟨a, c, (hc 3).trans e⟩, (hc 4).trans h.c4, (hc 5).trans h.c5, (hc 6).trans h.c6, let ⟨a, c, e⟩ := h.c7; ⟨a, c, (hc 7).trans e⟩,
    (hc 8).trans h.c8, (hc 9).trans h.c9, (hc 10).trans h.c10, let ⟨a, c, e⟩ := h.c11; ⟨a, c, (hc 11).trans e⟩⟩
theorem T3.new {w w' : World} {b : Nat} {p0 m0 e0 p1 p2 m2 e2 : Int} (h : T3 w b p0 m0 e0 p1 p2 m2 e2) (hb : Below w.heap.size w w') : T3 w' b p0 m0 e0 p1 p2 m2 e2 := h.below hb h.lt

set_option maxRecDepth 100000 in
theorem leaves_3 (a : Option Addr) (c : Nat) (w : World) :
    Calls Tryz.prog 206 #[.agg #[.slice a 3 c]] w fun e w' => e = .returned (.int .i64 2) ∧ Below w.heap.size w w' := by
  have hb := (Below.refl w.heap.size w).alloc (Nat.le_refl _) (.cells #[.slice a 3 c] 44)
  have Hb := Lib.hid hb; clear hb
  go_enter Tryz.func206, Tryz.ntmps206
  go_wp2_with fail
  go_quiet ((go_at_call 298; exact Calls.quiet_of_same (iwidth_2 _)))
  go_wp2
  go_ret
  exact ⟨rfl, below_drewN Hb.out _⟩

set_option maxRecDepth 100000 in
theorem iwithin_01 (w : World) (h : TzEnv w) :
    Calls Tryz.prog 282 #[.int .i64 0, .int .i64 1] w fun e w' => e = .returned (.bool true) ∧ ∃ d, w' = w.drewN d := by
  have H := Lib.hid (fun d => level_0 (w.drewN d) ⟨h.t0, h.t1⟩)
  have H1 := Lib.hid (level_1 w h); clear h
  go_enter Tryz.func282, Tryz.ntmps282
  go_wp2_with fail
  refine H1.out.mono ?_
  rintro e wx ⟨rfl, hwx⟩
  subst wx
  go_wp2_with fail
  go_quiet ((go_at_call 304; exact Calls.quiet_of_same (H.out _)))
  go_wp2
  go_ret
  exact ⟨rfl, _, rfl⟩
end Go.Proofs.YtedpljclnpiggaaGreatDoor

/-
  A tree of three nodes: blank, Span, parent.
-/
namespace Go.Proofs.YtedpljclnpiggaaGreatDoor
open Go Go.RowKit

set_option maxRecDepth 100000 in
theorem blank_no (p m e : Int) (hp : 0 < p) (a : Option Addr) (c : Nat) (w : World) :
    Calls Tryz.prog 284 #[.agg #[.int .i64 p, .int .i64 m, .int .i64 e, .slice a 0 c]] w fun r w' => r = .returned (.bool false) ∧ Below w.heap.size w w' := by
  have hb := (Below.refl w.heap.size w).alloc (Nat.le_refl _) (.cells #[.int .i64 p, .int .i64 m, .int .i64 e, .slice a 0 c] 125)
  have Hb := Lib.hid hb; clear hb
  have hp0 : (p == 0) = false := beq_eq_false_iff_ne.2 (by omega)
  go_enter Tryz.func284, Tryz.ntmps284
  go_wp2
  go_ret
  exact ⟨rfl, Hb.out⟩

set_option maxRecDepth 100000 in
theorem blank_yes (a : Option Addr) (c : Nat) (w : World) :
    Calls Tryz.prog 284 #[.agg #[.int .i64 0, .int .i64 0, .int .i64 0, .slice a 0 c]] w fun r w' => r = .returned (.bool true) ∧ Below w.heap.size w w' := by
  have hb := (Below.refl w.heap.size w).alloc (Nat.le_refl _) (.cells #[.int .i64 0, .int .i64 0, .int .i64 0, .slice a 0 c] 125)
  have Hb := Lib.hid hb; clear hb
  go_enter Tryz.func284, Tryz.ntmps284
  go_wp2
  go_ret
  exact ⟨rfl, Hb.out⟩

set_option maxRecDepth 100000 in
theorem ispan_1 (w : World) (h : TzEnv w) :
    Calls Tryz.prog 305 #[.int .i64 1] w fun r w' => r = .returned (.tuple #[.int .i64 0, .int .i64 1]) ∧ ∃ d, w' = w.drewN d := by
  have H := Lib.hid (level_1 w h); clear h
  go_enter Tryz.func305, Tryz.ntmps305
  go_wp2_with fail
  refine H.out.mono ?_
  rintro e wx ⟨rfl, hwx⟩
  subst wx
  go_wp2_with fail
  go_quiet (fail)
  go_wp2
  go_ret2
  exact ⟨rfl, _, rfl⟩

set_option maxRecDepth 100000 in
set_option maxHeartbeats 800000 in
theorem parent_blank (b c : Nat) (p0 m0 e0 p2 m2 e2 : Int) (w : World) (h : T3 w b p0 m0 e0 0 p2 m2 e2) :
    Calls Tryz.prog 283 #[.agg #[.slice (some ⟨b, 0, none⟩) 3 c], .int .i64 1] w fun r w' => r = .returned (.bool true) ∧ Below w.heap.size w w' := by
  have hb := (Below.refl w.heap.size w).alloc (Nat.le_refl _) (.cells #[.slice (some ⟨b, 0, none⟩) 3 c] 44)
  have h1 := h.new hb
  obtain ⟨a1, cc, c7⟩ := h1.c7
  have c4 := h1.c4
  have c5 := h1.c5
  have c6 := h1.c6
  have Hb := Lib.hid hb; clear hb h1 h
  go_enter Tryz.func283, Tryz.ntmps283
  go_wp2_with fail
  refine (blank_yes a1 cc _).mono ?_
  rintro e w2 ⟨rfl, hb2⟩
  have hsz2 := hb2.size
  have Hb2 := Lib.hid hb2; clear hb2
  go_wp2
  go_ret
  refine ⟨rfl, ?_⟩
  have h3 := Hb.out.alloc (by simp) (.cells #[.int .i64 0, .int .i64 0, .int .i64 0, .slice a1 0 cc] 125)
  exact h3.trans (Hb2.out.mono h3.size)

set_option maxRecDepth 100000 in
set_option maxHeartbeats 800000 in
theorem parent_full (b c : Nat) (p0 m0 e0 p1 p2 m2 e2 : Int) (hp : 0 < p1) (w : World) (he : TzEnv w) (hsz : 3 ≤ w.heap.size) (h : T3 w b p0 m0 e0 p1 p2 m2 e2) :
    Calls Tryz.prog 283 #[.agg #[.slice (some ⟨b, 0, none⟩) 3 c], .int .i64 1] w fun r w' => r = .returned (.bool true) ∧ Below w.heap.size w w' := by
  have hb := (Below.refl w.heap.size w).alloc (Nat.le_refl _) (.cells #[.slice (some ⟨b, 0, none⟩) 3 c] 44)
  have h1 := h.new hb
  obtain ⟨a1, cc, c7⟩ := h1.c7
  have c4 := h1.c4
  have c5 := h1.c5
  have c6 := h1.c6
  have hb3 := hb.alloc (by simp) (.cells #[.int .i64 p1, .int .i64 0, .int .i64 0, .slice a1 0 cc] 125)
  have He := Lib.hid (he.below hb3 hsz)
  have Hb3 := Lib.hid hb3; clear hb hb3 h1 h he
  have hp1 : ¬ p1 < 1 := by omega
  go_enter Tryz.func283, Tryz.ntmps283
  go_wp2_with fail
  refine (ispan_1 _ He.out).mono ?_
  rintro e wx ⟨rfl, d, hwx⟩
  subst wx
  go_wp2
  refine wp_loop_rounds 1 ?_
  rw [rounds_succ]
  go_wp2
  go_ret
  exact ⟨rfl, below_drewN Hb3.out d⟩
end Go.Proofs.YtedpljclnpiggaaGreatDoor
