/- index at trees of 1, 2, 4 and 8 leaves: Level, Span, Width, Parent. (printed by bin/gen_aidx.py) -/
import Derived.Test.YtedpljclnpiggaaGreatDoorV06
set_option linter.unusedVariables false
set_option linter.unusedSimpArgs false
set_option maxRecDepth 100000
set_option maxHeartbeats 12800000
namespace Go.Proofs.YtedpljclnpiggaaGreatDoor
open Go Go.RowKit
structure TzF (w : World) : Prop where
 e : TzEnv w
 t3 : w.cell? ⟨0, 3, none⟩ = some (.int .u8 2)
 t7 : w.cell? ⟨0, 7, none⟩ = some (.int .u8 3)
theorem TzF.t0 {w : World} (h : TzF w) : w.cell? ⟨0, 0, none⟩ = some (.int .u8 0) := h.e.t0
theorem TzF.t1 {w : World} (h : TzF w) : w.cell? ⟨0, 1, none⟩ = some (.int .u8 1) := h.e.t1
theorem TzF.below {B : Nat} {w w' : World} (h : TzF w) (hb : Below B w w') (hB : 3 ≤ B) : TzF w' :=
 ⟨h.e.below hb hB, (hb.cell (p := ⟨0, 3, none⟩) (by simp only; omega)).trans h.t3, (hb.cell (p := ⟨0, 7, none⟩) (by simp only; omega)).trans h.t7⟩
def levD : Nat → Nat
 | 0 => 0
 | 1 => 1
 | 2 => 0
 | 3 => 2
 | 4 => 0
 | 5 => 1
 | 6 => 0
 | 7 => 3
 | 8 => 0
 | 9 => 1
 | 10 => 0
 | 11 => 2
 | 12 => 0
 | 13 => 1
 | 14 => 0
 | _ => 0
def parX : Nat → Nat
 | 0 => 1
 | 1 => 3
 | 2 => 1
 | 3 => 7
 | 4 => 5
 | 5 => 3
 | 6 => 5
 | 7 => 15
 | 8 => 9
 | 9 => 11
 | 10 => 9
 | 11 => 7
 | 12 => 13
 | 13 => 11
 | 14 => 13
 | _ => 0
def spF : Nat → Nat
 | 0 => 0
 | 1 => 0
 | 2 => 1
 | 3 => 0
 | 4 => 2
 | 5 => 2
 | 6 => 3
 | 7 => 0
 | 8 => 4
 | 9 => 4
 | 10 => 5
 | 11 => 4
 | 12 => 6
 | 13 => 6
 | 14 => 7
 | _ => 0
def spL : Nat → Nat
 | 0 => 0
 | 1 => 1
 | 2 => 1
 | 3 => 3
 | 4 => 2
 | 5 => 3
 | 6 => 3
 | 7 => 7
 | 8 => 4
 | 9 => 5
 | 10 => 5
 | 11 => 7
 | 12 => 6
 | 13 => 7
 | 14 => 7
 | _ => 0
theorem atz_0 (w : World) (h : TzF w) : Calls Tryz.prog 326 #[.int .u64 18446744073709551615] w fun e w' => e = .returned (.int .i64 0) ∧ w' = w := by
 have h0 := h.t0
 have e1 : IntKind.u64.wrap (-18446744073709551615) = 1 := by decide +kernel
 have e2 : bits BinOp.and IntKind.u64 18446744073709551615 1 = 1 := by decide +kernel
 have e3 : IntKind.u64.wrap 285870213051353865 = 285870213051353865 := by decide +kernel
 go_enter Tryz.func326, Tryz.ntmps326
 go_wp2
 go_ret
 exact ⟨rfl, rfl⟩
theorem alev_0 (w : World) (h : TzF w) : Calls Tryz.prog 304 #[.int .i64 0] w fun e w' => e = .returned (.int .i64 0) ∧ w' = w := by
 have H := hQ (atz_0 w h); clear h
 go_enter Tryz.func304, Tryz.ntmps304
 go_wp2_with fail
 refine H.out.mono ?_
 rintro e wx ⟨rfl, hwx⟩
 subst wx
 go_wp2
 go_ret
 exact ⟨rfl, rfl⟩
theorem atz_1 (w : World) (h : TzF w) : Calls Tryz.prog 326 #[.int .u64 18446744073709551614] w fun e w' => e = .returned (.int .i64 1) ∧ w' = w := by
 have h0 := h.t1
 have e1 : IntKind.u64.wrap (-18446744073709551614) = 2 := by decide +kernel
 have e2 : bits BinOp.and IntKind.u64 18446744073709551614 2 = 2 := by decide +kernel
 have e3 : IntKind.u64.wrap 571740426102707730 = 571740426102707730 := by decide +kernel
 go_enter Tryz.func326, Tryz.ntmps326
 go_wp2
 go_ret
 exact ⟨rfl, rfl⟩
theorem alev_1 (w : World) (h : TzF w) : Calls Tryz.prog 304 #[.int .i64 1] w fun e w' => e = .returned (.int .i64 1) ∧ w' = w := by
 have H := hQ (atz_1 w h); clear h
 go_enter Tryz.func304, Tryz.ntmps304
 go_wp2_with fail
 refine H.out.mono ?_
 rintro e wx ⟨rfl, hwx⟩
 subst wx
 go_wp2
 go_ret
 exact ⟨rfl, rfl⟩
theorem atz_2 (w : World) (h : TzF w) : Calls Tryz.prog 326 #[.int .u64 18446744073709551613] w fun e w' => e = .returned (.int .i64 0) ∧ w' = w := by
 have h0 := h.t0
 have e1 : IntKind.u64.wrap (-18446744073709551613) = 3 := by decide +kernel
 have e2 : bits BinOp.and IntKind.u64 18446744073709551613 3 = 1 := by decide +kernel
 have e3 : IntKind.u64.wrap 285870213051353865 = 285870213051353865 := by decide +kernel
 go_enter Tryz.func326, Tryz.ntmps326
 go_wp2
 go_ret
 exact ⟨rfl, rfl⟩
theorem alev_2 (w : World) (h : TzF w) : Calls Tryz.prog 304 #[.int .i64 2] w fun e w' => e = .returned (.int .i64 0) ∧ w' = w := by
 have H := hQ (atz_2 w h); clear h
 go_enter Tryz.func304, Tryz.ntmps304
 go_wp2_with fail
 refine H.out.mono ?_
 rintro e wx ⟨rfl, hwx⟩
 subst wx
 go_wp2
 go_ret
 exact ⟨rfl, rfl⟩
theorem atz_3 (w : World) (h : TzF w) : Calls Tryz.prog 326 #[.int .u64 18446744073709551612] w fun e w' => e = .returned (.int .i64 2) ∧ w' = w := by
 have h0 := h.t3
 have e1 : IntKind.u64.wrap (-18446744073709551612) = 4 := by decide +kernel
 have e2 : bits BinOp.and IntKind.u64 18446744073709551612 4 = 4 := by decide +kernel
 have e3 : IntKind.u64.wrap 1143480852205415460 = 1143480852205415460 := by decide +kernel
 go_enter Tryz.func326, Tryz.ntmps326
 go_wp2
 go_ret
 exact ⟨rfl, rfl⟩
theorem alev_3 (w : World) (h : TzF w) : Calls Tryz.prog 304 #[.int .i64 3] w fun e w' => e = .returned (.int .i64 2) ∧ w' = w := by
 have H := hQ (atz_3 w h); clear h
 go_enter Tryz.func304, Tryz.ntmps304
 go_wp2_with fail
 refine H.out.mono ?_
 rintro e wx ⟨rfl, hwx⟩
 subst wx
 go_wp2
 go_ret
 exact ⟨rfl, rfl⟩
theorem atz_4 (w : World) (h : TzF w) : Calls Tryz.prog 326 #[.int .u64 18446744073709551611] w fun e w' => e = .returned (.int .i64 0) ∧ w' = w := by
 have h0 := h.t0
 have e1 : IntKind.u64.wrap (-18446744073709551611) = 5 := by decide +kernel
 have e2 : bits BinOp.and IntKind.u64 18446744073709551611 5 = 1 := by decide +kernel
 have e3 : IntKind.u64.wrap 285870213051353865 = 285870213051353865 := by decide +kernel
 go_enter Tryz.func326, Tryz.ntmps326
 go_wp2
 go_ret
 exact ⟨rfl, rfl⟩
theorem alev_4 (w : World) (h : TzF w) : Calls Tryz.prog 304 #[.int .i64 4] w fun e w' => e = .returned (.int .i64 0) ∧ w' = w := by
 have H := hQ (atz_4 w h); clear h
 go_enter Tryz.func304, Tryz.ntmps304
 go_wp2_with fail
 refine H.out.mono ?_
 rintro e wx ⟨rfl, hwx⟩
 subst wx
 go_wp2
 go_ret
 exact ⟨rfl, rfl⟩
theorem atz_5 (w : World) (h : TzF w) : Calls Tryz.prog 326 #[.int .u64 18446744073709551610] w fun e w' => e = .returned (.int .i64 1) ∧ w' = w := by
 have h0 := h.t1
 have e1 : IntKind.u64.wrap (-18446744073709551610) = 6 := by decide +kernel
 have e2 : bits BinOp.and IntKind.u64 18446744073709551610 6 = 2 := by decide +kernel
 have e3 : IntKind.u64.wrap 571740426102707730 = 571740426102707730 := by decide +kernel
 go_enter Tryz.func326, Tryz.ntmps326
 go_wp2
 go_ret
 exact ⟨rfl, rfl⟩
theorem alev_5 (w : World) (h : TzF w) : Calls Tryz.prog 304 #[.int .i64 5] w fun e w' => e = .returned (.int .i64 1) ∧ w' = w := by
 have H := hQ (atz_5 w h); clear h
 go_enter Tryz.func304, Tryz.ntmps304
 go_wp2_with fail
 refine H.out.mono ?_
 rintro e wx ⟨rfl, hwx⟩
 subst wx
 go_wp2
 go_ret
 exact ⟨rfl, rfl⟩
theorem atz_6 (w : World) (h : TzF w) : Calls Tryz.prog 326 #[.int .u64 18446744073709551609] w fun e w' => e = .returned (.int .i64 0) ∧ w' = w := by
 have h0 := h.t0
 have e1 : IntKind.u64.wrap (-18446744073709551609) = 7 := by decide +kernel
 have e2 : bits BinOp.and IntKind.u64 18446744073709551609 7 = 1 := by decide +kernel
 have e3 : IntKind.u64.wrap 285870213051353865 = 285870213051353865 := by decide +kernel
 go_enter Tryz.func326, Tryz.ntmps326
 go_wp2
 go_ret
 exact ⟨rfl, rfl⟩
theorem alev_6 (w : World) (h : TzF w) : Calls Tryz.prog 304 #[.int .i64 6] w fun e w' => e = .returned (.int .i64 0) ∧ w' = w := by
 have H := hQ (atz_6 w h); clear h
 go_enter Tryz.func304, Tryz.ntmps304
 go_wp2_with fail
 refine H.out.mono ?_
 rintro e wx ⟨rfl, hwx⟩
 subst wx
 go_wp2
 go_ret
 exact ⟨rfl, rfl⟩
theorem atz_7 (w : World) (h : TzF w) : Calls Tryz.prog 326 #[.int .u64 18446744073709551608] w fun e w' => e = .returned (.int .i64 3) ∧ w' = w := by
 have h0 := h.t7
 have e1 : IntKind.u64.wrap (-18446744073709551608) = 8 := by decide +kernel
 have e2 : bits BinOp.and IntKind.u64 18446744073709551608 8 = 8 := by decide +kernel
 have e3 : IntKind.u64.wrap 2286961704410830920 = 2286961704410830920 := by decide +kernel
 go_enter Tryz.func326, Tryz.ntmps326
 go_wp2
 go_ret
 exact ⟨rfl, rfl⟩
theorem alev_7 (w : World) (h : TzF w) : Calls Tryz.prog 304 #[.int .i64 7] w fun e w' => e = .returned (.int .i64 3) ∧ w' = w := by
 have H := hQ (atz_7 w h); clear h
 go_enter Tryz.func304, Tryz.ntmps304
 go_wp2_with fail
 refine H.out.mono ?_
 rintro e wx ⟨rfl, hwx⟩
 subst wx
 go_wp2
 go_ret
 exact ⟨rfl, rfl⟩
theorem atz_8 (w : World) (h : TzF w) : Calls Tryz.prog 326 #[.int .u64 18446744073709551607] w fun e w' => e = .returned (.int .i64 0) ∧ w' = w := by
 have h0 := h.t0
 have e1 : IntKind.u64.wrap (-18446744073709551607) = 9 := by decide +kernel
 have e2 : bits BinOp.and IntKind.u64 18446744073709551607 9 = 1 := by decide +kernel
 have e3 : IntKind.u64.wrap 285870213051353865 = 285870213051353865 := by decide +kernel
 go_enter Tryz.func326, Tryz.ntmps326
 go_wp2
 go_ret
 exact ⟨rfl, rfl⟩
theorem alev_8 (w : World) (h : TzF w) : Calls Tryz.prog 304 #[.int .i64 8] w fun e w' => e = .returned (.int .i64 0) ∧ w' = w := by
 have H := hQ (atz_8 w h); clear h
 go_enter Tryz.func304, Tryz.ntmps304
 go_wp2_with fail
 refine H.out.mono ?_
 rintro e wx ⟨rfl, hwx⟩
 subst wx
 go_wp2
 go_ret
 exact ⟨rfl, rfl⟩
theorem atz_9 (w : World) (h : TzF w) : Calls Tryz.prog 326 #[.int .u64 18446744073709551606] w fun e w' => e = .returned (.int .i64 1) ∧ w' = w := by
 have h0 := h.t1
 have e1 : IntKind.u64.wrap (-18446744073709551606) = 10 := by decide +kernel
 have e2 : bits BinOp.and IntKind.u64 18446744073709551606 10 = 2 := by decide +kernel
 have e3 : IntKind.u64.wrap 571740426102707730 = 571740426102707730 := by decide +kernel
 go_enter Tryz.func326, Tryz.ntmps326
 go_wp2
 go_ret
 exact ⟨rfl, rfl⟩
theorem alev_9 (w : World) (h : TzF w) : Calls Tryz.prog 304 #[.int .i64 9] w fun e w' => e = .returned (.int .i64 1) ∧ w' = w := by
 have H := hQ (atz_9 w h); clear h
 go_enter Tryz.func304, Tryz.ntmps304
 go_wp2_with fail
 refine H.out.mono ?_
 rintro e wx ⟨rfl, hwx⟩
 subst wx
 go_wp2
 go_ret
 exact ⟨rfl, rfl⟩
theorem atz_10 (w : World) (h : TzF w) : Calls Tryz.prog 326 #[.int .u64 18446744073709551605] w fun e w' => e = .returned (.int .i64 0) ∧ w' = w := by
 have h0 := h.t0
 have e1 : IntKind.u64.wrap (-18446744073709551605) = 11 := by decide +kernel
 have e2 : bits BinOp.and IntKind.u64 18446744073709551605 11 = 1 := by decide +kernel
 have e3 : IntKind.u64.wrap 285870213051353865 = 285870213051353865 := by decide +kernel
 go_enter Tryz.func326, Tryz.ntmps326
 go_wp2
 go_ret
 exact ⟨rfl, rfl⟩
theorem alev_10 (w : World) (h : TzF w) : Calls Tryz.prog 304 #[.int .i64 10] w fun e w' => e = .returned (.int .i64 0) ∧ w' = w := by
 have H := hQ (atz_10 w h); clear h
 go_enter Tryz.func304, Tryz.ntmps304
 go_wp2_with fail
 refine H.out.mono ?_
 rintro e wx ⟨rfl, hwx⟩
 subst wx
 go_wp2
 go_ret
 exact ⟨rfl, rfl⟩
theorem atz_11 (w : World) (h : TzF w) : Calls Tryz.prog 326 #[.int .u64 18446744073709551604] w fun e w' => e = .returned (.int .i64 2) ∧ w' = w := by
 have h0 := h.t3
 have e1 : IntKind.u64.wrap (-18446744073709551604) = 12 := by decide +kernel
 have e2 : bits BinOp.and IntKind.u64 18446744073709551604 12 = 4 := by decide +kernel
 have e3 : IntKind.u64.wrap 1143480852205415460 = 1143480852205415460 := by decide +kernel
 go_enter Tryz.func326, Tryz.ntmps326
 go_wp2
 go_ret
 exact ⟨rfl, rfl⟩
theorem alev_11 (w : World) (h : TzF w) : Calls Tryz.prog 304 #[.int .i64 11] w fun e w' => e = .returned (.int .i64 2) ∧ w' = w := by
 have H := hQ (atz_11 w h); clear h
 go_enter Tryz.func304, Tryz.ntmps304
 go_wp2_with fail
 refine H.out.mono ?_
 rintro e wx ⟨rfl, hwx⟩
 subst wx
 go_wp2
 go_ret
 exact ⟨rfl, rfl⟩
theorem atz_12 (w : World) (h : TzF w) : Calls Tryz.prog 326 #[.int .u64 18446744073709551603] w fun e w' => e = .returned (.int .i64 0) ∧ w' = w := by
 have h0 := h.t0
 have e1 : IntKind.u64.wrap (-18446744073709551603) = 13 := by decide +kernel
 have e2 : bits BinOp.and IntKind.u64 18446744073709551603 13 = 1 := by decide +kernel
 have e3 : IntKind.u64.wrap 285870213051353865 = 285870213051353865 := by decide +kernel
 go_enter Tryz.func326, Tryz.ntmps326
 go_wp2
 go_ret
 exact ⟨rfl, rfl⟩
theorem alev_12 (w : World) (h : TzF w) : Calls Tryz.prog 304 #[.int .i64 12] w fun e w' => e = .returned (.int .i64 0) ∧ w' = w := by
 have H := hQ (atz_12 w h); clear h
 go_enter Tryz.func304, Tryz.ntmps304
 go_wp2_with fail
 refine H.out.mono ?_
 rintro e wx ⟨rfl, hwx⟩
 subst wx
 go_wp2
 go_ret
 exact ⟨rfl, rfl⟩
theorem atz_13 (w : World) (h : TzF w) : Calls Tryz.prog 326 #[.int .u64 18446744073709551602] w fun e w' => e = .returned (.int .i64 1) ∧ w' = w := by
 have h0 := h.t1
 have e1 : IntKind.u64.wrap (-18446744073709551602) = 14 := by decide +kernel
 have e2 : bits BinOp.and IntKind.u64 18446744073709551602 14 = 2 := by decide +kernel
 have e3 : IntKind.u64.wrap 571740426102707730 = 571740426102707730 := by decide +kernel
 go_enter Tryz.func326, Tryz.ntmps326
 go_wp2
 go_ret
 exact ⟨rfl, rfl⟩
theorem alev_13 (w : World) (h : TzF w) : Calls Tryz.prog 304 #[.int .i64 13] w fun e w' => e = .returned (.int .i64 1) ∧ w' = w := by
 have H := hQ (atz_13 w h); clear h
 go_enter Tryz.func304, Tryz.ntmps304
 go_wp2_with fail
 refine H.out.mono ?_
 rintro e wx ⟨rfl, hwx⟩
 subst wx
 go_wp2
 go_ret
 exact ⟨rfl, rfl⟩
theorem atz_14 (w : World) (h : TzF w) : Calls Tryz.prog 326 #[.int .u64 18446744073709551601] w fun e w' => e = .returned (.int .i64 0) ∧ w' = w := by
 have h0 := h.t0
 have e1 : IntKind.u64.wrap (-18446744073709551601) = 15 := by decide +kernel
 have e2 : bits BinOp.and IntKind.u64 18446744073709551601 15 = 1 := by decide +kernel
 have e3 : IntKind.u64.wrap 285870213051353865 = 285870213051353865 := by decide +kernel
 go_enter Tryz.func326, Tryz.ntmps326
 go_wp2
 go_ret
 exact ⟨rfl, rfl⟩
theorem alev_14 (w : World) (h : TzF w) : Calls Tryz.prog 304 #[.int .i64 14] w fun e w' => e = .returned (.int .i64 0) ∧ w' = w := by
 have H := hQ (atz_14 w h); clear h
 go_enter Tryz.func304, Tryz.ntmps304
 go_wp2_with fail
 refine H.out.mono ?_
 rintro e wx ⟨rfl, hwx⟩
 subst wx
 go_wp2
 go_ret
 exact ⟨rfl, rfl⟩
theorem aspan_1 (w : World) (h : TzF w) : Calls Tryz.prog 305 #[.int .i64 1] w fun r w' => r = .returned (.tuple #[.int .i64 0, .int .i64 1]) ∧ ∃ d, w' = w.drewN d := by
 have H := hQ (alev_1 w h); clear h
 go_enter Tryz.func305, Tryz.ntmps305
 go_wp2_with fail
 refine H.out.mono ?_
 rintro e wx ⟨rfl, hwx⟩
 subst wx
 go_wp2_with fail
 go_quiet (fail)
 go_wp2
 go_ret2
 exact ⟨rfl, _, rfl⟩
theorem aspan_3 (w : World) (h : TzF w) : Calls Tryz.prog 305 #[.int .i64 3] w fun r w' => r = .returned (.tuple #[.int .i64 0, .int .i64 3]) ∧ ∃ d, w' = w.drewN d := by
 have H := hQ (alev_3 w h); clear h
 go_enter Tryz.func305, Tryz.ntmps305
 go_wp2_with fail
 refine H.out.mono ?_
 rintro e wx ⟨rfl, hwx⟩
 subst wx
 go_wp2_with fail
 go_quiet (fail)
 go_wp2
 go_ret2
 exact ⟨rfl, _, rfl⟩
theorem aspan_5 (w : World) (h : TzF w) : Calls Tryz.prog 305 #[.int .i64 5] w fun r w' => r = .returned (.tuple #[.int .i64 2, .int .i64 3]) ∧ ∃ d, w' = w.drewN d := by
 have H := hQ (alev_5 w h); clear h
 go_enter Tryz.func305, Tryz.ntmps305
 go_wp2_with fail
 refine H.out.mono ?_
 rintro e wx ⟨rfl, hwx⟩
 subst wx
 go_wp2_with fail
 go_quiet (fail)
 go_wp2
 go_ret2
 exact ⟨rfl, _, rfl⟩
theorem aspan_7 (w : World) (h : TzF w) : Calls Tryz.prog 305 #[.int .i64 7] w fun r w' => r = .returned (.tuple #[.int .i64 0, .int .i64 7]) ∧ ∃ d, w' = w.drewN d := by
 have H := hQ (alev_7 w h); clear h
 go_enter Tryz.func305, Tryz.ntmps305
 go_wp2_with fail
 refine H.out.mono ?_
 rintro e wx ⟨rfl, hwx⟩
 subst wx
 go_wp2_with fail
 go_quiet (fail)
 go_wp2
 go_ret2
 exact ⟨rfl, _, rfl⟩
theorem aspan_9 (w : World) (h : TzF w) : Calls Tryz.prog 305 #[.int .i64 9] w fun r w' => r = .returned (.tuple #[.int .i64 4, .int .i64 5]) ∧ ∃ d, w' = w.drewN d := by
 have H := hQ (alev_9 w h); clear h
 go_enter Tryz.func305, Tryz.ntmps305
 go_wp2_with fail
 refine H.out.mono ?_
 rintro e wx ⟨rfl, hwx⟩
 subst wx
 go_wp2_with fail
 go_quiet (fail)
 go_wp2
 go_ret2
 exact ⟨rfl, _, rfl⟩
theorem aspan_11 (w : World) (h : TzF w) : Calls Tryz.prog 305 #[.int .i64 11] w fun r w' => r = .returned (.tuple #[.int .i64 4, .int .i64 7]) ∧ ∃ d, w' = w.drewN d := by
 have H := hQ (alev_11 w h); clear h
 go_enter Tryz.func305, Tryz.ntmps305
 go_wp2_with fail
 refine H.out.mono ?_
 rintro e wx ⟨rfl, hwx⟩
 subst wx
 go_wp2_with fail
 go_quiet (fail)
 go_wp2
 go_ret2
 exact ⟨rfl, _, rfl⟩
theorem aspan_13 (w : World) (h : TzF w) : Calls Tryz.prog 305 #[.int .i64 13] w fun r w' => r = .returned (.tuple #[.int .i64 6, .int .i64 7]) ∧ ∃ d, w' = w.drewN d := by
 have H := hQ (alev_13 w h); clear h
 go_enter Tryz.func305, Tryz.ntmps305
 go_wp2_with fail
 refine H.out.mono ?_
 rintro e wx ⟨rfl, hwx⟩
 subst wx
 go_wp2_with fail
 go_quiet (fail)
 go_wp2
 go_ret2
 exact ⟨rfl, _, rfl⟩
theorem aspan_any (x : Nat) (hx : x < 15) (ho : x % 2 = 1) (w : World) (h : TzF w) : Calls Tryz.prog 305 #[.int .i64 x] w fun r w' => r = .returned (.tuple #[.int .i64 (spF x : Nat), .int .i64 (spL x : Nat)]) ∧ ∃ d, w' = w.drewN d := by
 have hc : x = 1 ∨ x = 3 ∨ x = 5 ∨ x = 7 ∨ x = 9 ∨ x = 11 ∨ x = 13 := by omega
 rcases hc with rfl | rfl | rfl | rfl | rfl | rfl | rfl
 · exact aspan_1 w h
 · exact aspan_3 w h
 · exact aspan_5 w h
 · exact aspan_7 w h
 · exact aspan_9 w h
 · exact aspan_11 w h
 · exact aspan_13 w h
theorem atree_1 (w : World) : Calls Tryz.prog 323 #[.int .i64 1] w fun e w' => e = .returned (.bool true) ∧ w' = w := by
 have q : bits BinOp.and IntKind.i64 1 0 = 0 := by decide +kernel
 go_enter Tryz.func323, Tryz.ntmps323
 go_wp2
 go_ret
 exact ⟨rfl, rfl⟩
theorem awidth_1 (w : World) : Calls Tryz.prog 298 #[.int .i64 1] w fun e w' => e = .returned (.int .i64 1) ∧ w' = w := by
 have H := hQ (atree_1 w)
 go_enter Tryz.func298, Tryz.ntmps298
 go_wp2_with (go_at_call 323; refine H.out.mono ?_; rintro e wx ⟨rfl, hwx⟩; subst wx)
 go_ret
 exact ⟨rfl, rfl⟩
theorem atree_2 (w : World) : Calls Tryz.prog 323 #[.int .i64 2] w fun e w' => e = .returned (.bool true) ∧ w' = w := by
 have q : bits BinOp.and IntKind.i64 2 1 = 0 := by decide +kernel
 go_enter Tryz.func323, Tryz.ntmps323
 go_wp2
 go_ret
 exact ⟨rfl, rfl⟩
theorem awidth_2 (w : World) : Calls Tryz.prog 298 #[.int .i64 2] w fun e w' => e = .returned (.int .i64 3) ∧ w' = w := by
 have H := hQ (atree_2 w)
 go_enter Tryz.func298, Tryz.ntmps298
 go_wp2_with (go_at_call 323; refine H.out.mono ?_; rintro e wx ⟨rfl, hwx⟩; subst wx)
 go_ret
 exact ⟨rfl, rfl⟩
theorem atree_3 (w : World) : Calls Tryz.prog 323 #[.int .i64 3] w fun e w' => e = .returned (.bool false) ∧ w' = w := by
 have q : bits BinOp.and IntKind.i64 3 2 = 2 := by decide +kernel
 go_enter Tryz.func323, Tryz.ntmps323
 go_wp2
 go_ret
 exact ⟨rfl, rfl⟩
theorem awidth_3 (w : World) : Calls Tryz.prog 298 #[.int .i64 3] w fun e w' => e = .returned (.int .i64 0) ∧ w' = w := by
 have H := hQ (atree_3 w)
 go_enter Tryz.func298, Tryz.ntmps298
 go_wp2_with (go_at_call 323; refine H.out.mono ?_; rintro e wx ⟨rfl, hwx⟩; subst wx)
 go_ret
 exact ⟨rfl, rfl⟩
theorem atree_4 (w : World) : Calls Tryz.prog 323 #[.int .i64 4] w fun e w' => e = .returned (.bool true) ∧ w' = w := by
 have q : bits BinOp.and IntKind.i64 4 3 = 0 := by decide +kernel
 go_enter Tryz.func323, Tryz.ntmps323
 go_wp2
 go_ret
 exact ⟨rfl, rfl⟩
theorem awidth_4 (w : World) : Calls Tryz.prog 298 #[.int .i64 4] w fun e w' => e = .returned (.int .i64 7) ∧ w' = w := by
 have H := hQ (atree_4 w)
 go_enter Tryz.func298, Tryz.ntmps298
 go_wp2_with (go_at_call 323; refine H.out.mono ?_; rintro e wx ⟨rfl, hwx⟩; subst wx)
 go_ret
 exact ⟨rfl, rfl⟩
theorem atree_5 (w : World) : Calls Tryz.prog 323 #[.int .i64 5] w fun e w' => e = .returned (.bool false) ∧ w' = w := by
 have q : bits BinOp.and IntKind.i64 5 4 = 4 := by decide +kernel
 go_enter Tryz.func323, Tryz.ntmps323
 go_wp2
 go_ret
 exact ⟨rfl, rfl⟩
theorem awidth_5 (w : World) : Calls Tryz.prog 298 #[.int .i64 5] w fun e w' => e = .returned (.int .i64 0) ∧ w' = w := by
 have H := hQ (atree_5 w)
 go_enter Tryz.func298, Tryz.ntmps298
 go_wp2_with (go_at_call 323; refine H.out.mono ?_; rintro e wx ⟨rfl, hwx⟩; subst wx)
 go_ret
 exact ⟨rfl, rfl⟩
theorem atree_6 (w : World) : Calls Tryz.prog 323 #[.int .i64 6] w fun e w' => e = .returned (.bool false) ∧ w' = w := by
 have q : bits BinOp.and IntKind.i64 6 5 = 4 := by decide +kernel
 go_enter Tryz.func323, Tryz.ntmps323
 go_wp2
 go_ret
 exact ⟨rfl, rfl⟩
theorem awidth_6 (w : World) : Calls Tryz.prog 298 #[.int .i64 6] w fun e w' => e = .returned (.int .i64 0) ∧ w' = w := by
 have H := hQ (atree_6 w)
 go_enter Tryz.func298, Tryz.ntmps298
 go_wp2_with (go_at_call 323; refine H.out.mono ?_; rintro e wx ⟨rfl, hwx⟩; subst wx)
 go_ret
 exact ⟨rfl, rfl⟩
theorem atree_7 (w : World) : Calls Tryz.prog 323 #[.int .i64 7] w fun e w' => e = .returned (.bool false) ∧ w' = w := by
 have q : bits BinOp.and IntKind.i64 7 6 = 6 := by decide +kernel
 go_enter Tryz.func323, Tryz.ntmps323
 go_wp2
 go_ret
 exact ⟨rfl, rfl⟩
theorem awidth_7 (w : World) : Calls Tryz.prog 298 #[.int .i64 7] w fun e w' => e = .returned (.int .i64 0) ∧ w' = w := by
 have H := hQ (atree_7 w)
 go_enter Tryz.func298, Tryz.ntmps298
 go_wp2_with (go_at_call 323; refine H.out.mono ?_; rintro e wx ⟨rfl, hwx⟩; subst wx)
 go_ret
 exact ⟨rfl, rfl⟩
theorem atree_8 (w : World) : Calls Tryz.prog 323 #[.int .i64 8] w fun e w' => e = .returned (.bool true) ∧ w' = w := by
 have q : bits BinOp.and IntKind.i64 8 7 = 0 := by decide +kernel
 go_enter Tryz.func323, Tryz.ntmps323
 go_wp2
 go_ret
 exact ⟨rfl, rfl⟩
theorem awidth_8 (w : World) : Calls Tryz.prog 298 #[.int .i64 8] w fun e w' => e = .returned (.int .i64 15) ∧ w' = w := by
 have H := hQ (atree_8 w)
 go_enter Tryz.func298, Tryz.ntmps298
 go_wp2_with (go_at_call 323; refine H.out.mono ?_; rintro e wx ⟨rfl, hwx⟩; subst wx)
 go_ret
 exact ⟨rfl, rfl⟩
theorem ain_0_1 (w : World) : Calls Tryz.prog 306 #[.int .i64 0, .int .i64 1] w fun e w' => e = .returned (.bool true) ∧ w' = w := by
 have H := hQ (atree_1 w)
 go_enter Tryz.func306, Tryz.ntmps306
 go_wp2_with (go_at_call 323; refine H.out.mono ?_; rintro e wx ⟨rfl, hwx⟩; subst wx)
 go_ret
 exact ⟨rfl, rfl⟩
theorem aparent_0_1 (w : World) (h : TzF w) : Calls Tryz.prog 307 #[.int .i64 0, .int .i64 1] w fun e w' => e = .returned (.tuple #[.int .i64 0, .bool false]) ∧ w' = w := by
 have H := hQ (ain_0_1 w)
 have HL := hQ (alev_0 w h)
 clear h
 go_enter Tryz.func307, Tryz.ntmps307
 go_wp2_with (first
  | (go_at_call 306; refine H.out.mono ?_; rintro e wx ⟨rfl, hwx⟩; subst wx)
  | (go_at_call 304; refine HL.out.mono ?_; rintro e wx ⟨rfl, hwx⟩; subst wx))
 go_ret2
 exact ⟨rfl, rfl⟩
theorem ain_0_2 (w : World) : Calls Tryz.prog 306 #[.int .i64 0, .int .i64 2] w fun e w' => e = .returned (.bool true) ∧ w' = w := by
 have H := hQ (atree_2 w)
 go_enter Tryz.func306, Tryz.ntmps306
 go_wp2_with (go_at_call 323; refine H.out.mono ?_; rintro e wx ⟨rfl, hwx⟩; subst wx)
 go_ret
 exact ⟨rfl, rfl⟩
theorem aparent_0_2 (w : World) (h : TzF w) : Calls Tryz.prog 307 #[.int .i64 0, .int .i64 2] w fun e w' => e = .returned (.tuple #[.int .i64 1, .bool true]) ∧ w' = w := by
 have H := hQ (ain_0_2 w)
 have HL := hQ (alev_0 w h)
 clear h
 have q1 : bits BinOp.or IntKind.i64 0 1 = 1 := by decide +kernel
 have q2 : bits BinOp.andNot IntKind.i64 1 2 = 1 := by decide +kernel
 go_enter Tryz.func307, Tryz.ntmps307
 go_wp2_with (first
  | (go_at_call 306; refine H.out.mono ?_; rintro e wx ⟨rfl, hwx⟩; subst wx)
  | (go_at_call 304; refine HL.out.mono ?_; rintro e wx ⟨rfl, hwx⟩; subst wx))
 go_ret2
 exact ⟨rfl, rfl⟩
theorem ain_1_2 (w : World) : Calls Tryz.prog 306 #[.int .i64 1, .int .i64 2] w fun e w' => e = .returned (.bool true) ∧ w' = w := by
 have H := hQ (atree_2 w)
 go_enter Tryz.func306, Tryz.ntmps306
 go_wp2_with (go_at_call 323; refine H.out.mono ?_; rintro e wx ⟨rfl, hwx⟩; subst wx)
 go_ret
 exact ⟨rfl, rfl⟩
theorem aparent_1_2 (w : World) (h : TzF w) : Calls Tryz.prog 307 #[.int .i64 1, .int .i64 2] w fun e w' => e = .returned (.tuple #[.int .i64 0, .bool false]) ∧ w' = w := by
 have H := hQ (ain_1_2 w)
 have HL := hQ (alev_1 w h)
 clear h
 go_enter Tryz.func307, Tryz.ntmps307
 go_wp2_with (first
  | (go_at_call 306; refine H.out.mono ?_; rintro e wx ⟨rfl, hwx⟩; subst wx)
  | (go_at_call 304; refine HL.out.mono ?_; rintro e wx ⟨rfl, hwx⟩; subst wx))
 go_ret2
 exact ⟨rfl, rfl⟩
theorem ain_2_2 (w : World) : Calls Tryz.prog 306 #[.int .i64 2, .int .i64 2] w fun e w' => e = .returned (.bool true) ∧ w' = w := by
 have H := hQ (atree_2 w)
 go_enter Tryz.func306, Tryz.ntmps306
 go_wp2_with (go_at_call 323; refine H.out.mono ?_; rintro e wx ⟨rfl, hwx⟩; subst wx)
 go_ret
 exact ⟨rfl, rfl⟩
theorem aparent_2_2 (w : World) (h : TzF w) : Calls Tryz.prog 307 #[.int .i64 2, .int .i64 2] w fun e w' => e = .returned (.tuple #[.int .i64 1, .bool true]) ∧ w' = w := by
 have H := hQ (ain_2_2 w)
 have HL := hQ (alev_2 w h)
 clear h
 have q1 : bits BinOp.or IntKind.i64 2 1 = 3 := by decide +kernel
 have q2 : bits BinOp.andNot IntKind.i64 3 2 = 1 := by decide +kernel
 go_enter Tryz.func307, Tryz.ntmps307
 go_wp2_with (first
  | (go_at_call 306; refine H.out.mono ?_; rintro e wx ⟨rfl, hwx⟩; subst wx)
  | (go_at_call 304; refine HL.out.mono ?_; rintro e wx ⟨rfl, hwx⟩; subst wx))
 go_ret2
 exact ⟨rfl, rfl⟩
theorem ain_0_4 (w : World) : Calls Tryz.prog 306 #[.int .i64 0, .int .i64 4] w fun e w' => e = .returned (.bool true) ∧ w' = w := by
 have H := hQ (atree_4 w)
 go_enter Tryz.func306, Tryz.ntmps306
 go_wp2_with (go_at_call 323; refine H.out.mono ?_; rintro e wx ⟨rfl, hwx⟩; subst wx)
 go_ret
 exact ⟨rfl, rfl⟩
theorem aparent_0_4 (w : World) (h : TzF w) : Calls Tryz.prog 307 #[.int .i64 0, .int .i64 4] w fun e w' => e = .returned (.tuple #[.int .i64 1, .bool true]) ∧ w' = w := by
 have H := hQ (ain_0_4 w)
 have HL := hQ (alev_0 w h)
 clear h
 have q1 : bits BinOp.or IntKind.i64 0 1 = 1 := by decide +kernel
 have q2 : bits BinOp.andNot IntKind.i64 1 2 = 1 := by decide +kernel
 go_enter Tryz.func307, Tryz.ntmps307
 go_wp2_with (first
  | (go_at_call 306; refine H.out.mono ?_; rintro e wx ⟨rfl, hwx⟩; subst wx)
  | (go_at_call 304; refine HL.out.mono ?_; rintro e wx ⟨rfl, hwx⟩; subst wx))
 go_ret2
 exact ⟨rfl, rfl⟩
theorem ain_1_4 (w : World) : Calls Tryz.prog 306 #[.int .i64 1, .int .i64 4] w fun e w' => e = .returned (.bool true) ∧ w' = w := by
 have H := hQ (atree_4 w)
 go_enter Tryz.func306, Tryz.ntmps306
 go_wp2_with (go_at_call 323; refine H.out.mono ?_; rintro e wx ⟨rfl, hwx⟩; subst wx)
 go_ret
 exact ⟨rfl, rfl⟩
theorem aparent_1_4 (w : World) (h : TzF w) : Calls Tryz.prog 307 #[.int .i64 1, .int .i64 4] w fun e w' => e = .returned (.tuple #[.int .i64 3, .bool true]) ∧ w' = w := by
 have H := hQ (ain_1_4 w)
 have HL := hQ (alev_1 w h)
 clear h
 have q1 : bits BinOp.or IntKind.i64 1 2 = 3 := by decide +kernel
 have q2 : bits BinOp.andNot IntKind.i64 3 4 = 3 := by decide +kernel
 go_enter Tryz.func307, Tryz.ntmps307
 go_wp2_with (first
  | (go_at_call 306; refine H.out.mono ?_; rintro e wx ⟨rfl, hwx⟩; subst wx)
  | (go_at_call 304; refine HL.out.mono ?_; rintro e wx ⟨rfl, hwx⟩; subst wx))
 go_ret2
 exact ⟨rfl, rfl⟩
theorem ain_2_4 (w : World) : Calls Tryz.prog 306 #[.int .i64 2, .int .i64 4] w fun e w' => e = .returned (.bool true) ∧ w' = w := by
 have H := hQ (atree_4 w)
 go_enter Tryz.func306, Tryz.ntmps306
 go_wp2_with (go_at_call 323; refine H.out.mono ?_; rintro e wx ⟨rfl, hwx⟩; subst wx)
 go_ret
 exact ⟨rfl, rfl⟩
theorem aparent_2_4 (w : World) (h : TzF w) : Calls Tryz.prog 307 #[.int .i64 2, .int .i64 4] w fun e w' => e = .returned (.tuple #[.int .i64 1, .bool true]) ∧ w' = w := by
 have H := hQ (ain_2_4 w)
 have HL := hQ (alev_2 w h)
 clear h
 have q1 : bits BinOp.or IntKind.i64 2 1 = 3 := by decide +kernel
 have q2 : bits BinOp.andNot IntKind.i64 3 2 = 1 := by decide +kernel
 go_enter Tryz.func307, Tryz.ntmps307
 go_wp2_with (first
  | (go_at_call 306; refine H.out.mono ?_; rintro e wx ⟨rfl, hwx⟩; subst wx)
  | (go_at_call 304; refine HL.out.mono ?_; rintro e wx ⟨rfl, hwx⟩; subst wx))
 go_ret2
 exact ⟨rfl, rfl⟩
theorem ain_3_4 (w : World) : Calls Tryz.prog 306 #[.int .i64 3, .int .i64 4] w fun e w' => e = .returned (.bool true) ∧ w' = w := by
 have H := hQ (atree_4 w)
 go_enter Tryz.func306, Tryz.ntmps306
 go_wp2_with (go_at_call 323; refine H.out.mono ?_; rintro e wx ⟨rfl, hwx⟩; subst wx)
 go_ret
 exact ⟨rfl, rfl⟩
theorem aparent_3_4 (w : World) (h : TzF w) : Calls Tryz.prog 307 #[.int .i64 3, .int .i64 4] w fun e w' => e = .returned (.tuple #[.int .i64 0, .bool false]) ∧ w' = w := by
 have H := hQ (ain_3_4 w)
 have HL := hQ (alev_3 w h)
 clear h
 go_enter Tryz.func307, Tryz.ntmps307
 go_wp2_with (first
  | (go_at_call 306; refine H.out.mono ?_; rintro e wx ⟨rfl, hwx⟩; subst wx)
  | (go_at_call 304; refine HL.out.mono ?_; rintro e wx ⟨rfl, hwx⟩; subst wx))
 go_ret2
 exact ⟨rfl, rfl⟩
theorem ain_4_4 (w : World) : Calls Tryz.prog 306 #[.int .i64 4, .int .i64 4] w fun e w' => e = .returned (.bool true) ∧ w' = w := by
 have H := hQ (atree_4 w)
 go_enter Tryz.func306, Tryz.ntmps306
 go_wp2_with (go_at_call 323; refine H.out.mono ?_; rintro e wx ⟨rfl, hwx⟩; subst wx)
 go_ret
 exact ⟨rfl, rfl⟩
theorem aparent_4_4 (w : World) (h : TzF w) : Calls Tryz.prog 307 #[.int .i64 4, .int .i64 4] w fun e w' => e = .returned (.tuple #[.int .i64 5, .bool true]) ∧ w' = w := by
 have H := hQ (ain_4_4 w)
 have HL := hQ (alev_4 w h)
 clear h
 have q1 : bits BinOp.or IntKind.i64 4 1 = 5 := by decide +kernel
 have q2 : bits BinOp.andNot IntKind.i64 5 2 = 5 := by decide +kernel
 go_enter Tryz.func307, Tryz.ntmps307
 go_wp2_with (first
  | (go_at_call 306; refine H.out.mono ?_; rintro e wx ⟨rfl, hwx⟩; subst wx)
  | (go_at_call 304; refine HL.out.mono ?_; rintro e wx ⟨rfl, hwx⟩; subst wx))
 go_ret2
 exact ⟨rfl, rfl⟩
theorem ain_5_4 (w : World) : Calls Tryz.prog 306 #[.int .i64 5, .int .i64 4] w fun e w' => e = .returned (.bool true) ∧ w' = w := by
 have H := hQ (atree_4 w)
 go_enter Tryz.func306, Tryz.ntmps306
 go_wp2_with (go_at_call 323; refine H.out.mono ?_; rintro e wx ⟨rfl, hwx⟩; subst wx)
 go_ret
 exact ⟨rfl, rfl⟩
theorem aparent_5_4 (w : World) (h : TzF w) : Calls Tryz.prog 307 #[.int .i64 5, .int .i64 4] w fun e w' => e = .returned (.tuple #[.int .i64 3, .bool true]) ∧ w' = w := by
 have H := hQ (ain_5_4 w)
 have HL := hQ (alev_5 w h)
 clear h
 have q1 : bits BinOp.or IntKind.i64 5 2 = 7 := by decide +kernel
 have q2 : bits BinOp.andNot IntKind.i64 7 4 = 3 := by decide +kernel
 go_enter Tryz.func307, Tryz.ntmps307
 go_wp2_with (first
  | (go_at_call 306; refine H.out.mono ?_; rintro e wx ⟨rfl, hwx⟩; subst wx)
  | (go_at_call 304; refine HL.out.mono ?_; rintro e wx ⟨rfl, hwx⟩; subst wx))
 go_ret2
 exact ⟨rfl, rfl⟩
theorem ain_6_4 (w : World) : Calls Tryz.prog 306 #[.int .i64 6, .int .i64 4] w fun e w' => e = .returned (.bool true) ∧ w' = w := by
 have H := hQ (atree_4 w)
 go_enter Tryz.func306, Tryz.ntmps306
 go_wp2_with (go_at_call 323; refine H.out.mono ?_; rintro e wx ⟨rfl, hwx⟩; subst wx)
 go_ret
 exact ⟨rfl, rfl⟩
theorem aparent_6_4 (w : World) (h : TzF w) : Calls Tryz.prog 307 #[.int .i64 6, .int .i64 4] w fun e w' => e = .returned (.tuple #[.int .i64 5, .bool true]) ∧ w' = w := by
 have H := hQ (ain_6_4 w)
 have HL := hQ (alev_6 w h)
 clear h
 have q1 : bits BinOp.or IntKind.i64 6 1 = 7 := by decide +kernel
 have q2 : bits BinOp.andNot IntKind.i64 7 2 = 5 := by decide +kernel
 go_enter Tryz.func307, Tryz.ntmps307
 go_wp2_with (first
  | (go_at_call 306; refine H.out.mono ?_; rintro e wx ⟨rfl, hwx⟩; subst wx)
  | (go_at_call 304; refine HL.out.mono ?_; rintro e wx ⟨rfl, hwx⟩; subst wx))
 go_ret2
 exact ⟨rfl, rfl⟩
theorem ain_0_8 (w : World) : Calls Tryz.prog 306 #[.int .i64 0, .int .i64 8] w fun e w' => e = .returned (.bool true) ∧ w' = w := by
 have H := hQ (atree_8 w)
 go_enter Tryz.func306, Tryz.ntmps306
 go_wp2_with (go_at_call 323; refine H.out.mono ?_; rintro e wx ⟨rfl, hwx⟩; subst wx)
 go_ret
 exact ⟨rfl, rfl⟩
theorem aparent_0_8 (w : World) (h : TzF w) : Calls Tryz.prog 307 #[.int .i64 0, .int .i64 8] w fun e w' => e = .returned (.tuple #[.int .i64 1, .bool true]) ∧ w' = w := by
 have H := hQ (ain_0_8 w)
 have HL := hQ (alev_0 w h)
 clear h
 have q1 : bits BinOp.or IntKind.i64 0 1 = 1 := by decide +kernel
 have q2 : bits BinOp.andNot IntKind.i64 1 2 = 1 := by decide +kernel
 go_enter Tryz.func307, Tryz.ntmps307
 go_wp2_with (first
  | (go_at_call 306; refine H.out.mono ?_; rintro e wx ⟨rfl, hwx⟩; subst wx)
  | (go_at_call 304; refine HL.out.mono ?_; rintro e wx ⟨rfl, hwx⟩; subst wx))
 go_ret2
 exact ⟨rfl, rfl⟩
theorem ain_1_8 (w : World) : Calls Tryz.prog 306 #[.int .i64 1, .int .i64 8] w fun e w' => e = .returned (.bool true) ∧ w' = w := by
 have H := hQ (atree_8 w)
 go_enter Tryz.func306, Tryz.ntmps306
 go_wp2_with (go_at_call 323; refine H.out.mono ?_; rintro e wx ⟨rfl, hwx⟩; subst wx)
 go_ret
 exact ⟨rfl, rfl⟩
theorem aparent_1_8 (w : World) (h : TzF w) : Calls Tryz.prog 307 #[.int .i64 1, .int .i64 8] w fun e w' => e = .returned (.tuple #[.int .i64 3, .bool true]) ∧ w' = w := by
 have H := hQ (ain_1_8 w)
 have HL := hQ (alev_1 w h)
 clear h
 have q1 : bits BinOp.or IntKind.i64 1 2 = 3 := by decide +kernel
 have q2 : bits BinOp.andNot IntKind.i64 3 4 = 3 := by decide +kernel
 go_enter Tryz.func307, Tryz.ntmps307
 go_wp2_with (first
  | (go_at_call 306; refine H.out.mono ?_; rintro e wx ⟨rfl, hwx⟩; subst wx)
  | (go_at_call 304; refine HL.out.mono ?_; rintro e wx ⟨rfl, hwx⟩; subst wx))
 go_ret2
 exact ⟨rfl, rfl⟩
theorem ain_2_8 (w : World) : Calls Tryz.prog 306 #[.int .i64 2, .int .i64 8] w fun e w' => e = .returned (.bool true) ∧ w' = w := by
 have H := hQ (atree_8 w)
 go_enter Tryz.func306, Tryz.ntmps306
 go_wp2_with (go_at_call 323; refine H.out.mono ?_; rintro e wx ⟨rfl, hwx⟩; subst wx)
 go_ret
 exact ⟨rfl, rfl⟩
theorem aparent_2_8 (w : World) (h : TzF w) : Calls Tryz.prog 307 #[.int .i64 2, .int .i64 8] w fun e w' => e = .returned (.tuple #[.int .i64 1, .bool true]) ∧ w' = w := by
 have H := hQ (ain_2_8 w)
 have HL := hQ (alev_2 w h)
 clear h
 have q1 : bits BinOp.or IntKind.i64 2 1 = 3 := by decide +kernel
 have q2 : bits BinOp.andNot IntKind.i64 3 2 = 1 := by decide +kernel
 go_enter Tryz.func307, Tryz.ntmps307
 go_wp2_with (first
  | (go_at_call 306; refine H.out.mono ?_; rintro e wx ⟨rfl, hwx⟩; subst wx)
  | (go_at_call 304; refine HL.out.mono ?_; rintro e wx ⟨rfl, hwx⟩; subst wx))
 go_ret2
 exact ⟨rfl, rfl⟩
theorem ain_3_8 (w : World) : Calls Tryz.prog 306 #[.int .i64 3, .int .i64 8] w fun e w' => e = .returned (.bool true) ∧ w' = w := by
 have H := hQ (atree_8 w)
 go_enter Tryz.func306, Tryz.ntmps306
 go_wp2_with (go_at_call 323; refine H.out.mono ?_; rintro e wx ⟨rfl, hwx⟩; subst wx)
 go_ret
 exact ⟨rfl, rfl⟩
theorem aparent_3_8 (w : World) (h : TzF w) : Calls Tryz.prog 307 #[.int .i64 3, .int .i64 8] w fun e w' => e = .returned (.tuple #[.int .i64 7, .bool true]) ∧ w' = w := by
 have H := hQ (ain_3_8 w)
 have HL := hQ (alev_3 w h)
 clear h
 have q1 : bits BinOp.or IntKind.i64 3 4 = 7 := by decide +kernel
 have q2 : bits BinOp.andNot IntKind.i64 7 8 = 7 := by decide +kernel
 go_enter Tryz.func307, Tryz.ntmps307
 go_wp2_with (first
  | (go_at_call 306; refine H.out.mono ?_; rintro e wx ⟨rfl, hwx⟩; subst wx)
  | (go_at_call 304; refine HL.out.mono ?_; rintro e wx ⟨rfl, hwx⟩; subst wx))
 go_ret2
 exact ⟨rfl, rfl⟩
theorem ain_4_8 (w : World) : Calls Tryz.prog 306 #[.int .i64 4, .int .i64 8] w fun e w' => e = .returned (.bool true) ∧ w' = w := by
 have H := hQ (atree_8 w)
 go_enter Tryz.func306, Tryz.ntmps306
 go_wp2_with (go_at_call 323; refine H.out.mono ?_; rintro e wx ⟨rfl, hwx⟩; subst wx)
 go_ret
 exact ⟨rfl, rfl⟩
theorem aparent_4_8 (w : World) (h : TzF w) : Calls Tryz.prog 307 #[.int .i64 4, .int .i64 8] w fun e w' => e = .returned (.tuple #[.int .i64 5, .bool true]) ∧ w' = w := by
 have H := hQ (ain_4_8 w)
 have HL := hQ (alev_4 w h)
 clear h
 have q1 : bits BinOp.or IntKind.i64 4 1 = 5 := by decide +kernel
 have q2 : bits BinOp.andNot IntKind.i64 5 2 = 5 := by decide +kernel
 go_enter Tryz.func307, Tryz.ntmps307
 go_wp2_with (first
  | (go_at_call 306; refine H.out.mono ?_; rintro e wx ⟨rfl, hwx⟩; subst wx)
  | (go_at_call 304; refine HL.out.mono ?_; rintro e wx ⟨rfl, hwx⟩; subst wx))
 go_ret2
 exact ⟨rfl, rfl⟩
theorem ain_5_8 (w : World) : Calls Tryz.prog 306 #[.int .i64 5, .int .i64 8] w fun e w' => e = .returned (.bool true) ∧ w' = w := by
 have H := hQ (atree_8 w)
 go_enter Tryz.func306, Tryz.ntmps306
 go_wp2_with (go_at_call 323; refine H.out.mono ?_; rintro e wx ⟨rfl, hwx⟩; subst wx)
 go_ret
 exact ⟨rfl, rfl⟩
theorem aparent_5_8 (w : World) (h : TzF w) : Calls Tryz.prog 307 #[.int .i64 5, .int .i64 8] w fun e w' => e = .returned (.tuple #[.int .i64 3, .bool true]) ∧ w' = w := by
 have H := hQ (ain_5_8 w)
 have HL := hQ (alev_5 w h)
 clear h
 have q1 : bits BinOp.or IntKind.i64 5 2 = 7 := by decide +kernel
 have q2 : bits BinOp.andNot IntKind.i64 7 4 = 3 := by decide +kernel
 go_enter Tryz.func307, Tryz.ntmps307
 go_wp2_with (first
  | (go_at_call 306; refine H.out.mono ?_; rintro e wx ⟨rfl, hwx⟩; subst wx)
  | (go_at_call 304; refine HL.out.mono ?_; rintro e wx ⟨rfl, hwx⟩; subst wx))
 go_ret2
 exact ⟨rfl, rfl⟩
theorem ain_6_8 (w : World) : Calls Tryz.prog 306 #[.int .i64 6, .int .i64 8] w fun e w' => e = .returned (.bool true) ∧ w' = w := by
 have H := hQ (atree_8 w)
 go_enter Tryz.func306, Tryz.ntmps306
 go_wp2_with (go_at_call 323; refine H.out.mono ?_; rintro e wx ⟨rfl, hwx⟩; subst wx)
 go_ret
 exact ⟨rfl, rfl⟩
theorem aparent_6_8 (w : World) (h : TzF w) : Calls Tryz.prog 307 #[.int .i64 6, .int .i64 8] w fun e w' => e = .returned (.tuple #[.int .i64 5, .bool true]) ∧ w' = w := by
 have H := hQ (ain_6_8 w)
 have HL := hQ (alev_6 w h)
 clear h
 have q1 : bits BinOp.or IntKind.i64 6 1 = 7 := by decide +kernel
 have q2 : bits BinOp.andNot IntKind.i64 7 2 = 5 := by decide +kernel
 go_enter Tryz.func307, Tryz.ntmps307
 go_wp2_with (first
  | (go_at_call 306; refine H.out.mono ?_; rintro e wx ⟨rfl, hwx⟩; subst wx)
  | (go_at_call 304; refine HL.out.mono ?_; rintro e wx ⟨rfl, hwx⟩; subst wx))
 go_ret2
 exact ⟨rfl, rfl⟩
theorem ain_7_8 (w : World) : Calls Tryz.prog 306 #[.int .i64 7, .int .i64 8] w fun e w' => e = .returned (.bool true) ∧ w' = w := by
 have H := hQ (atree_8 w)
 go_enter Tryz.func306, Tryz.ntmps306
 go_wp2_with (go_at_call 323; refine H.out.mono ?_; rintro e wx ⟨rfl, hwx⟩; subst wx)
 go_ret
 exact ⟨rfl, rfl⟩
theorem aparent_7_8 (w : World) (h : TzF w) : Calls Tryz.prog 307 #[.int .i64 7, .int .i64 8] w fun e w' => e = .returned (.tuple #[.int .i64 0, .bool false]) ∧ w' = w := by
 have H := hQ (ain_7_8 w)
 have HL := hQ (alev_7 w h)
 clear h
 go_enter Tryz.func307, Tryz.ntmps307
 go_wp2_with (first
  | (go_at_call 306; refine H.out.mono ?_; rintro e wx ⟨rfl, hwx⟩; subst wx)
  | (go_at_call 304; refine HL.out.mono ?_; rintro e wx ⟨rfl, hwx⟩; subst wx))
 go_ret2
 exact ⟨rfl, rfl⟩
theorem ain_8_8 (w : World) : Calls Tryz.prog 306 #[.int .i64 8, .int .i64 8] w fun e w' => e = .returned (.bool true) ∧ w' = w := by
 have H := hQ (atree_8 w)
 go_enter Tryz.func306, Tryz.ntmps306
 go_wp2_with (go_at_call 323; refine H.out.mono ?_; rintro e wx ⟨rfl, hwx⟩; subst wx)
 go_ret
 exact ⟨rfl, rfl⟩
theorem aparent_8_8 (w : World) (h : TzF w) : Calls Tryz.prog 307 #[.int .i64 8, .int .i64 8] w fun e w' => e = .returned (.tuple #[.int .i64 9, .bool true]) ∧ w' = w := by
 have H := hQ (ain_8_8 w)
 have HL := hQ (alev_8 w h)
 clear h
 have q1 : bits BinOp.or IntKind.i64 8 1 = 9 := by decide +kernel
 have q2 : bits BinOp.andNot IntKind.i64 9 2 = 9 := by decide +kernel
 go_enter Tryz.func307, Tryz.ntmps307
 go_wp2_with (first
  | (go_at_call 306; refine H.out.mono ?_; rintro e wx ⟨rfl, hwx⟩; subst wx)
  | (go_at_call 304; refine HL.out.mono ?_; rintro e wx ⟨rfl, hwx⟩; subst wx))
 go_ret2
 exact ⟨rfl, rfl⟩
theorem ain_9_8 (w : World) : Calls Tryz.prog 306 #[.int .i64 9, .int .i64 8] w fun e w' => e = .returned (.bool true) ∧ w' = w := by
 have H := hQ (atree_8 w)
 go_enter Tryz.func306, Tryz.ntmps306
 go_wp2_with (go_at_call 323; refine H.out.mono ?_; rintro e wx ⟨rfl, hwx⟩; subst wx)
 go_ret
 exact ⟨rfl, rfl⟩
theorem aparent_9_8 (w : World) (h : TzF w) : Calls Tryz.prog 307 #[.int .i64 9, .int .i64 8] w fun e w' => e = .returned (.tuple #[.int .i64 11, .bool true]) ∧ w' = w := by
 have H := hQ (ain_9_8 w)
 have HL := hQ (alev_9 w h)
 clear h
 have q1 : bits BinOp.or IntKind.i64 9 2 = 11 := by decide +kernel
 have q2 : bits BinOp.andNot IntKind.i64 11 4 = 11 := by decide +kernel
 go_enter Tryz.func307, Tryz.ntmps307
 go_wp2_with (first
  | (go_at_call 306; refine H.out.mono ?_; rintro e wx ⟨rfl, hwx⟩; subst wx)
  | (go_at_call 304; refine HL.out.mono ?_; rintro e wx ⟨rfl, hwx⟩; subst wx))
 go_ret2
 exact ⟨rfl, rfl⟩
theorem ain_10_8 (w : World) : Calls Tryz.prog 306 #[.int .i64 10, .int .i64 8] w fun e w' => e = .returned (.bool true) ∧ w' = w := by
 have H := hQ (atree_8 w)
 go_enter Tryz.func306, Tryz.ntmps306
 go_wp2_with (go_at_call 323; refine H.out.mono ?_; rintro e wx ⟨rfl, hwx⟩; subst wx)
 go_ret
 exact ⟨rfl, rfl⟩
theorem aparent_10_8 (w : World) (h : TzF w) : Calls Tryz.prog 307 #[.int .i64 10, .int .i64 8] w fun e w' => e = .returned (.tuple #[.int .i64 9, .bool true]) ∧ w' = w := by
 have H := hQ (ain_10_8 w)
 have HL := hQ (alev_10 w h)
 clear h
 have q1 : bits BinOp.or IntKind.i64 10 1 = 11 := by decide +kernel
 have q2 : bits BinOp.andNot IntKind.i64 11 2 = 9 := by decide +kernel
 go_enter Tryz.func307, Tryz.ntmps307
 go_wp2_with (first
  | (go_at_call 306; refine H.out.mono ?_; rintro e wx ⟨rfl, hwx⟩; subst wx)
  | (go_at_call 304; refine HL.out.mono ?_; rintro e wx ⟨rfl, hwx⟩; subst wx))
 go_ret2
 exact ⟨rfl, rfl⟩
theorem ain_11_8 (w : World) : Calls Tryz.prog 306 #[.int .i64 11, .int .i64 8] w fun e w' => e = .returned (.bool true) ∧ w' = w := by
 have H := hQ (atree_8 w)
 go_enter Tryz.func306, Tryz.ntmps306
 go_wp2_with (go_at_call 323; refine H.out.mono ?_; rintro e wx ⟨rfl, hwx⟩; subst wx)
 go_ret
 exact ⟨rfl, rfl⟩
theorem aparent_11_8 (w : World) (h : TzF w) : Calls Tryz.prog 307 #[.int .i64 11, .int .i64 8] w fun e w' => e = .returned (.tuple #[.int .i64 7, .bool true]) ∧ w' = w := by
 have H := hQ (ain_11_8 w)
 have HL := hQ (alev_11 w h)
 clear h
 have q1 : bits BinOp.or IntKind.i64 11 4 = 15 := by decide +kernel
 have q2 : bits BinOp.andNot IntKind.i64 15 8 = 7 := by decide +kernel
 go_enter Tryz.func307, Tryz.ntmps307
 go_wp2_with (first
  | (go_at_call 306; refine H.out.mono ?_; rintro e wx ⟨rfl, hwx⟩; subst wx)
  | (go_at_call 304; refine HL.out.mono ?_; rintro e wx ⟨rfl, hwx⟩; subst wx))
 go_ret2
 exact ⟨rfl, rfl⟩
theorem ain_12_8 (w : World) : Calls Tryz.prog 306 #[.int .i64 12, .int .i64 8] w fun e w' => e = .returned (.bool true) ∧ w' = w := by
 have H := hQ (atree_8 w)
 go_enter Tryz.func306, Tryz.ntmps306
 go_wp2_with (go_at_call 323; refine H.out.mono ?_; rintro e wx ⟨rfl, hwx⟩; subst wx)
 go_ret
 exact ⟨rfl, rfl⟩
theorem aparent_12_8 (w : World) (h : TzF w) : Calls Tryz.prog 307 #[.int .i64 12, .int .i64 8] w fun e w' => e = .returned (.tuple #[.int .i64 13, .bool true]) ∧ w' = w := by
 have H := hQ (ain_12_8 w)
 have HL := hQ (alev_12 w h)
 clear h
 have q1 : bits BinOp.or IntKind.i64 12 1 = 13 := by decide +kernel
 have q2 : bits BinOp.andNot IntKind.i64 13 2 = 13 := by decide +kernel
 go_enter Tryz.func307, Tryz.ntmps307
 go_wp2_with (first
  | (go_at_call 306; refine H.out.mono ?_; rintro e wx ⟨rfl, hwx⟩; subst wx)
  | (go_at_call 304; refine HL.out.mono ?_; rintro e wx ⟨rfl, hwx⟩; subst wx))
 go_ret2
 exact ⟨rfl, rfl⟩
theorem ain_13_8 (w : World) : Calls Tryz.prog 306 #[.int .i64 13, .int .i64 8] w fun e w' => e = .returned (.bool true) ∧ w' = w := by
 have H := hQ (atree_8 w)
 go_enter Tryz.func306, Tryz.ntmps306
 go_wp2_with (go_at_call 323; refine H.out.mono ?_; rintro e wx ⟨rfl, hwx⟩; subst wx)
 go_ret
 exact ⟨rfl, rfl⟩
theorem aparent_13_8 (w : World) (h : TzF w) : Calls Tryz.prog 307 #[.int .i64 13, .int .i64 8] w fun e w' => e = .returned (.tuple #[.int .i64 11, .bool true]) ∧ w' = w := by
 have H := hQ (ain_13_8 w)
 have HL := hQ (alev_13 w h)
 clear h
 have q1 : bits BinOp.or IntKind.i64 13 2 = 15 := by decide +kernel
 have q2 : bits BinOp.andNot IntKind.i64 15 4 = 11 := by decide +kernel
 go_enter Tryz.func307, Tryz.ntmps307
 go_wp2_with (first
  | (go_at_call 306; refine H.out.mono ?_; rintro e wx ⟨rfl, hwx⟩; subst wx)
  | (go_at_call 304; refine HL.out.mono ?_; rintro e wx ⟨rfl, hwx⟩; subst wx))
 go_ret2
 exact ⟨rfl, rfl⟩
theorem ain_14_8 (w : World) : Calls Tryz.prog 306 #[.int .i64 14, .int .i64 8] w fun e w' => e = .returned (.bool true) ∧ w' = w := by
 have H := hQ (atree_8 w)
 go_enter Tryz.func306, Tryz.ntmps306
 go_wp2_with (go_at_call 323; refine H.out.mono ?_; rintro e wx ⟨rfl, hwx⟩; subst wx)
 go_ret
 exact ⟨rfl, rfl⟩
theorem aparent_14_8 (w : World) (h : TzF w) : Calls Tryz.prog 307 #[.int .i64 14, .int .i64 8] w fun e w' => e = .returned (.tuple #[.int .i64 13, .bool true]) ∧ w' = w := by
 have H := hQ (ain_14_8 w)
 have HL := hQ (alev_14 w h)
 clear h
 have q1 : bits BinOp.or IntKind.i64 14 1 = 15 := by decide +kernel
 have q2 : bits BinOp.andNot IntKind.i64 15 2 = 13 := by decide +kernel
 go_enter Tryz.func307, Tryz.ntmps307
 go_wp2_with (first
  | (go_at_call 306; refine H.out.mono ?_; rintro e wx ⟨rfl, hwx⟩; subst wx)
  | (go_at_call 304; refine HL.out.mono ?_; rintro e wx ⟨rfl, hwx⟩; subst wx))
 go_ret2
 exact ⟨rfl, rfl⟩
theorem ain_any (x n : Nat) (hn : n = 1 ∨ n = 2 ∨ n = 4 ∨ n = 8) (hx : x < 2 * n - 1) (w : World) : Calls Tryz.prog 306 #[.int .i64 x, .int .i64 n] w fun e w' => e = .returned (.bool true) ∧ w' = w := by
 rcases hn with rfl | rfl | rfl | rfl
 · obtain rfl : x = 0 := by omega
   exact ain_0_1 w
 · have hc : x = 0 ∨ x = 1 ∨ x = 2 := by omega
   rcases hc with rfl | rfl | rfl
   · exact ain_0_2 w
   · exact ain_1_2 w
   · exact ain_2_2 w
 · have hc : x = 0 ∨ x = 1 ∨ x = 2 ∨ x = 3 ∨ x = 4 ∨ x = 5 ∨ x = 6 := by omega
   rcases hc with rfl | rfl | rfl | rfl | rfl | rfl | rfl
   · exact ain_0_4 w
   · exact ain_1_4 w
   · exact ain_2_4 w
   · exact ain_3_4 w
   · exact ain_4_4 w
   · exact ain_5_4 w
   · exact ain_6_4 w
 · have hc : x = 0 ∨ x = 1 ∨ x = 2 ∨ x = 3 ∨ x = 4 ∨ x = 5 ∨ x = 6 ∨ x = 7 ∨ x = 8 ∨ x = 9 ∨ x = 10 ∨ x = 11 ∨ x = 12 ∨ x = 13 ∨ x = 14 := by omega
   rcases hc with rfl | rfl | rfl | rfl | rfl | rfl | rfl | rfl | rfl | rfl | rfl | rfl | rfl | rfl | rfl
   · exact ain_0_8 w
   · exact ain_1_8 w
   · exact ain_2_8 w
   · exact ain_3_8 w
   · exact ain_4_8 w
   · exact ain_5_8 w
   · exact ain_6_8 w
   · exact ain_7_8 w
   · exact ain_8_8 w
   · exact ain_9_8 w
   · exact ain_10_8 w
   · exact ain_11_8 w
   · exact ain_12_8 w
   · exact ain_13_8 w
   · exact ain_14_8 w
theorem aparent_any (x n : Nat) (hn : n = 1 ∨ n = 2 ∨ n = 4 ∨ n = 8) (hx : x < 2 * n - 1) (w : World) (h : TzF w) : Calls Tryz.prog 307 #[.int .i64 x, .int .i64 n] w fun e w' => e = .returned (.tuple #[.int .i64 ((if x + 1 = n then 0 else parX x : Nat) : Int), .bool (decide (x + 1 ≠ n))]) ∧ w' = w := by
 rcases hn with rfl | rfl | rfl | rfl
 · obtain rfl : x = 0 := by omega
   exact aparent_0_1 w h
 · have hc : x = 0 ∨ x = 1 ∨ x = 2 := by omega
   rcases hc with rfl | rfl | rfl
   · exact aparent_0_2 w h
   · exact aparent_1_2 w h
   · exact aparent_2_2 w h
 · have hc : x = 0 ∨ x = 1 ∨ x = 2 ∨ x = 3 ∨ x = 4 ∨ x = 5 ∨ x = 6 := by omega
   rcases hc with rfl | rfl | rfl | rfl | rfl | rfl | rfl
   · exact aparent_0_4 w h
   · exact aparent_1_4 w h
   · exact aparent_2_4 w h
   · exact aparent_3_4 w h
   · exact aparent_4_4 w h
   · exact aparent_5_4 w h
   · exact aparent_6_4 w h
 · have hc : x = 0 ∨ x = 1 ∨ x = 2 ∨ x = 3 ∨ x = 4 ∨ x = 5 ∨ x = 6 ∨ x = 7 ∨ x = 8 ∨ x = 9 ∨ x = 10 ∨ x = 11 ∨ x = 12 ∨ x = 13 ∨ x = 14 := by omega
   rcases hc with rfl | rfl | rfl | rfl | rfl | rfl | rfl | rfl | rfl | rfl | rfl | rfl | rfl | rfl | rfl
   · exact aparent_0_8 w h
   · exact aparent_1_8 w h
   · exact aparent_2_8 w h
   · exact aparent_3_8 w h
   · exact aparent_4_8 w h
   · exact aparent_5_8 w h
   · exact aparent_6_8 w h
   · exact aparent_7_8 w h
   · exact aparent_8_8 w h
   · exact aparent_9_8 w h
   · exact aparent_10_8 w h
   · exact aparent_11_8 w h
   · exact aparent_12_8 w h
   · exact aparent_13_8 w h
   · exact aparent_14_8 w h
end Go.Proofs.YtedpljclnpiggaaGreatDoor
