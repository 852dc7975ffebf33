/-
  index at trees of 1, 2, 4 and 8 leaves: Level, Span, Width, Parent. (printed by bin/gen_aidx.py)
-/
import Derived.Test.YtedpljclnpiggaaGreatDoorQIdx2
import Derived.Test.YtedpljclnpiggaaGreatDoorQTerm
import Derived.Test.YtedpljclnpiggaaGreatDoorQAcross
set_option linter.unusedVariables false
set_option linter.unusedSimpArgs false
namespace Go.Proofs.YtedpljclnpiggaaGreatDoor
open Go Go.RowKit

/-- What the table of the lowest bits holds, as far as it is read here. -/
structure TzF (w : World) : Prop where
  e : TzEnv w
  t3 : w.cell? ⟨0, 3, none⟩ = some (.int .u8 2)
  t7 : w.cell? ⟨0, 7, none⟩ = some (.int .u8 3)
theorem TzF.t0 {w : World} (h : TzF w) : w.cell? ⟨0, 0, none⟩ = some (.int .u8 0) := h.e.t0
theorem TzF.t1 {w : World} (h : TzF w) : w.cell? ⟨0, 1, none⟩ = some (.int .u8 1) := h.e.t1
theorem TzF.below {B : Nat} {w w' : World} (h : TzF w) (hb : Below B w w') (hB : 3 ≤ B) : TzF w' :=
  ⟨h.e.below hb hB, (hb.cell (p := ⟨0, 3, none⟩) (by simp only; omega)).trans h.t3, (hb.cell (p := ⟨0, 7, none⟩) (by simp only; omega)).trans h.t7⟩

def levD : Nat → Nat
  | 0 => 0
  | 1 => 1
  | 2 => 0
  | 3 => 2
  | 4 => 0
  | 5 => 1
  | 6 => 0
  | 7 => 3
  | 8 => 0
  | 9 => 1
  | 10 => 0
  | 11 => 2
  | 12 => 0
  | 13 => 1
  | 14 => 0
  | _ => 0
/-- The node above one. -/
def parX : Nat → Nat
  | 0 => 1
  | 1 => 3
  | 2 => 1
  | 3 => 7
  | 4 => 5
  | 5 => 3
  | 6 => 5
  | 7 => 15
  | 8 => 9
  | 9 => 11
  | 10 => 9
  | 11 => 7
  | 12 => 13
  | 13 => 11
  | 14 => 13
  | _ => 0
def spF : Nat → Nat
  | 0 => 0
  | 1 => 0
  | 2 => 1
  | 3 => 0
  | 4 => 2
  | 5 => 2
  | 6 => 3
  | 7 => 0
  | 8 => 4
  | 9 => 4
  | 10 => 5
  | 11 => 4
  | 12 => 6
  | 13 => 6
  | 14 => 7
  | _ => 0
def spL : Nat → Nat
  | 0 => 0
  | 1 => 1
  | 2 => 1
  | 3 => 3
  | 4 => 2
  | 5 => 3
  | 6 => 3
  | 7 => 7
  | 8 => 4
  | 9 => 5
  | 10 => 5
  | 11 => 7
  | 12 => 6
  | 13 => 7
  | 14 => 7
  | _ => 0
def widD : Nat → Nat
  | 1 => 1
  | 2 => 3
  | 4 => 7
  | 8 => 15
  | _ => 0

set_option maxRecDepth 100000 in
theorem atz_0 (w : World) (h : TzF w) : Calls Tryz.prog 326 #[.int .u64 18446744073709551615] w fun e w' => e = .returned (.int .i64 0) ∧ w' = w := by
  have h0 := h.t0
  have e1 : IntKind.u64.wrap (-18446744073709551615) = 1 := by decide +kernel
  have e2 : bits BinOp.and IntKind.u64 18446744073709551615 1 = 1 := by decide +kernel
  have e3 : IntKind.u64.wrap 285870213051353865 = 285870213051353865 := by decide +kernel
  go_enter Tryz.func326, Tryz.ntmps326
  go_wp2
  go_ret
  exact ⟨rfl, rfl⟩
set_option maxRecDepth 100000 in
theorem alev_0 (w : World) (h : TzF w) : Calls Tryz.prog 304 #[.int .i64 0] w fun e w' => e = .returned (.int .i64 0) ∧ w' = w := by
  have H := Lib.hid (atz_0 w h); clear h
  go_enter Tryz.func304, Tryz.ntmps304
  go_wp2_with fail
  refine H.out.mono ?_
  rintro e wx ⟨rfl, hwx⟩
  subst wx
  go_wp2
  go_ret
  exact ⟨rfl, rfl⟩

set_option maxRecDepth 100000 in
theorem atz_1 (w : World) (h : TzF w) : Calls Tryz.prog 326 #[.int .u64 18446744073709551614] w fun e w' => e = .returned (.int .i64 1) ∧ w' = w := by
  have h0 := h.t1
  have e1 : IntKind.u64.wrap (-18446744073709551614) = 2 := by decide +kernel
  have e2 : bits BinOp.and IntKind.u64 18446744073709551614 2 = 2 := by decide +kernel
  have e3 : IntKind.u64.wrap 571740426102707730 = 571740426102707730 := by decide +kernel
  go_enter Tryz.func326, Tryz.ntmps326
  go_wp2
  go_ret
  exact ⟨rfl, rfl⟩
set_option maxRecDepth 100000 in
theorem alev_1 (w : World) (h : TzF w) : Calls Tryz.prog 304 #[.int .i64 1] w fun e w' => e = .returned (.int .i64 1) ∧ w' = w := by
  have H := Lib.hid (atz_1 w h); clear h
  go_enter Tryz.func304, Tryz.ntmps304
  go_wp2_with fail
  refine H.out.mono ?_
  rintro e wx ⟨rfl, hwx⟩
  subst wx
  go_wp2
  go_ret
  exact ⟨rfl, rfl⟩

set_option maxRecDepth 100000 in
theorem atz_2 (w : World) (h : TzF w) : Calls Tryz.prog 326 #[.int .u64 18446744073709551613] w fun e w' => e = .returned (.int .i64 0) ∧ w' = w := by
  have h0 := h.t0
  have e1 : IntKind.u64.wrap (-18446744073709551613) = 3 := by decide +kernel
  have e2 : bits BinOp.and IntKind.u64 18446744073709551613 3 = 1 := by decide +kernel
  have e3 : IntKind.u64.wrap 285870213051353865 = 285870213051353865 := by decide +kernel
  go_enter Tryz.func326, Tryz.ntmps326
  go_wp2
  go_ret
  exact ⟨rfl, rfl⟩
set_option maxRecDepth 100000 in
theorem alev_2 (w : World) (h : TzF w) : Calls Tryz.prog 304 #[.int .i64 2] w fun e w' => e = .returned (.int .i64 0) ∧ w' = w := by
  have H := Lib.hid (atz_2 w h); clear h
  go_enter Tryz.func304, Tryz.ntmps304
  go_wp2_with fail
  refine H.out.mono ?_
  rintro e wx ⟨rfl, hwx⟩
  subst wx
  go_wp2
  go_ret
  exact ⟨rfl, rfl⟩

set_option maxRecDepth 100000 in
theorem atz_3 (w : World) (h : TzF w) : Calls Tryz.prog 326 #[.int .u64 18446744073709551612] w fun e w' => e = .returned (.int .i64 2) ∧ w' = w := by
  have h0 := h.t3
  have e1 : IntKind.u64.wrap (-18446744073709551612) = 4 := by decide +kernel
  have e2 : bits BinOp.and IntKind.u64 18446744073709551612 4 = 4 := by decide +kernel
  have e3 : IntKind.u64.wrap 1143480852205415460 = 1143480852205415460 := by decide +kernel
  go_enter Tryz.func326, Tryz.ntmps326
  go_wp2
  go_ret
  exact ⟨rfl, rfl⟩
set_option maxRecDepth 100000 in
theorem alev_3 (w : World) (h : TzF w) : Calls Tryz.prog 304 #[.int .i64 3] w fun e w' => e = .returned (.int .i64 2) ∧ w' = w := by
  have H := Lib.hid (atz_3 w h); clear h
  go_enter Tryz.func304, Tryz.ntmps304
  go_wp2_with fail
  refine H.out.mono ?_
  rintro e wx ⟨rfl, hwx⟩
  subst wx
  go_wp2
  go_ret
  exact ⟨rfl, rfl⟩

set_option maxRecDepth 100000 in
theorem atz_4 (w : World) (h : TzF w) : Calls Tryz.prog 326 #[.int .u64 18446744073709551611] w fun e w' => e = .returned (.int .i64 0) ∧ w' = w := by
  have h0 := h.t0
  have e1 : IntKind.u64.wrap (-18446744073709551611) = 5 := by decide +kernel
  have e2 : bits BinOp.and IntKind.u64 18446744073709551611 5 = 1 := by decide +kernel
  have e3 : IntKind.u64.wrap 285870213051353865 = 285870213051353865 := by decide +kernel
  go_enter Tryz.func326, Tryz.ntmps326
  go_wp2
  go_ret
  exact ⟨rfl, rfl⟩
set_option maxRecDepth 100000 in
theorem alev_4 (w : World) (h : TzF w) : Calls Tryz.prog 304 #[.int .i64 4] w fun e w' => e = .returned (.int .i64 0) ∧ w' = w := by
  have H := Lib.hid (atz_4 w h); clear h
  go_enter Tryz.func304, Tryz.ntmps304
  go_wp2_with fail
  refine H.out.mono ?_
  rintro e wx ⟨rfl, hwx⟩
  subst wx
  go_wp2
  go_ret
  exact ⟨rfl, rfl⟩

set_option maxRecDepth 100000 in
theorem atz_5 (w : World) (h : TzF w) : Calls Tryz.prog 326 #[.int .u64 18446744073709551610] w fun e w' => e = .returned (.int .i64 1) ∧ w' = w := by
  have h0 := h.t1
  have e1 : IntKind.u64.wrap (-18446744073709551610) = 6 := by decide +kernel
  have e2 : bits BinOp.and IntKind.u64 18446744073709551610 6 = 2 := by decide +kernel
  have e3 : IntKind.u64.wrap 571740426102707730 = 571740426102707730 := by decide +kernel
  go_enter Tryz.func326, Tryz.ntmps326
  go_wp2
  go_ret
  exact ⟨rfl, rfl⟩
set_option maxRecDepth 100000 in
theorem alev_5 (w : World) (h : TzF w) : Calls Tryz.prog 304 #[.int .i64 5] w fun e w' => e = .returned (.int .i64 1) ∧ w' = w := by
  have H := Lib.hid (atz_5 w h); clear h
  go_enter Tryz.func304, Tryz.ntmps304
  go_wp2_with fail
  refine H.out.mono ?_
  rintro e wx ⟨rfl, hwx⟩
  subst wx
  go_wp2
  go_ret
  exact ⟨rfl, rfl⟩

set_option maxRecDepth 100000 in
theorem atz_6 (w : World) (h : TzF w) : Calls Tryz.prog 326 #[.int .u64 18446744073709551609] w fun e w' => e = .returned (.int .i64 0) ∧ w' = w := by
  have h0 := h.t0
  have e1 : IntKind.u64.wrap (-18446744073709551609) = 7 := by decide +kernel
  have e2 : bits BinOp.and IntKind.u64 18446744073709551609 7 = 1 := by decide +kernel
  have e3 : IntKind.u64.wrap 285870213051353865 = 285870213051353865 := by decide +kernel
  go_enter Tryz.func326, Tryz.ntmps326
  go_wp2
  go_ret
  exact ⟨rfl, rfl⟩
set_option maxRecDepth 100000 in
theorem alev_6 (w : World) (h : TzF w) : Calls Tryz.prog 304 #[.int .i64 6] w fun e w' => e = .returned (.int .i64 0) ∧ w' = w := by
  have H := Lib.hid (atz_6 w h); clear h
  go_enter Tryz.func304, Tryz.ntmps304
  go_wp2_with fail
  refine H.out.mono ?_
  rintro e wx ⟨rfl, hwx⟩
  subst wx
  go_wp2
  go_ret
  exact ⟨rfl, rfl⟩

set_option maxRecDepth 100000 in
theorem atz_7 (w : World) (h : TzF w) : Calls Tryz.prog 326 #[.int .u64 18446744073709551608] w fun e w' => e = .returned (.int .i64 3) ∧ w' = w := by
  have h0 := h.t7
  have e1 : IntKind.u64.wrap (-18446744073709551608) = 8 := by decide +kernel
  have e2 : bits BinOp.and IntKind.u64 18446744073709551608 8 = 8 := by decide +kernel
  have e3 : IntKind.u64.wrap 2286961704410830920 = 2286961704410830920 := by decide +kernel
  go_enter Tryz.func326, Tryz.ntmps326
  go_wp2
  go_ret
  exact ⟨rfl, rfl⟩
set_option maxRecDepth 100000 in
theorem alev_7 (w : World) (h : TzF w) : Calls Tryz.prog 304 #[.int .i64 7] w fun e w' => e = .returned (.int .i64 3) ∧ w' = w := by
  have H := Lib.hid (atz_7 w h); clear h
  go_enter Tryz.func304, Tryz.ntmps304
  go_wp2_with fail
  refine H.out.mono ?_
  rintro e wx ⟨rfl, hwx⟩
  subst wx
  go_wp2
  go_ret
  exact ⟨rfl, rfl⟩

set_option maxRecDepth 100000 in
theorem atz_8 (w : World) (h : TzF w) : Calls Tryz.prog 326 #[.int .u64 18446744073709551607] w fun e w' => e = .returned (.int .i64 0) ∧ w' = w := by
  have h0 := h.t0
  have e1 : IntKind.u64.wrap (-18446744073709551607) = 9 := by decide +kernel
  have e2 : bits BinOp.and IntKind.u64 18446744073709551607 9 = 1 := by decide +kernel
  have e3 : IntKind.u64.wrap 285870213051353865 = 285870213051353865 := by decide +kernel
  go_enter Tryz.func326, Tryz.ntmps326
  go_wp2
  go_ret
  exact ⟨rfl, rfl⟩
set_option maxRecDepth 100000 in
theorem alev_8 (w : World) (h : TzF w) : Calls Tryz.prog 304 #[.int .i64 8] w fun e w' => e = .returned (.int .i64 0) ∧ w' = w := by
  have H := Lib.hid (atz_8 w h); clear h
  go_enter Tryz.func304, Tryz.ntmps304
  go_wp2_with fail
  refine H.out.mono ?_
  rintro e wx ⟨rfl, hwx⟩
  subst wx
  go_wp2
  go_ret
  exact ⟨rfl, rfl⟩

set_option maxRecDepth 100000 in
theorem atz_9 (w : World) (h : TzF w) : Calls Tryz.prog 326 #[.int .u64 18446744073709551606] w fun e w' => e = .returned (.int .i64 1) ∧ w' = w := by
  have h0 := h.t1
  have e1 : IntKind.u64.wrap (-18446744073709551606) = 10 := by decide +kernel
  have e2 : bits BinOp.and IntKind.u64 18446744073709551606 10 = 2 := by decide +kernel
  have e3 : IntKind.u64.wrap 571740426102707730 = 571740426102707730 := by decide +kernel
  go_enter Tryz.func326, Tryz.ntmps326
  go_wp2
  go_ret
  exact ⟨rfl, rfl⟩
set_option maxRecDepth 100000 in
theorem alev_9 (w : World) (h : TzF w) : Calls Tryz.prog 304 #[.int .i64 9] w fun e w' => e = .returned (.int .i64 1) ∧ w' = w := by
  have H := Lib.hid (atz_9 w h); clear h
  go_enter Tryz.func304, Tryz.ntmps304
  go_wp2_with fail
  refine H.out.mono ?_
  rintro e wx ⟨rfl, hwx⟩
  subst wx
  go_wp2
  go_ret
  exact ⟨rfl, rfl⟩

set_option maxRecDepth 100000 in
theorem atz_10 (w : World) (h : TzF w) : Calls Tryz.prog 326 #[.int .u64 18446744073709551605] w fun e w' => e = .returned (.int .i64 0) ∧ w' = w := by
  have h0 := h.t0
  have e1 : IntKind.u64.wrap (-18446744073709551605) = 11 := by decide +kernel
  have e2 : bits BinOp.and IntKind.u64 18446744073709551605 11 = 1 := by decide +kernel
  have e3 : IntKind.u64.wrap 285870213051353865 = 285870213051353865 := by decide +kernel
  go_enter Tryz.func326, Tryz.ntmps326
  go_wp2
  go_ret
  exact ⟨rfl, rfl⟩
set_option maxRecDepth 100000 in
theorem alev_10 (w : World) (h : TzF w) : Calls Tryz.prog 304 #[.int .i64 10] w fun e w' => e = .returned (.int .i64 0) ∧ w' = w := by
  have H := Lib.hid (atz_10 w h); clear h
  go_enter Tryz.func304, Tryz.ntmps304
  go_wp2_with fail
  refine H.out.mono ?_
  rintro e wx ⟨rfl, hwx⟩
  subst wx
  go_wp2
  go_ret
  exact ⟨rfl, rfl⟩

set_option maxRecDepth 100000 in
theorem atz_11 (w : World) (h : TzF w) : Calls Tryz.prog 326 #[.int .u64 18446744073709551604] w fun e w' => e = .returned (.int .i64 2) ∧ w' = w := by
  have h0 := h.t3
  have e1 : IntKind.u64.wrap (-18446744073709551604) = 12 := by decide +kernel
  have e2 : bits BinOp.and IntKind.u64 18446744073709551604 12 = 4 := by decide +kernel
  have e3 : IntKind.u64.wrap 1143480852205415460 = 1143480852205415460 := by decide +kernel
  go_enter Tryz.func326, Tryz.ntmps326
  go_wp2
  go_ret
  exact ⟨rfl, rfl⟩
set_option maxRecDepth 100000 in
theorem alev_11 (w : World) (h : TzF w) : Calls Tryz.prog 304 #[.int .i64 11] w fun e w' => e = .returned (.int .i64 2) ∧ w' = w := by
  have H := Lib.hid (atz_11 w h); clear h
  go_enter Tryz.func304, Tryz.ntmps304
  go_wp2_with fail
  refine H.out.mono ?_
  rintro e wx ⟨rfl, hwx⟩
  subst wx
  go_wp2
  go_ret
  exact ⟨rfl, rfl⟩

set_option maxRecDepth 100000 in
theorem atz_12 (w : World) (h : TzF w) : Calls Tryz.prog 326 #[.int .u64 18446744073709551603] w fun e w' => e = .returned (.int .i64 0) ∧ w' = w := by
  have h0 := h.t0
  have e1 : IntKind.u64.wrap (-18446744073709551603) = 13 := by decide +kernel
  have e2 : bits BinOp.and IntKind.u64 18446744073709551603 13 = 1 := by decide +kernel
  have e3 : IntKind.u64.wrap 285870213051353865 = 285870213051353865 := by decide +kernel
  go_enter Tryz.func326, Tryz.ntmps326
  go_wp2
  go_ret
  exact ⟨rfl, rfl⟩
set_option maxRecDepth 100000 in
theorem alev_12 (w : World) (h : TzF w) : Calls Tryz.prog 304 #[.int .i64 12] w fun e w' => e = .returned (.int .i64 0) ∧ w' = w := by
  have H := Lib.hid (atz_12 w h); clear h
  go_enter Tryz.func304, Tryz.ntmps304
  go_wp2_with fail
  refine H.out.mono ?_
  rintro e wx ⟨rfl, hwx⟩
  subst wx
  go_wp2
  go_ret
  exact ⟨rfl, rfl⟩

set_option maxRecDepth 100000 in
theorem atz_13 (w : World) (h : TzF w) : Calls Tryz.prog 326 #[.int .u64 18446744073709551602] w fun e w' => e = .returned (.int .i64 1) ∧ w' = w := by
  have h0 := h.t1
  have e1 : IntKind.u64.wrap (-18446744073709551602) = 14 := by decide +kernel
  have e2 : bits BinOp.and IntKind.u64 18446744073709551602 14 = 2 := by decide +kernel
  have e3 : IntKind.u64.wrap 571740426102707730 = 571740426102707730 := by decide +kernel
  go_enter Tryz.func326, Tryz.ntmps326
  go_wp2
  go_ret
  exact ⟨rfl, rfl⟩
set_option maxRecDepth 100000 in
theorem alev_13 (w : World) (h : TzF w) : Calls Tryz.prog 304 #[.int .i64 13] w fun e w' => e = .returned (.int .i64 1) ∧ w' = w := by
  have H := Lib.hid (atz_13 w h); clear h
  go_enter Tryz.func304, Tryz.ntmps304
  go_wp2_with fail
  refine H.out.mono ?_
  rintro e wx ⟨rfl, hwx⟩
  subst wx
  go_wp2
  go_ret
  exact ⟨rfl, rfl⟩

set_option maxRecDepth 100000 in
theorem atz_14 (w : World) (h : TzF w) : Calls Tryz.prog 326 #[.int .u64 18446744073709551601] w fun e w' => e = .returned (.int .i64 0) ∧ w' = w := by
  have h0 := h.t0
  have e1 : IntKind.u64.wrap (-18446744073709551601) = 15 := by decide +kernel
  have e2 : bits BinOp.and IntKind.u64 18446744073709551601 15 = 1 := by decide +kernel
  have e3 : IntKind.u64.wrap 285870213051353865 = 285870213051353865 := by decide +kernel
  go_enter Tryz.func326, Tryz.ntmps326
  go_wp2
  go_ret
  exact ⟨rfl, rfl⟩
set_option maxRecDepth 100000 in
theorem alev_14 (w : World) (h : TzF w) : Calls Tryz.prog 304 #[.int .i64 14] w fun e w' => e = .returned (.int .i64 0) ∧ w' = w := by
  have H := Lib.hid (atz_14 w h); clear h
  go_enter Tryz.func304, Tryz.ntmps304
  go_wp2_with fail
  refine H.out.mono ?_
  rintro e wx ⟨rfl, hwx⟩
  subst wx
  go_wp2
  go_ret
  exact ⟨rfl, rfl⟩

set_option maxRecDepth 100000 in
theorem aspan_1 (w : World) (h : TzF w) : Calls Tryz.prog 305 #[.int .i64 1] w fun r w' => r = .returned (.tuple #[.int .i64 0, .int .i64 1]) ∧ ∃ d, w' = w.drewN d := by
  have H := Lib.hid (alev_1 w h); clear h
  go_enter Tryz.func305, Tryz.ntmps305
  go_wp2_with fail
  refine H.out.mono ?_
  rintro e wx ⟨rfl, hwx⟩
  subst wx
  go_wp2_with fail
  go_quiet (fail)
  go_wp2
  go_ret2
  exact ⟨rfl, _, rfl⟩

set_option maxRecDepth 100000 in
theorem aspan_3 (w : World) (h : TzF w) : Calls Tryz.prog 305 #[.int .i64 3] w fun r w' => r = .returned (.tuple #[.int .i64 0, .int .i64 3]) ∧ ∃ d, w' = w.drewN d := by
  have H := Lib.hid (alev_3 w h); clear h
  go_enter Tryz.func305, Tryz.ntmps305
  go_wp2_with fail
  refine H.out.mono ?_
  rintro e wx ⟨rfl, hwx⟩
  subst wx
  go_wp2_with fail
  go_quiet (fail)
  go_wp2
  go_ret2
  exact ⟨rfl, _, rfl⟩

set_option maxRecDepth 100000 in
theorem aspan_5 (w : World) (h : TzF w) : Calls Tryz.prog 305 #[.int .i64 5] w fun r w' => r = .returned (.tuple #[.int .i64 2, .int .i64 3]) ∧ ∃ d, w' = w.drewN d := by
  have H := Lib.hid (alev_5 w h); clear h
  go_enter Tryz.func305, Tryz.ntmps305
  go_wp2_with fail
  refine H.out.mono ?_
  rintro e wx ⟨rfl, hwx⟩
  subst wx
  go_wp2_with fail
  go_quiet (fail)
  go_wp2
  go_ret2
  exact ⟨rfl, _, rfl⟩

set_option maxRecDepth 100000 in
theorem aspan_7 (w : World) (h : TzF w) : Calls Tryz.prog 305 #[.int .i64 7] w fun r w' => r = .returned (.tuple #[.int .i64 0, .int .i64 7]) ∧ ∃ d, w' = w.drewN d := by
  have H := Lib.hid (alev_7 w h); clear h
  go_enter Tryz.func305, Tryz.ntmps305
  go_wp2_with fail
  refine H.out.mono ?_
  rintro e wx ⟨rfl, hwx⟩
  subst wx
  go_wp2_with fail
  go_quiet (fail)
  go_wp2
  go_ret2
  exact ⟨rfl, _, rfl⟩

set_option maxRecDepth 100000 in
theorem aspan_9 (w : World) (h : TzF w) : Calls Tryz.prog 305 #[.int .i64 9] w fun r w' => r = .returned (.tuple #[.int .i64 4, .int .i64 5]) ∧ ∃ d, w' = w.drewN d := by
  have H := Lib.hid (alev_9 w h); clear h
  go_enter Tryz.func305, Tryz.ntmps305
  go_wp2_with fail
  refine H.out.mono ?_
  rintro e wx ⟨rfl, hwx⟩
  subst wx
  go_wp2_with fail
  go_quiet (fail)
  go_wp2
  go_ret2
  exact ⟨rfl, _, rfl⟩

set_option maxRecDepth 100000 in
theorem aspan_11 (w : World) (h : TzF w) : Calls Tryz.prog 305 #[.int .i64 11] w fun r w' => r = .returned (.tuple #[.int .i64 4, .int .i64 7]) ∧ ∃ d, w' = w.drewN d := by
  have H := Lib.hid (alev_11 w h); clear h
  go_enter Tryz.func305, Tryz.ntmps305
  go_wp2_with fail
  refine H.out.mono ?_
  rintro e wx ⟨rfl, hwx⟩
  subst wx
  go_wp2_with fail
  go_quiet (fail)
  go_wp2
  go_ret2
  exact ⟨rfl, _, rfl⟩

set_option maxRecDepth 100000 in
theorem aspan_13 (w : World) (h : TzF w) : Calls Tryz.prog 305 #[.int .i64 13] w fun r w' => r = .returned (.tuple #[.int .i64 6, .int .i64 7]) ∧ ∃ d, w' = w.drewN d := by
  have H := Lib.hid (alev_13 w h); clear h
  go_enter Tryz.func305, Tryz.ntmps305
  go_wp2_with fail
  refine H.out.mono ?_
  rintro e wx ⟨rfl, hwx⟩
  subst wx
  go_wp2_with fail
  go_quiet (fail)
  go_wp2
  go_ret2
  exact ⟨rfl, _, rfl⟩

theorem aspan_any (x : Nat) (hx : x < 15) (ho : x % 2 = 1) (w : World) (h : TzF w) : Calls Tryz.prog 305 #[.int .i64 x] w fun r w' => r = .returned (.tuple #[.int .i64 (spF x : Nat), .int .i64 (spL x : Nat)]) ∧ ∃ d, w' = w.drewN d := by
  have hc : x = 1 ∨ x = 3 ∨ x = 5 ∨ x = 7 ∨ x = 9 ∨ x = 11 ∨ x = 13 := by omega
  rcases hc with rfl | rfl | rfl | rfl | rfl | rfl | rfl
  · exact aspan_1 w h
  · exact aspan_3 w h
  · exact aspan_5 w h
  · exact aspan_7 w h
  · exact aspan_9 w h
  · exact aspan_11 w h
  · exact aspan_13 w h

theorem atree_1 (w : World) : Calls Tryz.prog 323 #[.int .i64 1] w fun e w' => e = .returned (.bool true) ∧ w' = w := by
  have q : bits BinOp.and IntKind.i64 1 0 = 0 := by decide +kernel
  go_enter Tryz.func323, Tryz.ntmps323
  go_wp2
  go_ret
  exact ⟨rfl, rfl⟩
theorem awidth_1 (w : World) : Calls Tryz.prog 298 #[.int .i64 1] w fun e w' => e = .returned (.int .i64 1) ∧ w' = w := by
  have H := Lib.hid (atree_1 w)
  go_enter Tryz.func298, Tryz.ntmps298
  go_wp2_with (go_at_call 323; refine H.out.mono ?_; rintro e wx ⟨rfl, hwx⟩; subst wx)
  go_ret
  exact ⟨rfl, rfl⟩

theorem atree_2 (w : World) : Calls Tryz.prog 323 #[.int .i64 2] w fun e w' => e = .returned (.bool true) ∧ w' = w := by
  have q : bits BinOp.and IntKind.i64 2 1 = 0 := by decide +kernel
  go_enter Tryz.func323, Tryz.ntmps323
  go_wp2
  go_ret
  exact ⟨rfl, rfl⟩
theorem awidth_2 (w : World) : Calls Tryz.prog 298 #[.int .i64 2] w fun e w' => e = .returned (.int .i64 3) ∧ w' = w := by
  have H := Lib.hid (atree_2 w)
  go_enter Tryz.func298, Tryz.ntmps298
  go_wp2_with (go_at_call 323; refine H.out.mono ?_; rintro e wx ⟨rfl, hwx⟩; subst wx)
  go_ret
  exact ⟨rfl, rfl⟩

theorem atree_3 (w : World) : Calls Tryz.prog 323 #[.int .i64 3] w fun e w' => e = .returned (.bool false) ∧ w' = w := by
  have q : bits BinOp.and IntKind.i64 3 2 = 2 := by decide +kernel
  go_enter Tryz.func323, Tryz.ntmps323
  go_wp2
  go_ret
  exact ⟨rfl, rfl⟩
theorem awidth_3 (w : World) : Calls Tryz.prog 298 #[.int .i64 3] w fun e w' => e = .returned (.int .i64 0) ∧ w' = w := by
  have H := Lib.hid (atree_3 w)
  go_enter Tryz.func298, Tryz.ntmps298
  go_wp2_with (go_at_call 323; refine H.out.mono ?_; rintro e wx ⟨rfl, hwx⟩; subst wx)
  go_ret
  exact ⟨rfl, rfl⟩

theorem atree_4 (w : World) : Calls Tryz.prog 323 #[.int .i64 4] w fun e w' => e = .returned (.bool true) ∧ w' = w := by
  have q : bits BinOp.and IntKind.i64 4 3 = 0 := by decide +kernel
  go_enter Tryz.func323, Tryz.ntmps323
  go_wp2
  go_ret
  exact ⟨rfl, rfl⟩
theorem awidth_4 (w : World) : Calls Tryz.prog 298 #[.int .i64 4] w fun e w' => e = .returned (.int .i64 7) ∧ w' = w := by
  have H := Lib.hid (atree_4 w)
  go_enter Tryz.func298, Tryz.ntmps298
  go_wp2_with (go_at_call 323; refine H.out.mono ?_; rintro e wx ⟨rfl, hwx⟩; subst wx)
  go_ret
  exact ⟨rfl, rfl⟩

theorem atree_5 (w : World) : Calls Tryz.prog 323 #[.int .i64 5] w fun e w' => e = .returned (.bool false) ∧ w' = w := by
  have q : bits BinOp.and IntKind.i64 5 4 = 4 := by decide +kernel
  go_enter Tryz.func323, Tryz.ntmps323
  go_wp2
  go_ret
  exact ⟨rfl, rfl⟩
theorem awidth_5 (w : World) : Calls Tryz.prog 298 #[.int .i64 5] w fun e w' => e = .returned (.int .i64 0) ∧ w' = w := by
  have H := Lib.hid (atree_5 w)
  go_enter Tryz.func298, Tryz.ntmps298
  go_wp2_with (go_at_call 323; refine H.out.mono ?_; rintro e wx ⟨rfl, hwx⟩; subst wx)
  go_ret
  exact ⟨rfl, rfl⟩

theorem atree_6 (w : World) : Calls Tryz.prog 323 #[.int .i64 6] w fun e w' => e = .returned (.bool false) ∧ w' = w := by
  have q : bits BinOp.and IntKind.i64 6 5 = 4 := by decide +kernel
  go_enter Tryz.func323, Tryz.ntmps323
  go_wp2
  go_ret
  exact ⟨rfl, rfl⟩
theorem awidth_6 (w : World) : Calls Tryz.prog 298 #[.int .i64 6] w fun e w' => e = .returned (.int .i64 0) ∧ w' = w := by
  have H := Lib.hid (atree_6 w)
  go_enter Tryz.func298, Tryz.ntmps298
  go_wp2_with (go_at_call 323; refine H.out.mono ?_; rintro e wx ⟨rfl, hwx⟩; subst wx)
  go_ret
  exact ⟨rfl, rfl⟩

theorem atree_7 (w : World) : Calls Tryz.prog 323 #[.int .i64 7] w fun e w' => e = .returned (.bool false) ∧ w' = w := by
  have q : bits BinOp.and IntKind.i64 7 6 = 6 := by decide +kernel
  go_enter Tryz.func323, Tryz.ntmps323
  go_wp2
  go_ret
  exact ⟨rfl, rfl⟩
theorem awidth_7 (w : World) : Calls Tryz.prog 298 #[.int .i64 7] w fun e w' => e = .returned (.int .i64 0) ∧ w' = w := by
  have H := Lib.hid (atree_7 w)
  go_enter Tryz.func298, Tryz.ntmps298
  go_wp2_with (go_at_call 323; refine H.out.mono ?_; rintro e wx ⟨rfl, hwx⟩; subst wx)
  go_ret
  exact ⟨rfl, rfl⟩

theorem atree_8 (w : World) : Calls Tryz.prog 323 #[.int .i64 8] w fun e w' => e = .returned (.bool true) ∧ w' = w := by
  have q : bits BinOp.and IntKind.i64 8 7 = 0 := by decide +kernel
  go_enter Tryz.func323, Tryz.ntmps323
  go_wp2
  go_ret
  exact ⟨rfl, rfl⟩
theorem awidth_8 (w : World) : Calls Tryz.prog 298 #[.int .i64 8] w fun e w' => e = .returned (.int .i64 15) ∧ w' = w := by
  have H := Lib.hid (atree_8 w)
  go_enter Tryz.func298, Tryz.ntmps298
  go_wp2_with (go_at_call 323; refine H.out.mono ?_; rintro e wx ⟨rfl, hwx⟩; subst wx)
  go_ret
  exact ⟨rfl, rfl⟩

theorem ain_0_1 (w : World) : Calls Tryz.prog 306 #[.int .i64 0, .int .i64 1] w fun e w' => e = .returned (.bool true) ∧ w' = w := by
  have H := Lib.hid (atree_1 w)
  go_enter Tryz.func306, Tryz.ntmps306
  go_wp2_with (go_at_call 323; refine H.out.mono ?_; rintro e wx ⟨rfl, hwx⟩; subst wx)
  go_ret
  exact ⟨rfl, rfl⟩
set_option maxRecDepth 100000 in
theorem aparent_0_1 (w : World) (h : TzF w) : Calls Tryz.prog 307 #[.int .i64 0, .int .i64 1] w fun e w' => e = .returned (.tuple #[.int .i64 0, .bool false]) ∧ w' = w := by
  have H := Lib.hid (ain_0_1 w)
  have HL := Lib.hid (alev_0 w h)
  clear h
  go_enter Tryz.func307, Tryz.ntmps307
  go_wp2_with (first
    | (go_at_call 306; refine H.out.mono ?_; rintro e wx ⟨rfl, hwx⟩; subst wx)
    | (go_at_call 304; refine HL.out.mono ?_; rintro e wx ⟨rfl, hwx⟩; subst wx))
  go_ret2
  exact ⟨rfl, rfl⟩

theorem ain_0_2 (w : World) : Calls Tryz.prog 306 #[.int .i64 0, .int .i64 2] w fun e w' => e = .returned (.bool true) ∧ w' = w := by
  have H := Lib.hid (atree_2 w)
  go_enter Tryz.func306, Tryz.ntmps306
  go_wp2_with (go_at_call 323; refine H.out.mono ?_; rintro e wx ⟨rfl, hwx⟩; subst wx)
  go_ret
  exact ⟨rfl, rfl⟩
set_option maxRecDepth 100000 in
theorem aparent_0_2 (w : World) (h : TzF w) : Calls Tryz.prog 307 #[.int .i64 0, .int .i64 2] w fun e w' => e = .returned (.tuple #[.int .i64 1, .bool true]) ∧ w' = w := by
  have H := Lib.hid (ain_0_2 w)
  have HL := Lib.hid (alev_0 w h)
  clear h
  have q1 : bits BinOp.or IntKind.i64 0 1 = 1 := by decide +kernel
  have q2 : bits BinOp.andNot IntKind.i64 1 2 = 1 := by decide +kernel
  go_enter Tryz.func307, Tryz.ntmps307
  go_wp2_with (first
    | (go_at_call 306; refine H.out.mono ?_; rintro e wx ⟨rfl, hwx⟩; subst wx)
    | (go_at_call 304; refine HL.out.mono ?_; rintro e wx ⟨rfl, hwx⟩; subst wx))
  go_ret2
  exact ⟨rfl, rfl⟩

theorem ain_1_2 (w : World) : Calls Tryz.prog 306 #[.int .i64 1, .int .i64 2] w fun e w' => e = .returned (.bool true) ∧ w' = w := by
  have H := Lib.hid (atree_2 w)
  go_enter Tryz.func306, Tryz.ntmps306
  go_wp2_with (go_at_call 323; refine H.out.mono ?_; rintro e wx ⟨rfl, hwx⟩; subst wx)
  go_ret
  exact ⟨rfl, rfl⟩
set_option maxRecDepth 100000 in
theorem aparent_1_2 (w : World) (h : TzF w) : Calls Tryz.prog 307 #[.int .i64 1, .int .i64 2] w fun e w' => e = .returned (.tuple #[.int .i64 0, .bool false]) ∧ w' = w := by
  have H := Lib.hid (ain_1_2 w)
  have HL := Lib.hid (alev_1 w h)
  clear h
  go_enter Tryz.func307, Tryz.ntmps307
  go_wp2_with (first
    | (go_at_call 306; refine H.out.mono ?_; rintro e wx ⟨rfl, hwx⟩; subst wx)
    | (go_at_call 304; refine HL.out.mono ?_; rintro e wx ⟨rfl, hwx⟩; subst wx))
  go_ret2
  exact ⟨rfl, rfl⟩

theorem ain_2_2 (w : World) : Calls Tryz.prog 306 #[.int .i64 2, .int .i64 2] w fun e w' => e = .returned (.bool true) ∧ w' = w := by
  have H := Lib.hid (atree_2 w)
  go_enter Tryz.func306, Tryz.ntmps306
  go_wp2_with (go_at_call 323; refine H.out.mono ?_; rintro e wx ⟨rfl, hwx⟩; subst wx)
  go_ret
  exact ⟨rfl, rfl⟩
set_option maxRecDepth 100000 in
theorem aparent_2_2 (w : World) (h : TzF w) : Calls Tryz.prog 307 #[.int .i64 2, .int .i64 2] w fun e w' => e = .returned (.tuple #[.int .i64 1, .bool true]) ∧ w' = w := by
  have H := Lib.hid (ain_2_2 w)
  have HL := Lib.hid (alev_2 w h)
  clear h
  have q1 : bits BinOp.or IntKind.i64 2 1 = 3 := by decide +kernel
  have q2 : bits BinOp.andNot IntKind.i64 3 2 = 1 := by decide +kernel
  go_enter Tryz.func307, Tryz.ntmps307
  go_wp2_with (first
    | (go_at_call 306; refine H.out.mono ?_; rintro e wx ⟨rfl, hwx⟩; subst wx)
    | (go_at_call 304; refine HL.out.mono ?_; rintro e wx ⟨rfl, hwx⟩; subst wx))
  go_ret2
  exact ⟨rfl, rfl⟩

theorem ain_0_4 (w : World) : Calls Tryz.prog 306 #[.int .i64 0, .int .i64 4] w fun e w' => e = .returned (.bool true) ∧ w' = w := by
  have H := Lib.hid (atree_4 w)
  go_enter Tryz.func306, Tryz.ntmps306
  go_wp2_with (go_at_call 323; refine H.out.mono ?_; rintro e wx ⟨rfl, hwx⟩; subst wx)
  go_ret
  exact ⟨rfl, rfl⟩
set_option maxRecDepth 100000 in
theorem aparent_0_4 (w : World) (h : TzF w) : Calls Tryz.prog 307 #[.int .i64 0, .int .i64 4] w fun e w' => e = .returned (.tuple #[.int .i64 1, .bool true]) ∧ w' = w := by
  have H := Lib.hid (ain_0_4 w)
  have HL := Lib.hid (alev_0 w h)
  clear h
  have q1 : bits BinOp.or IntKind.i64 0 1 = 1 := by decide +kernel
  have q2 : bits BinOp.andNot IntKind.i64 1 2 = 1 := by decide +kernel
  go_enter Tryz.func307, Tryz.ntmps307
  go_wp2_with (first
    | (go_at_call 306; refine H.out.mono ?_; rintro e wx ⟨rfl, hwx⟩; subst wx)
    | (go_at_call 304; refine HL.out.mono ?_; rintro e wx ⟨rfl, hwx⟩; subst wx))
  go_ret2
  exact ⟨rfl, rfl⟩

theorem ain_1_4 (w : World) : Calls Tryz.prog 306 #[.int .i64 1, .int .i64 4] w fun e w' => e = .returned (.bool true) ∧ w' = w := by
  have H := Lib.hid (atree_4 w)
  go_enter Tryz.func306, Tryz.ntmps306
  go_wp2_with (go_at_call 323; refine H.out.mono ?_; rintro e wx ⟨rfl, hwx⟩; subst wx)
  go_ret
  exact ⟨rfl, rfl⟩
set_option maxRecDepth 100000 in
theorem aparent_1_4 (w : World) (h : TzF w) : Calls Tryz.prog 307 #[.int .i64 1, .int .i64 4] w fun e w' => e = .returned (.tuple #[.int .i64 3, .bool true]) ∧ w' = w := by
  have H := Lib.hid (ain_1_4 w)
  have HL := Lib.hid (alev_1 w h)
  clear h
  have q1 : bits BinOp.or IntKind.i64 1 2 = 3 := by decide +kernel
  have q2 : bits BinOp.andNot IntKind.i64 3 4 = 3 := by decide +kernel
  go_enter Tryz.func307, Tryz.ntmps307
  go_wp2_with (first
    | (go_at_call 306; refine H.out.mono ?_; rintro e wx ⟨rfl, hwx⟩; subst wx)
    | (go_at_call 304; refine HL.out.mono ?_; rintro e wx ⟨rfl, hwx⟩; subst wx))
  go_ret2
  exact ⟨rfl, rfl⟩

theorem ain_2_4 (w : World) : Calls Tryz.prog 306 #[.int .i64 2, .int .i64 4] w fun e w' => e = .returned (.bool true) ∧ w' = w := by
  have H := Lib.hid (atree_4 w)
  go_enter Tryz.func306, Tryz.ntmps306
  go_wp2_with (go_at_call 323; refine H.out.mono ?_; rintro e wx ⟨rfl, hwx⟩; subst wx)
  go_ret
  exact ⟨rfl, rfl⟩
set_option maxRecDepth 100000 in
theorem aparent_2_4 (w : World) (h : TzF w) : Calls Tryz.prog 307 #[.int .i64 2, .int .i64 4] w fun e w' => e = .returned (.tuple #[.int .i64 1, .bool true]) ∧ w' = w := by
  have H := Lib.hid (ain_2_4 w)
  have HL := Lib.hid (alev_2 w h)
  clear h
  have q1 : bits BinOp.or IntKind.i64 2 1 = 3 := by decide +kernel
  have q2 : bits BinOp.andNot IntKind.i64 3 2 = 1 := by decide +kernel
  go_enter Tryz.func307, Tryz.ntmps307
  go_wp2_with (first
    | (go_at_call 306; refine H.out.mono ?_; rintro e wx ⟨rfl, hwx⟩; subst wx)
    | (go_at_call 304; refine HL.out.mono ?_; rintro e wx ⟨rfl, hwx⟩; subst wx))
  go_ret2
  exact ⟨rfl, rfl⟩

theorem ain_3_4 (w : World) : Calls Tryz.prog 306 #[.int .i64 3, .int .i64 4] w fun e w' => e = .returned (.bool true) ∧ w' = w := by
  have H := Lib.hid (atree_4 w)
  go_enter Tryz.func306, Tryz.ntmps306
  go_wp2_with (go_at_call 323; refine H.out.mono ?_; rintro e wx ⟨rfl, hwx⟩; subst wx)
  go_ret
  exact ⟨rfl, rfl⟩
set_option maxRecDepth 100000 in
theorem aparent_3_4 (w : World) (h : TzF w) : Calls Tryz.prog 307 #[.int .i64 3, .int .i64 4] w fun e w' => e = .returned (.tuple #[.int .i64 0, .bool false]) ∧ w' = w := by
  have H := Lib.hid (ain_3_4 w)
  have HL := Lib.hid (alev_3 w h)
  clear h
  go_enter Tryz.func307, Tryz.ntmps307
  go_wp2_with (first
    | (go_at_call 306; refine H.out.mono ?_; rintro e wx ⟨rfl, hwx⟩; subst wx)
    | (go_at_call 304; refine HL.out.mono ?_; rintro e wx ⟨rfl, hwx⟩; subst wx))
  go_ret2
  exact ⟨rfl, rfl⟩

theorem ain_4_4 (w : World) : Calls Tryz.prog 306 #[.int .i64 4, .int .i64 4] w fun e w' => e = .returned (.bool true) ∧ w' = w := by
  have H := Lib.hid (atree_4 w)
  go_enter Tryz.func306, Tryz.ntmps306
  go_wp2_with (go_at_call 323; refine H.out.mono ?_; rintro e wx ⟨rfl, hwx⟩; subst wx)
  go_ret
  exact ⟨rfl, rfl⟩
set_option maxRecDepth 100000 in
theorem aparent_4_4 (w : World) (h : TzF w) : Calls Tryz.prog 307 #[.int .i64 4, .int .i64 4] w fun e w' => e = .returned (.tuple #[.int .i64 5, .bool true]) ∧ w' = w := by
  have H := Lib.hid (ain_4_4 w)
  have HL := Lib.hid (alev_4 w h)
  clear h
  have q1 : bits BinOp.or IntKind.i64 4 1 = 5 := by decide +kernel
  have q2 : bits BinOp.andNot IntKind.i64 5 2 = 5 := by decide +kernel
  go_enter Tryz.func307, Tryz.ntmps307
  go_wp2_with (first
    | (go_at_call 306; refine H.out.mono ?_; rintro e wx ⟨rfl, hwx⟩; subst wx)
    | (go_at_call 304; refine HL.out.mono ?_; rintro e wx ⟨rfl, hwx⟩; subst wx))
  go_ret2
  exact ⟨rfl, rfl⟩

theorem ain_5_4 (w : World) : Calls Tryz.prog 306 #[.int .i64 5, .int .i64 4] w fun e w' => e = .returned (.bool true) ∧ w' = w := by
  have H := Lib.hid (atree_4 w)
  go_enter Tryz.func306, Tryz.ntmps306
  go_wp2_with (go_at_call 323; refine H.out.mono ?_; rintro e wx ⟨rfl, hwx⟩; subst wx)
  go_ret
  exact ⟨rfl, rfl⟩
set_option maxRecDepth 100000 in
theorem aparent_5_4 (w : World) (h : TzF w) : Calls Tryz.prog 307 #[.int .i64 5, .int .i64 4] w fun e w' => e = .returned (.tuple #[.int .i64 3, .bool true]) ∧ w' = w := by
  have H := Lib.hid (ain_5_4 w)
  have HL := Lib.hid (alev_5 w h)
  clear h
  have q1 : bits BinOp.or IntKind.i64 5 2 = 7 := by decide +kernel
  have q2 : bits BinOp.andNot IntKind.i64 7 4 = 3 := by decide +kernel
  go_enter Tryz.func307, Tryz.ntmps307
  go_wp2_with (first
    | (go_at_call 306; refine H.out.mono ?_; rintro e wx ⟨rfl, hwx⟩; subst wx)
    | (go_at_call 304; refine HL.out.mono ?_; rintro e wx ⟨rfl, hwx⟩; subst wx))
  go_ret2
  exact ⟨rfl, rfl⟩

theorem ain_6_4 (w : World) : Calls Tryz.prog 306 #[.int .i64 6, .int .i64 4] w fun e w' => e = .returned (.bool true) ∧ w' = w := by
  have H := Lib.hid (atree_4 w)
  go_enter Tryz.func306, Tryz.ntmps306
  go_wp2_with (go_at_call 323; refine H.out.mono ?_; rintro e wx ⟨rfl, hwx⟩; subst wx)
  go_ret
  exact ⟨rfl, rfl⟩
set_option maxRecDepth 100000 in
theorem aparent_6_4 (w : World) (h : TzF w) : Calls Tryz.prog 307 #[.int .i64 6, .int .i64 4] w fun e w' => e = .returned (.tuple #[.int .i64 5, .bool true]) ∧ w' = w := by
  have H := Lib.hid (ain_6_4 w)
  have HL := Lib.hid (alev_6 w h)
  clear h
  have q1 : bits BinOp.or IntKind.i64 6 1 = 7 := by decide +kernel
  have q2 : bits BinOp.andNot IntKind.i64 7 2 = 5 := by decide +kernel
  go_enter Tryz.func307, Tryz.ntmps307
  go_wp2_with (first
    | (go_at_call 306; refine H.out.mono ?_; rintro e wx ⟨rfl, hwx⟩; subst wx)
    | (go_at_call 304; refine HL.out.mono ?_; rintro e wx ⟨rfl, hwx⟩; subst wx))
  go_ret2
  exact ⟨rfl, rfl⟩

theorem ain_0_8 (w : World) : Calls Tryz.prog 306 #[.int .i64 0, .int .i64 8] w fun e w' => e = .returned (.bool true) ∧ w' = w := by
  have H := Lib.hid (atree_8 w)
  go_enter Tryz.func306, Tryz.ntmps306
  go_wp2_with (go_at_call 323; refine H.out.mono ?_; rintro e wx ⟨rfl, hwx⟩; subst wx)
  go_ret
  exact ⟨rfl, rfl⟩
set_option maxRecDepth 100000 in
theorem aparent_0_8 (w : World) (h : TzF w) : Calls Tryz.prog 307 #[.int .i64 0, .int .i64 8] w fun e w' => e = .returned (.tuple #[.int .i64 1, .bool true]) ∧ w' = w := by
  have H := Lib.hid (ain_0_8 w)
  have HL := Lib.hid (alev_0 w h)
  clear h
  have q1 : bits BinOp.or IntKind.i64 0 1 = 1 := by decide +kernel
  have q2 : bits BinOp.andNot IntKind.i64 1 2 = 1 := by decide +kernel
  go_enter Tryz.func307, Tryz.ntmps307
  go_wp2_with (first
    | (go_at_call 306; refine H.out.mono ?_; rintro e wx ⟨rfl, hwx⟩; subst wx)
    | (go_at_call 304; refine HL.out.mono ?_; rintro e wx ⟨rfl, hwx⟩; subst wx))
  go_ret2
  exact ⟨rfl, rfl⟩

theorem ain_1_8 (w : World) : Calls Tryz.prog 306 #[.int .i64 1, .int .i64 8] w fun e w' => e = .returned (.bool true) ∧ w' = w := by
  have H := Lib.hid (atree_8 w)
  go_enter Tryz.func306, Tryz.ntmps306
  go_wp2_with (go_at_call 323; refine H.out.mono ?_; rintro e wx ⟨rfl, hwx⟩; subst wx)
  go_ret
  exact ⟨rfl, rfl⟩
set_option maxRecDepth 100000 in
theorem aparent_1_8 (w : World) (h : TzF w) : Calls Tryz.prog 307 #[.int .i64 1, .int .i64 8] w fun e w' => e = .returned (.tuple #[.int .i64 3, .bool true]) ∧ w' = w := by
  have H := Lib.hid (ain_1_8 w)
  have HL := Lib.hid (alev_1 w h)
  clear h
  have q1 : bits BinOp.or IntKind.i64 1 2 = 3 := by decide +kernel
  have q2 : bits BinOp.andNot IntKind.i64 3 4 = 3 := by decide +kernel
  go_enter Tryz.func307, Tryz.ntmps307
  go_wp2_with (first
    | (go_at_call 306; refine H.out.mono ?_; rintro e wx ⟨rfl, hwx⟩; subst wx)
    | (go_at_call 304; refine HL.out.mono ?_; rintro e wx ⟨rfl, hwx⟩; subst wx))
  go_ret2
  exact ⟨rfl, rfl⟩

theorem ain_2_8 (w : World) : Calls Tryz.prog 306 #[.int .i64 2, .int .i64 8] w fun e w' => e = .returned (.bool true) ∧ w' = w := by
  have H := Lib.hid (atree_8 w)
  go_enter Tryz.func306, Tryz.ntmps306
  go_wp2_with (go_at_call 323; refine H.out.mono ?_; rintro e wx ⟨rfl, hwx⟩; subst wx)
  go_ret
  exact ⟨rfl, rfl⟩
set_option maxRecDepth 100000 in
theorem aparent_2_8 (w : World) (h : TzF w) : Calls Tryz.prog 307 #[.int .i64 2, .int .i64 8] w fun e w' => e = .returned (.tuple #[.int .i64 1, .bool true]) ∧ w' = w := by
  have H := Lib.hid (ain_2_8 w)
  have HL := Lib.hid (alev_2 w h)
  clear h
  have q1 : bits BinOp.or IntKind.i64 2 1 = 3 := by decide +kernel
  have q2 : bits BinOp.andNot IntKind.i64 3 2 = 1 := by decide +kernel
  go_enter Tryz.func307, Tryz.ntmps307
  go_wp2_with (first
    | (go_at_call 306; refine H.out.mono ?_; rintro e wx ⟨rfl, hwx⟩; subst wx)
    | (go_at_call 304; refine HL.out.mono ?_; rintro e wx ⟨rfl, hwx⟩; subst wx))
  go_ret2
  exact ⟨rfl, rfl⟩

theorem ain_3_8 (w : World) : Calls Tryz.prog 306 #[.int .i64 3, .int .i64 8] w fun e w' => e = .returned (.bool true) ∧ w' = w := by
  have H := Lib.hid (atree_8 w)
  go_enter Tryz.func306, Tryz.ntmps306
  go_wp2_with (go_at_call 323; refine H.out.mono ?_; rintro e wx ⟨rfl, hwx⟩; subst wx)
  go_ret
  exact ⟨rfl, rfl⟩
set_option maxRecDepth 100000 in
theorem aparent_3_8 (w : World) (h : TzF w) : Calls Tryz.prog 307 #[.int .i64 3, .int .i64 8] w fun e w' => e = .returned (.tuple #[.int .i64 7, .bool true]) ∧ w' = w := by
  have H := Lib.hid (ain_3_8 w)
  have HL := Lib.hid (alev_3 w h)
  clear h
  have q1 : bits BinOp.or IntKind.i64 3 4 = 7 := by decide +kernel
  have q2 : bits BinOp.andNot IntKind.i64 7 8 = 7 := by decide +kernel
  go_enter Tryz.func307, Tryz.ntmps307
  go_wp2_with (first
    | (go_at_call 306; refine H.out.mono ?_; rintro e wx ⟨rfl, hwx⟩; subst wx)
    | (go_at_call 304; refine HL.out.mono ?_; rintro e wx ⟨rfl, hwx⟩; subst wx))
  go_ret2
  exact ⟨rfl, rfl⟩

theorem ain_4_8 (w : World) : Calls Tryz.prog 306 #[.int .i64 4, .int .i64 8] w fun e w' => e = .returned (.bool true) ∧ w' = w := by
  have H := Lib.hid (atree_8 w)
  go_enter Tryz.func306, Tryz.ntmps306
  go_wp2_with (go_at_call 323; refine H.out.mono ?_; rintro e wx ⟨rfl, hwx⟩; subst wx)
  go_ret
  exact ⟨rfl, rfl⟩
set_option maxRecDepth 100000 in
theorem aparent_4_8 (w : World) (h : TzF w) : Calls Tryz.prog 307 #[.int .i64 4, .int .i64 8] w fun e w' => e = .returned (.tuple #[.int .i64 5, .bool true]) ∧ w' = w := by
  have H := Lib.hid (ain_4_8 w)
  have HL := Lib.hid (alev_4 w h)
  clear h
  have q1 : bits BinOp.or IntKind.i64 4 1 = 5 := by decide +kernel
  have q2 : bits BinOp.andNot IntKind.i64 5 2 = 5 := by decide +kernel
  go_enter Tryz.func307, Tryz.ntmps307
  go_wp2_with (first
    | (go_at_call 306; refine H.out.mono ?_; rintro e wx ⟨rfl, hwx⟩; subst wx)
    | (go_at_call 304; refine HL.out.mono ?_; rintro e wx ⟨rfl, hwx⟩; subst wx))
  go_ret2
  exact ⟨rfl, rfl⟩

theorem ain_5_8 (w : World) : Calls Tryz.prog 306 #[.int .i64 5, .int .i64 8] w fun e w' => e = .returned (.bool true) ∧ w' = w := by
  have H := Lib.hid (atree_8 w)
  go_enter Tryz.func306, Tryz.ntmps306
  go_wp2_with (go_at_call 323; refine H.out.mono ?_; rintro e wx ⟨rfl, hwx⟩; subst wx)
  go_ret
  exact ⟨rfl, rfl⟩
set_option maxRecDepth 100000 in
theorem aparent_5_8 (w : World) (h : TzF w) : Calls Tryz.prog 307 #[.int .i64 5, .int .i64 8] w fun e w' => e = .returned (.tuple #[.int .i64 3, .bool true]) ∧ w' = w := by
  have H := Lib.hid (ain_5_8 w)
  have HL := Lib.hid (alev_5 w h)
  clear h
  have q1 : bits BinOp.or IntKind.i64 5 2 = 7 := by decide +kernel
  have q2 : bits BinOp.andNot IntKind.i64 7 4 = 3 := by decide +kernel
  go_enter Tryz.func307, Tryz.ntmps307
  go_wp2_with (first
    | (go_at_call 306; refine H.out.mono ?_; rintro e wx ⟨rfl, hwx⟩; subst wx)
    | (go_at_call 304; refine HL.out.mono ?_; rintro e wx ⟨rfl, hwx⟩; subst wx))
  go_ret2
  exact ⟨rfl, rfl⟩

theorem ain_6_8 (w : World) : Calls Tryz.prog 306 #[.int .i64 6, .int .i64 8] w fun e w' => e = .returned (.bool true) ∧ w' = w := by
  have H := Lib.hid (atree_8 w)
  go_enter Tryz.func306, Tryz.ntmps306
  go_wp2_with (go_at_call 323; refine H.out.mono ?_; rintro e wx ⟨rfl, hwx⟩; subst wx)
  go_ret
  exact ⟨rfl, rfl⟩
set_option maxRecDepth 100000 in
theorem aparent_6_8 (w : World) (h : TzF w) : Calls Tryz.prog 307 #[.int .i64 6, .int .i64 8] w fun e w' => e = .returned (.tuple #[.int .i64 5, .bool true]) ∧ w' = w := by
  have H := Lib.hid (ain_6_8 w)
  have HL := Lib.hid (alev_6 w h)
  clear h
  have q1 : bits BinOp.or IntKind.i64 6 1 = 7 := by decide +kernel
  have q2 : bits BinOp.andNot IntKind.i64 7 2 = 5 := by decide +kernel
  go_enter Tryz.func307, Tryz.ntmps307
  go_wp2_with (first
    | (go_at_call 306; refine H.out.mono ?_; rintro e wx ⟨rfl, hwx⟩; subst wx)
    | (go_at_call 304; refine HL.out.mono ?_; rintro e wx ⟨rfl, hwx⟩; subst wx))
  go_ret2
  exact ⟨rfl, rfl⟩

theorem ain_7_8 (w : World) : Calls Tryz.prog 306 #[.int .i64 7, .int .i64 8] w fun e w' => e = .returned (.bool true) ∧ w' = w := by
  have H := Lib.hid (atree_8 w)
  go_enter Tryz.func306, Tryz.ntmps306
  go_wp2_with (go_at_call 323; refine H.out.mono ?_; rintro e wx ⟨rfl, hwx⟩; subst wx)
  go_ret
  exact ⟨rfl, rfl⟩
set_option maxRecDepth 100000 in
theorem aparent_7_8 (w : World) (h : TzF w) : Calls Tryz.prog 307 #[.int .i64 7, .int .i64 8] w fun e w' => e = .returned (.tuple #[.int .i64 0, .bool false]) ∧ w' = w := by
  have H := Lib.hid (ain_7_8 w)
  have HL := Lib.hid (alev_7 w h)
  clear h
  go_enter Tryz.func307, Tryz.ntmps307
  go_wp2_with (first
    | (go_at_call 306; refine H.out.mono ?_; rintro e wx ⟨rfl, hwx⟩; subst wx)
    | (go_at_call 304; refine HL.out.mono ?_; rintro e wx ⟨rfl, hwx⟩; subst wx))
  go_ret2
  exact ⟨rfl, rfl⟩

theorem ain_8_8 (w : World) : Calls Tryz.prog 306 #[.int .i64 8, .int .i64 8] w fun e w' => e = .returned (.bool true) ∧ w' = w := by
  have H := Lib.hid (atree_8 w)
  go_enter Tryz.func306, Tryz.ntmps306
  go_wp2_with (go_at_call 323; refine H.out.mono ?_; rintro e wx ⟨rfl, hwx⟩; subst wx)
  go_ret
  exact ⟨rfl, rfl⟩
set_option maxRecDepth 100000 in
theorem aparent_8_8 (w : World) (h : TzF w) : Calls Tryz.prog 307 #[.int .i64 8, .int .i64 8] w fun e w' => e = .returned (.tuple #[.int .i64 9, .bool true]) ∧ w' = w := by
  have H := Lib.hid (ain_8_8 w)
  have HL := Lib.hid (alev_8 w h)
  clear h
  have q1 : bits BinOp.or IntKind.i64 8 1 = 9 := by decide +kernel
  have q2 : bits BinOp.andNot IntKind.i64 9 2 = 9 := by decide +kernel
  go_enter Tryz.func307, Tryz.ntmps307
  go_wp2_with (first
    | (go_at_call 306; refine H.out.mono ?_; rintro e wx ⟨rfl, hwx⟩; subst wx)
    | (go_at_call 304; refine HL.out.mono ?_; rintro e wx ⟨rfl, hwx⟩; subst wx))
  go_ret2
  exact ⟨rfl, rfl⟩

theorem ain_9_8 (w : World) : Calls Tryz.prog 306 #[.int .i64 9, .int .i64 8] w fun e w' => e = .returned (.bool true) ∧ w' = w := by
  have H := Lib.hid (atree_8 w)
  go_enter Tryz.func306, Tryz.ntmps306
  go_wp2_with (go_at_call 323; refine H.out.mono ?_; rintro e wx ⟨rfl, hwx⟩; subst wx)
  go_ret
  exact ⟨rfl, rfl⟩
set_option maxRecDepth 100000 in
theorem aparent_9_8 (w : World) (h : TzF w) : Calls Tryz.prog 307 #[.int .i64 9, .int .i64 8] w fun e w' => e = .returned (.tuple #[.int .i64 11, .bool true]) ∧ w' = w := by
  have H := Lib.hid (ain_9_8 w)
  have HL := Lib.hid (alev_9 w h)
  clear h
  have q1 : bits BinOp.or IntKind.i64 9 2 = 11 := by decide +kernel
  have q2 : bits BinOp.andNot IntKind.i64 11 4 = 11 := by decide +kernel
  go_enter Tryz.func307, Tryz.ntmps307
  go_wp2_with (first
    | (go_at_call 306; refine H.out.mono ?_; rintro e wx ⟨rfl, hwx⟩; subst wx)
    | (go_at_call 304; refine HL.out.mono ?_; rintro e wx ⟨rfl, hwx⟩; subst wx))
  go_ret2
  exact ⟨rfl, rfl⟩

theorem ain_10_8 (w : World) : Calls Tryz.prog 306 #[.int .i64 10, .int .i64 8] w fun e w' => e = .returned (.bool true) ∧ w' = w := by
  have H := Lib.hid (atree_8 w)
  go_enter Tryz.func306, Tryz.ntmps306
  go_wp2_with (go_at_call 323; refine H.out.mono ?_; rintro e wx ⟨rfl, hwx⟩; subst wx)
  go_ret
  exact ⟨rfl, rfl⟩
set_option maxRecDepth 100000 in
theorem aparent_10_8 (w : World) (h : TzF w) : Calls Tryz.prog 307 #[.int .i64 10, .int .i64 8] w fun e w' => e = .returned (.tuple #[.int .i64 9, .bool true]) ∧ w' = w := by
  have H := Lib.hid (ain_10_8 w)
  have HL := Lib.hid (alev_10 w h)
  clear h
  have q1 : bits BinOp.or IntKind.i64 10 1 = 11 := by decide +kernel
  have q2 : bits BinOp.andNot IntKind.i64 11 2 = 9 := by decide +kernel
  go_enter Tryz.func307, Tryz.ntmps307
  go_wp2_with (first
    | (go_at_call 306; refine H.out.mono ?_; rintro e wx ⟨rfl, hwx⟩; subst wx)
    | (go_at_call 304; refine HL.out.mono ?_; rintro e wx ⟨rfl, hwx⟩; subst wx))
  go_ret2
  exact ⟨rfl, rfl⟩

theorem ain_11_8 (w : World) : Calls Tryz.prog 306 #[.int .i64 11, .int .i64 8] w fun e w' => e = .returned (.bool true) ∧ w' = w := by
  have H := Lib.hid (atree_8 w)
  go_enter Tryz.func306, Tryz.ntmps306
  go_wp2_with (go_at_call 323; refine H.out.mono ?_; rintro e wx ⟨rfl, hwx⟩; subst wx)
  go_ret
  exact ⟨rfl, rfl⟩
set_option maxRecDepth 100000 in
theorem aparent_11_8 (w : World) (h : TzF w) : Calls Tryz.prog 307 #[.int .i64 11, .int .i64 8] w fun e w' => e = .returned (.tuple #[.int .i64 7, .bool true]) ∧ w' = w := by
  have H := Lib.hid (ain_11_8 w)
  have HL := Lib.hid (alev_11 w h)
  clear h
  have q1 : bits BinOp.or IntKind.i64 11 4 = 15 := by decide +kernel
  have q2 : bits BinOp.andNot IntKind.i64 15 8 = 7 := by decide +kernel
  go_enter Tryz.func307, Tryz.ntmps307
  go_wp2_with (first
    | (go_at_call 306; refine H.out.mono ?_; rintro e wx ⟨rfl, hwx⟩; subst wx)
    | (go_at_call 304; refine HL.out.mono ?_; rintro e wx ⟨rfl, hwx⟩; subst wx))
  go_ret2
  exact ⟨rfl, rfl⟩

theorem ain_12_8 (w : World) : Calls Tryz.prog 306 #[.int .i64 12, .int .i64 8] w fun e w' => e = .returned (.bool true) ∧ w' = w := by
  have H := Lib.hid (atree_8 w)
  go_enter Tryz.func306, Tryz.ntmps306
  go_wp2_with (go_at_call 323; refine H.out.mono ?_; rintro e wx ⟨rfl, hwx⟩; subst wx)
  go_ret
  exact ⟨rfl, rfl⟩
set_option maxRecDepth 100000 in
theorem aparent_12_8 (w : World) (h : TzF w) : Calls Tryz.prog 307 #[.int .i64 12, .int .i64 8] w fun e w' => e = .returned (.tuple #[.int .i64 13, .bool true]) ∧ w' = w := by
  have H := Lib.hid (ain_12_8 w)
  have HL := Lib.hid (alev_12 w h)
  clear h
  have q1 : bits BinOp.or IntKind.i64 12 1 = 13 := by decide +kernel
  have q2 : bits BinOp.andNot IntKind.i64 13 2 = 13 := by decide +kernel
  go_enter Tryz.func307, Tryz.ntmps307
  go_wp2_with (first
    | (go_at_call 306; refine H.out.mono ?_; rintro e wx ⟨rfl, hwx⟩; subst wx)
    | (go_at_call 304; refine HL.out.mono ?_; rintro e wx ⟨rfl, hwx⟩; subst wx))
  go_ret2
  exact ⟨rfl, rfl⟩

theorem ain_13_8 (w : World) : Calls Tryz.prog 306 #[.int .i64 13, .int .i64 8] w fun e w' => e = .returned (.bool true) ∧ w' = w := by
  have H := Lib.hid (atree_8 w)
  go_enter Tryz.func306, Tryz.ntmps306
  go_wp2_with (go_at_call 323; refine H.out.mono ?_; rintro e wx ⟨rfl, hwx⟩; subst wx)
  go_ret
  exact ⟨rfl, rfl⟩
set_option maxRecDepth 100000 in
theorem aparent_13_8 (w : World) (h : TzF w) : Calls Tryz.prog 307 #[.int .i64 13, .int .i64 8] w fun e w' => e = .returned (.tuple #[.int .i64 11, .bool true]) ∧ w' = w := by
  have H := Lib.hid (ain_13_8 w)
  have HL := Lib.hid (alev_13 w h)
  clear h
  have q1 : bits BinOp.or IntKind.i64 13 2 = 15 := by decide +kernel
  have q2 : bits BinOp.andNot IntKind.i64 15 4 = 11 := by decide +kernel
  go_enter Tryz.func307, Tryz.ntmps307
  go_wp2_with (first
    | (go_at_call 306; refine H.out.mono ?_; rintro e wx ⟨rfl, hwx⟩; subst wx)
    | (go_at_call 304; refine HL.out.mono ?_; rintro e wx ⟨rfl, hwx⟩; subst wx))
  go_ret2
  exact ⟨rfl, rfl⟩

theorem ain_14_8 (w : World) : Calls Tryz.prog 306 #[.int .i64 14, .int .i64 8] w fun e w' => e = .returned (.bool true) ∧ w' = w := by
  have H := Lib.hid (atree_8 w)
  go_enter Tryz.func306, Tryz.ntmps306
  go_wp2_with (go_at_call 323; refine H.out.mono ?_; rintro e wx ⟨rfl, hwx⟩; subst wx)
  go_ret
  exact ⟨rfl, rfl⟩
set_option maxRecDepth 100000 in
theorem aparent_14_8 (w : World) (h : TzF w) : Calls Tryz.prog 307 #[.int .i64 14, .int .i64 8] w fun e w' => e = .returned (.tuple #[.int .i64 13, .bool true]) ∧ w' = w := by
  have H := Lib.hid (ain_14_8 w)
  have HL := Lib.hid (alev_14 w h)
  clear h
  have q1 : bits BinOp.or IntKind.i64 14 1 = 15 := by decide +kernel
  have q2 : bits BinOp.andNot IntKind.i64 15 2 = 13 := by decide +kernel
  go_enter Tryz.func307, Tryz.ntmps307
  go_wp2_with (first
    | (go_at_call 306; refine H.out.mono ?_; rintro e wx ⟨rfl, hwx⟩; subst wx)
    | (go_at_call 304; refine HL.out.mono ?_; rintro e wx ⟨rfl, hwx⟩; subst wx))
  go_ret2
  exact ⟨rfl, rfl⟩

theorem ain_any (x n : Nat) (hn : n = 1 ∨ n = 2 ∨ n = 4 ∨ n = 8) (hx : x < 2 * n - 1) (w : World) : Calls Tryz.prog 306 #[.int .i64 x, .int .i64 n] w fun e w' => e = .returned (.bool true) ∧ w' = w := by
  rcases hn with rfl | rfl | rfl | rfl
  · obtain rfl : x = 0 := by omega
    exact ain_0_1 w
  · have hc : x = 0 ∨ x = 1 ∨ x = 2 := by omega
    rcases hc with rfl | rfl | rfl
    · exact ain_0_2 w
    · exact ain_1_2 w
    · exact ain_2_2 w
  · have hc : x = 0 ∨ x = 1 ∨ x = 2 ∨ x = 3 ∨ x = 4 ∨ x = 5 ∨ x = 6 := by omega
    rcases hc with rfl | rfl | rfl | rfl | rfl | rfl | rfl
    · exact ain_0_4 w
    · exact ain_1_4 w
    · exact ain_2_4 w
    · exact ain_3_4 w
    · exact ain_4_4 w
    · exact ain_5_4 w
    · exact ain_6_4 w
  · have hc : x = 0 ∨ x = 1 ∨ x = 2 ∨ x = 3 ∨ x = 4 ∨ x = 5 ∨ x = 6 ∨ x = 7 ∨ x = 8 ∨ x = 9 ∨ x = 10 ∨ x = 11 ∨ x = 12 ∨ x = 13 ∨ x = 14 := by omega
    rcases hc with rfl | rfl | rfl | rfl | rfl | rfl | rfl | rfl | rfl | rfl | rfl | rfl | rfl | rfl | rfl
    · exact ain_0_8 w
    · exact ain_1_8 w
    · exact ain_2_8 w
    · exact ain_3_8 w
    · exact ain_4_8 w
    · exact ain_5_8 w
    · exact ain_6_8 w
    · exact ain_7_8 w
    · exact ain_8_8 w
    · exact ain_9_8 w
    · exact ain_10_8 w
    · exact ain_11_8 w
    · exact ain_12_8 w
    · exact ain_13_8 w
    · exact ain_14_8 w

theorem aparent_any (x n : Nat) (hn : n = 1 ∨ n = 2 ∨ n = 4 ∨ n = 8) (hx : x < 2 * n - 1) (w : World) (h : TzF w) : Calls Tryz.prog 307 #[.int .i64 x, .int .i64 n] w fun e w' => e = .returned (.tuple #[.int .i64 ((if x + 1 = n then 0 else parX x : Nat) : Int), .bool (decide (x + 1 ≠ n))]) ∧ w' = w := by
  rcases hn with rfl | rfl | rfl | rfl
  · obtain rfl : x = 0 := by omega
    exact aparent_0_1 w h
  · have hc : x = 0 ∨ x = 1 ∨ x = 2 := by omega
    rcases hc with rfl | rfl | rfl
    · exact aparent_0_2 w h
    · exact aparent_1_2 w h
    · exact aparent_2_2 w h
  · have hc : x = 0 ∨ x = 1 ∨ x = 2 ∨ x = 3 ∨ x = 4 ∨ x = 5 ∨ x = 6 := by omega
    rcases hc with rfl | rfl | rfl | rfl | rfl | rfl | rfl
    · exact aparent_0_4 w h
    · exact aparent_1_4 w h
    · exact aparent_2_4 w h
    · exact aparent_3_4 w h
    · exact aparent_4_4 w h
    · exact aparent_5_4 w h
    · exact aparent_6_4 w h
  · have hc : x = 0 ∨ x = 1 ∨ x = 2 ∨ x = 3 ∨ x = 4 ∨ x = 5 ∨ x = 6 ∨ x = 7 ∨ x = 8 ∨ x = 9 ∨ x = 10 ∨ x = 11 ∨ x = 12 ∨ x = 13 ∨ x = 14 := by omega
    rcases hc with rfl | rfl | rfl | rfl | rfl | rfl | rfl | rfl | rfl | rfl | rfl | rfl | rfl | rfl | rfl
    · exact aparent_0_8 w h
    · exact aparent_1_8 w h
    · exact aparent_2_8 w h
    · exact aparent_3_8 w h
    · exact aparent_4_8 w h
    · exact aparent_5_8 w h
    · exact aparent_6_8 w h
    · exact aparent_7_8 w h
    · exact aparent_8_8 w h
    · exact aparent_9_8 w h
    · exact aparent_10_8 w h
    · exact aparent_11_8 w h
    · exact aparent_12_8 w h
    · exact aparent_13_8 w h
    · exact aparent_14_8 w h

end Go.Proofs.YtedpljclnpiggaaGreatDoor

/-
  Trees as data, where they lie, and which may be.
-/
namespace Go.Proofs.YtedpljclnpiggaaGreatDoor
open Go Go.RowKit

/-- A node, as data. -/
structure NodeD where
  pub : Int
  mem : Int
  ep : Int
  um : List Int
def zeroN : NodeD := ⟨0, 0, 0, []⟩
def nodeD (T : List NodeD) (x : Nat) : NodeD := T.getD x zeroN
def blankD (d : NodeD) : Bool := decide (d.pub = 0) && decide (d.mem = 0) && decide (d.ep = 0) && decide (d.um.length = 0)

/-- Numbers in blocks below B. -/
def NumsAt (B : Nat) (w : World) (a : Option Addr) (l : List Int) : Prop := ∀ i, i < l.length → ∃ b o, a = some ⟨b, o, none⟩ ∧ b < B ∧ w.cell? ⟨b, o + i, none⟩ = some (.int .i64 (l.getD i 0))
theorem NumsAt.below {B : Nat} {w w' : World} {a : Option Addr} {l : List Int} (h : NumsAt B w a l) (hb : Below B w w') : NumsAt B w' a l := fun i hi => by
  obtain ⟨b, o, e, hl, hc⟩ := h i hi
  exact ⟨b, o, e, hl, (hb.cell (p := ⟨b, o + i, none⟩) hl).trans hc⟩

structure NodeAt (B : Nat) (w : World) (b o : Nat) (d : NodeD) : Prop where
  lt : b < B
  c0 : w.cell? ⟨b, o, none⟩ = some (.int .i64 d.pub)
  c1 : w.cell? ⟨b, o + 1, none⟩ = some (.int .i64 d.mem)
  c2 : w.cell? ⟨b, o + 2, none⟩ = some (.int .i64 d.ep)
  c3 : ∃ a c, w.cell? ⟨b, o + 3, none⟩ = some (.slice a d.um.length c) ∧ NumsAt B w a d.um
theorem NodeAt.below {B : Nat} {w w' : World} {b o : Nat} {d : NodeD} (h : NodeAt B w b o d) (hb : Below B w w') : NodeAt B w' b o d :=
  have hc : ∀ j, w'.cell? ⟨b, j, none⟩ = w.cell? ⟨b, j, none⟩ := fun j => hb.cell (p := ⟨b, j, none⟩) h.lt
  ⟨h.lt, (hc _).trans h.c0, (hc _).trans h.c1, (hc _).trans h.c2, let ⟨a, c, e, hn⟩ := h.c3; ⟨a, c, (hc _).trans e, hn.below hb⟩⟩

/-- A tree's nodes in blocks below B. -/
def TreeAt (B : Nat) (w : World) (a : Option Addr) (T : List NodeD) : Prop := ∀ i, i < T.length → ∃ b o, a = some ⟨b, o, none⟩ ∧ NodeAt B w b (o + i * 4) (nodeD T i)
theorem TreeAt.below {B : Nat} {w w' : World} {a : Option Addr} {T : List NodeD} (h : TreeAt B w a T) (hb : Below B w w') : TreeAt B w' a T := fun i hi => by
  obtain ⟨b, o, e, hn⟩ := h i hi
  exact ⟨b, o, e, hn.below hb⟩

/-- All numbers fit. -/
def FitT (T : List NodeD) : Prop := ∀ x, x < T.length → i64ok (nodeD T x).pub ∧ i64ok (nodeD T x).mem ∧ i64ok (nodeD T x).ep ∧ (nodeD T x).um.length ≤ 9223372036854775807

def leavesD (n : Nat) : Nat := if n = 1 then 1 else if n = 3 then 2 else if n = 7 then 4 else if n = 15 then 8 else 0

/-- The leaves below a parent that do not know its secret: rising, in its span, not blank. -/
def unD (T : List NodeD) (last : Int) : Int → List Int → Bool
  | _, [] => true
  | first, u :: r => if u < first ∨ last < u ∨ (nodeD T (2 * u).toNat).pub = 0 then false else unD T last (u + 1) r
def parentD (T : List NodeD) (x : Nat) : Bool := if (nodeD T x).pub < 1 ∨ (nodeD T x).mem ≠ 0 ∨ (nodeD T x).ep ≠ 0 then blankD (nodeD T x) else unD T (spL x : Nat) (spF x : Nat) (nodeD T x).um
def leafD (d : NodeD) : Bool := blankD d || (decide (0 < d.pub) && decide (0 ≤ d.mem) && decide (0 ≤ d.ep) && decide (d.um.length = 0))

/-- The members of the leaves among the first nodes. -/
def memsD (T : List NodeD) : Nat → List Int
  | 0 => []
  | k + 1 => if k % 2 = 0 ∧ blankD (nodeD T k) = false then (nodeD T k).mem :: memsD T k else memsD T k
/-- The last leaf among the first nodes. -/
def lastD (T : List NodeD) : Nat → Int
  | 0 => -1
  | k + 1 => if k % 2 = 0 ∧ blankD (nodeD T k) = false then ((k / 2 : Nat) : Int) else lastD T k

def goodAt (T : List NodeD) (x : Nat) : Prop :=
  (x % 2 = 1 ∧ parentD T x = true) ∨ (x % 2 = 0 ∧ (blankD (nodeD T x) = true ∨ (0 < (nodeD T x).pub ∧ 0 ≤ (nodeD T x).mem ∧ 0 ≤ (nodeD T x).ep ∧ (nodeD T x).um.length = 0 ∧ (nodeD T x).mem ∉ memsD T x)))
/-- May a tree be? -/
def OkT' (T : List NodeD) : Prop := T.length = 0 ∨ (leavesD T.length ≠ 0 ∧ (∀ x, x < T.length → goodAt T x) ∧ ((leavesD T.length / 2 : Nat) : Int) ≤ lastD T T.length)
open Classical in
/-- What Check answers. -/
noncomputable def errD (T : List NodeD) : Int := if OkT' T then 0 else 1
theorem errD_ok {T : List NodeD} (h : OkT' T) : errD T = 0 := by unfold errD; exact if_pos h
theorem errD_bad {T : List NodeD} (h : ¬ OkT' T) : errD T = 1 := by unfold errD; exact if_neg h
theorem errD_zero {T : List NodeD} (h : errD T = 0) : OkT' T := by
  by_cases h1 : OkT' T
  · exact h1
  · rw [errD_bad h1] at h; cases h

theorem leavesD_cases (n : Nat) : leavesD n = 0 ∨ (n = 1 ∧ leavesD n = 1) ∨ (n = 3 ∧ leavesD n = 2) ∨ (n = 7 ∧ leavesD n = 4) ∨ (n = 15 ∧ leavesD n = 8) := by
  unfold leavesD
  split
  · exact .inr (.inl ⟨by assumption, rfl⟩)
  · split
    · exact .inr (.inr (.inl ⟨by assumption, rfl⟩))
    · split
      · exact .inr (.inr (.inr (.inl ⟨by assumption, rfl⟩)))
      · split
        · exact .inr (.inr (.inr (.inr ⟨by assumption, rfl⟩)))
        · exact .inl rfl

theorem mem_memsD {T : List NodeD} {m : Int} : ∀ k, m ∈ memsD T k ↔ ∃ i, i < k ∧ i % 2 = 0 ∧ blankD (nodeD T i) = false ∧ (nodeD T i).mem = m
  | 0 => by simp [memsD]
  | k + 1 => by
    unfold memsD
    split
    · rename_i h
      rw [List.mem_cons, mem_memsD k]
      constructor
      · rintro (e | ⟨i, h1, h2⟩)
        · exact ⟨k, by omega, h.1, h.2, e.symm⟩
        · exact ⟨i, by omega, h2⟩
      · rintro ⟨i, h1, h2, h3, h4⟩
        by_cases hi : i = k
        · subst hi; exact .inl h4.symm
        · exact .inr ⟨i, by omega, h2, h3, h4⟩
    · rename_i h
      rw [mem_memsD k]
      constructor
      · rintro ⟨i, h1, h2⟩; exact ⟨i, by omega, h2⟩
      · rintro ⟨i, h1, h2, h3, h4⟩
        by_cases hi : i = k
        · subst hi; exact absurd ⟨h2, h3⟩ h
        · exact ⟨i, by omega, h2, h3, h4⟩

theorem lastD_le : ∀ (T : List NodeD) (k : Nat), -1 ≤ lastD T k ∧ lastD T k < k
  | _, 0 => by simp [lastD]
  | T, k + 1 => by
    have := lastD_le T k
    unfold lastD
    split <;> omega
theorem le_lastD {T : List NodeD} {c : Nat} : ∀ k, (c : Int) ≤ lastD T k ↔ ∃ i, i < k ∧ i % 2 = 0 ∧ blankD (nodeD T i) = false ∧ c ≤ i / 2
  | 0 => by simp [lastD]; omega
  | k + 1 => by
    have hl := lastD_le T k
    unfold lastD
    split
    · rename_i h
      constructor
      · intro hc; exact ⟨k, by omega, h.1, h.2, by omega⟩
      · rintro ⟨i, h1, h2, h3, h4⟩; omega
    · rename_i h
      rw [le_lastD k]
      constructor
      · rintro ⟨i, h1, h2⟩; exact ⟨i, by omega, h2⟩
      · rintro ⟨i, h1, h2, h3, h4⟩
        by_cases hi : i = k
        · subst hi; exact absurd ⟨h2, h3⟩ h
        · exact ⟨i, by omega, h2, h3, h4⟩

/-! What the document asks. -/
def twiceD (T : List NodeD) : Prop := ∃ i k, k < i ∧ i < T.length ∧ i % 2 = 0 ∧ k % 2 = 0 ∧ (nodeD T i).pub ≠ 0 ∧ (nodeD T k).pub ≠ 0 ∧ (nodeD T i).mem = (nodeD T k).mem
def someD (T : List NodeD) (c : Nat) : Prop := ∃ i, i < T.length ∧ i % 2 = 0 ∧ 2 * c ≤ i ∧ (nodeD T i).pub ≠ 0
def eachD (T : List NodeD) : Prop := ∀ x, x < T.length → (x % 2 = 0 → leafD (nodeD T x) = true) ∧ (x % 2 = 1 → parentD T x = true)

theorem blank_iff {T : List NodeD} (h : eachD T) {x : Nat} (hx : x < T.length) (h2 : x % 2 = 0) : blankD (nodeD T x) = false ↔ (nodeD T x).pub ≠ 0 := by
  have hl := (h x hx).1 h2
  constructor
  · intro hb e
    unfold leafD at hl
    rw [hb, Bool.false_or] at hl
    simp only [Bool.and_eq_true, decide_eq_true_eq] at hl
    omega
  · intro hp
    unfold blankD
    simp [hp]

theorem ok_iff {T : List NodeD} (hl : leavesD T.length ≠ 0) : OkT' T ↔ (eachD T ∧ ¬ twiceD T ∧ someD T 0 ∧ (1 < leavesD T.length → someD T (leavesD T.length / 2))) := by
  have hpos : T.length ≠ 0 := by
    intro e
    rw [e] at hl
    exact hl (by decide)
  constructor
  · rintro (h | ⟨_, hg, hlast⟩)
    · exact absurd h hpos
    have he : eachD T := by
      intro x hx
      rcases hg x hx with ⟨h1, h2⟩ | ⟨h1, h2⟩
      · exact ⟨fun h => by omega, fun _ => h2⟩
      · refine ⟨fun _ => ?_, fun h => by omega⟩
        unfold leafD
        rcases h2 with h2 | ⟨a, b, c, d, _⟩
        · rw [h2]; rfl
        · simp [a, b, c, d]
    refine ⟨he, ?_, ?_, ?_⟩
    · rintro ⟨i, k, hk, hi, h1, h2, h3, h4, h5⟩
      rcases hg i hi with ⟨h, _⟩ | ⟨_, h⟩
      · omega
      have hb := (blank_iff he hi h1).2 h3
      rcases h with h | ⟨_, _, _, _, h⟩
      · rw [h] at hb; cases hb
      · exact h ((mem_memsD i).2 ⟨k, hk, h2, (blank_iff he (by omega) h2).2 h4, h5.symm⟩)
    · obtain ⟨i, h1, h2, h3, h4⟩ := (le_lastD _).1 hlast
      exact ⟨i, h1, h2, by omega, (blank_iff he h1 h2).1 h3⟩
    · intro _
      obtain ⟨i, h1, h2, h3, h4⟩ := (le_lastD _).1 hlast
      exact ⟨i, h1, h2, by omega, (blank_iff he h1 h2).1 h3⟩
  · rintro ⟨he, ht, h0, hs⟩
    refine .inr ⟨hl, fun x hx => ?_, ?_⟩
    · by_cases h2 : x % 2 = 1
      · exact .inl ⟨h2, (he x hx).2 h2⟩
      · refine .inr ⟨by omega, ?_⟩
        have h3 := (he x hx).1 (by omega)
        cases hb : blankD (nodeD T x) with
        | true => exact .inl rfl
        | false =>
          unfold leafD at h3
          rw [hb, Bool.false_or] at h3
          simp only [Bool.and_eq_true, decide_eq_true_eq] at h3
          refine .inr ⟨h3.1.1.1, h3.1.1.2, h3.1.2, h3.2, fun hm => ht ?_⟩
          obtain ⟨k, k1, k2, k3, k4⟩ := (mem_memsD x).1 hm
          exact ⟨x, k, k1, hx, by omega, k2, (blank_iff he hx (by omega)).1 hb, (blank_iff he (by omega) k2).1 k3, k4.symm⟩
    · by_cases h1 : 1 < leavesD T.length
      · obtain ⟨i, i1, i2, i3, i4⟩ := hs h1
        exact (le_lastD _).2 ⟨i, i1, i2, (blank_iff he i1 i2).2 i4, by omega⟩
      · obtain ⟨i, i1, i2, i3, i4⟩ := h0
        exact (le_lastD _).2 ⟨i, i1, i2, (blank_iff he i1 i2).2 i4, by omega⟩

theorem ok_leaves {T : List NodeD} (h : OkT' T) (hp : T.length ≠ 0) : leavesD T.length ≠ 0 := by
  rcases h with h | h
  · exact absurd h hp
  · exact h.1

/-! The nodes above one. -/
def upD : Nat → Nat → Nat → List Nat
  | 0, _, _ => []
  | f + 1, x, n => x :: if x + 1 = n then [] else upD f (parX x) n
/-- Those above a node, the lowest first. -/
def directD (x n : Nat) : List Nat := (upD 4 x n).tail
/-- .. that are not blank. -/
def overD (T : List NodeD) (x : Nat) : List Nat := (directD x (leavesD T.length)).filter fun y => decide ((nodeD T y).pub ≠ 0)

abbrev isN (n : Nat) : Prop := n = 1 ∨ n = 2 ∨ n = 4 ∨ n = 8
theorem direct_facts : ∀ n ∈ [1, 2, 4, 8], ∀ x ∈ List.range (2 * n - 1), (directD x n).length ≤ 3 ∧ (upD 4 x n) = x :: directD x n ∧ ∀ y ∈ upD 4 x n, y < 2 * n - 1 := by decide
theorem direct_len {x n : Nat} (hn : isN n) (hx : x < 2 * n - 1) : (directD x n).length ≤ 3 := (direct_facts n (by rcases hn with rfl | rfl | rfl | rfl <;> decide) x (List.mem_range.2 hx)).1
theorem up_eq {x n : Nat} (hn : isN n) (hx : x < 2 * n - 1) : upD 4 x n = x :: directD x n := (direct_facts n (by rcases hn with rfl | rfl | rfl | rfl <;> decide) x (List.mem_range.2 hx)).2.1
theorem up_lt {x n : Nat} (hn : isN n) (hx : x < 2 * n - 1) : ∀ y ∈ upD 4 x n, y < 2 * n - 1 := (direct_facts n (by rcases hn with rfl | rfl | rfl | rfl <;> decide) x (List.mem_range.2 hx)).2.2
theorem leaves_isN {n : Nat} (h : leavesD n ≠ 0) : isN (leavesD n) ∧ n = 2 * leavesD n - 1 := by
  rcases leavesD_cases n with h0 | ⟨h0, h1⟩ | ⟨h0, h1⟩ | ⟨h0, h1⟩ | ⟨h0, h1⟩
  · exact absurd h0 h
  all_goals
    rw [h1, h0]
    exact ⟨by decide, rfl⟩
end Go.Proofs.YtedpljclnpiggaaGreatDoor

/-
  path.Above as data: what a climb makes of a list of terms.
-/
namespace Go.Proofs.YtedpljclnpiggaaGreatDoor

/-- A node's keys made, and the next secret derived, so many times. -/
def climb : Nat → List TermD → Int → List TermD × Int
  | 0, L, s => (L, s)
  | k + 1, L, s => (makeL (nodeT (climb k L s).1 (climb k L s).2) (kdfT 1 (climb k L s).2), makeN (nodeT (climb k L s).1 (climb k L s).2) (kdfT 1 (climb k L s).2))

def keyAt (L : List TermD) (s : Int) (k : Nat) : Int := nodeK (climb k L s).1 (climb k L s).2
def pubAt (L : List TermD) (s : Int) (k : Nat) : Int := nodeP (climb k L s).1 (climb k L s).2
def nodeAtT (L : List TermD) (s : Int) (k : Nat) : List TermD := nodeT (climb k L s).1 (climb k L s).2

/-- What is so of a list on the way. -/
structure OnWay (L : List TermD) (s : Int) (m : Nat) : Prop where
  good : Good L
  may : AllMay L
  there : thereD L.length s = true
  len : L.length ≤ m

/-- What is so behind a node's keys. -/
structure AtNode (L : List TermD) (m : Nat) : Prop where
  good : Good L
  may : AllMay L
  len : L.length ≤ m

theorem OnWay.node {L : List TermD} {s : Int} {m : Nat} (h : OnWay L s m) (hm : m ≤ 4000) : AtNode (nodeT L s) (m + 2) ∧ thereD (nodeT L s).length s = true ∧ L.length ≤ (nodeT L s).length := by
  have := h.len
  have hf := node_facts (x := s) h.good (by omega)
  exact ⟨⟨hf.1, nodeT_may s h.may, by omega⟩, there_mono h.there hf.2.2.1, hf.2.2.1⟩

theorem OnWay.next {L : List TermD} {s : Int} {m : Nat} (h : OnWay L s m) (hm : m ≤ 4000) : OnWay (makeL (nodeT L s) (kdfT 1 s)) (makeN (nodeT L s) (kdfT 1 s)) (m + 3) := by
  obtain ⟨h1, h2, _⟩ := h.node hm
  have h3 := h1.len
  have hk := make_ok (may_kdf (label := 1) (by omega) h2) (by omega : (nodeT L s).length < 1048576)
  have hl := makeL_len (nodeT L s) (kdfT 1 s)
  exact ⟨h1.good.make (kdf_ok (by simp [i64ok]) (there_i64 h2 (by omega))), h1.may.make _, hk.2, by omega⟩

theorem climb_way {L : List TermD} {s : Int} (h : OnWay L s 3000) : ∀ k, k ≤ 16 → OnWay (climb k L s).1 (climb k L s).2 (3000 + 3 * k)
  | 0, _ => h
  | k + 1, hk => by
    have := (climb_way h k (by omega)).next (by omega)
    refine ⟨this.good, this.may, this.there, ?_⟩
    have h1 := this.len
    show (makeL (nodeT (climb k L s).1 (climb k L s).2) (kdfT 1 (climb k L s).2)).length ≤ _
    omega

theorem climb_len {L : List TermD} {s : Int} (h : OnWay L s 3000) : ∀ k, k ≤ 16 → L.length ≤ (climb k L s).1.length
  | 0, _ => Nat.le_refl _
  | k + 1, hk => by
    have h1 := climb_len h k (by omega)
    have h2 := (climb_way h k (by omega)).node (by omega)
    have h3 := makeL_len (nodeT (climb k L s).1 (climb k L s).2) (kdfT 1 (climb k L s).2)
    unfold climb
    simp only
    omega

theorem getD_left {α : Type} (d : α) {l r : List α} {i : Nat} (h : i < l.length) : (l ++ r).getD i d = l.getD i d := by simp [List.getD_eq_getElem?_getD, List.getElem?_append_left h]
theorem getD_last {α : Type} (d x : α) (l : List α) : (l ++ [x]).getD l.length d = x := by simp [List.getD_eq_getElem?_getD]

/-- The keys of a climb. -/
def keysD (P : List Nat) (L : List TermD) (s : Int) : List KeyP := (List.range P.length).map fun i => (((P.getD i 0 : Nat) : Int), keyAt L s i)
theorem keysD_len (P : List Nat) (L : List TermD) (s : Int) : (keysD P L s).length = P.length := by simp [keysD]
theorem keysD_snoc (P : List Nat) (x : Nat) (L : List TermD) (s : Int) : keysD (P ++ [x]) L s = keysD P L s ++ [((x : Int), keyAt L s P.length)] := by
  unfold keysD
  rw [List.length_append, List.length_singleton, List.range_succ, List.map_append]
  congr 1
  · refine List.map_congr_left fun i hi => ?_
    have hi' := List.mem_range.1 hi
    rw [getD_left 0 hi']
  · simp
theorem keysD_one (x : Nat) (L : List TermD) (s : Int) : keysD [x] L s = [((x : Int), keyAt L s 0)] := by simp [keysD]

def okD (pub : Nat → Int) (P : List Nat) (L : List TermD) (s : Int) : Prop := ∀ i, i < P.length → pub (P.getD i 0) = pubAt L s i
theorem okD_nil (pub : Nat → Int) (L : List TermD) (s : Int) : okD pub [] L s := fun i hi => by simp at hi
theorem okD_snoc {pub : Nat → Int} {P : List Nat} {x : Nat} {L : List TermD} {s : Int} (h : okD pub P L s) (hx : pub x = pubAt L s P.length) : okD pub (P ++ [x]) L s := fun i hi => by
  by_cases h1 : i < P.length
  · rw [getD_left 0 h1]; exact h i h1
  · have : i = P.length := by simp at hi; omega
    subst this
    rw [getD_last]
    exact hx

/-- What Above answers, and the terms that it leaves. -/
def AbRes (pub : Nat → Int) (P : List Nat) (L : List TermD) (s : Int) (e : Int) (T : List TermD) (ks : List KeyP) (c : Int) : Prop :=
  (okD pub P L s ∧ e = 0 ∧ T = (climb P.length L s).1 ∧ ks = risingD (keysD P L s) ∧ c = (climb P.length L s).2) ∨
  (∃ i, i < P.length ∧ okD pub (P.take i) L s ∧ pub (P.getD i 0) ≠ pubAt L s i ∧ e = 12 ∧ T = nodeAtT L s i ∧ ks = [] ∧ c = 0)

theorem okD_take {pub : Nat → Int} {P : List Nat} {L : List TermD} {s : Int} {i j : Nat} (h : okD pub (P.take i) L s) (hj : j < i) (hi : i ≤ P.length) : pub (P.getD j 0) = pubAt L s j := by
  have h1 := h j (by rw [List.length_take]; omega)
  rw [List.getD_eq_getElem?_getD, List.getElem?_take_of_lt hj, ← List.getD_eq_getElem?_getD] at h1
  exact h1

theorem AbRes.one {pub : Nat → Int} {P : List Nat} {L : List TermD} {s : Int} {e e' : Int} {T T' : List TermD} {ks ks' : List KeyP} {c c' : Int} (h : AbRes pub P L s e T ks c) (h' : AbRes pub P L s e' T' ks' c') :
    e = e' ∧ T = T' ∧ ks = ks' ∧ c = c' := by
  rcases h with ⟨h1, rfl, rfl, rfl, rfl⟩ | ⟨i, hi, h1, h2, rfl, rfl, rfl, rfl⟩ <;> rcases h' with ⟨k1, rfl, rfl, rfl, rfl⟩ | ⟨j, hj, k1, k2, rfl, rfl, rfl, rfl⟩
  · exact ⟨rfl, rfl, rfl, rfl⟩
  · exact absurd (h1 j hj) k2
  · exact absurd (k1 i hi) h2
  · rcases Nat.lt_trichotomy i j with hl | hl | hl
    · exact absurd (okD_take k1 hl (by omega)) h2
    · subst hl; exact ⟨rfl, rfl, rfl, rfl⟩
    · exact absurd (okD_take h1 hl (by omega)) k2

/-! The document's Put, on a rising list. -/
theorem putD_all_lt : ∀ (p : List KeyP) (k : KeyP), (∀ x ∈ p, x.1 < k.1) → putD p k = p ++ [k]
  | [], k, _ => rfl
  | x :: r, k, h => by
    have hx := h x (by simp)
    unfold putD
    rw [if_neg (by omega), if_neg (by omega), putD_all_lt r k (fun y hy => h y (by simp [hy]))]
    rfl
theorem putD_snoc_eq : ∀ (p : List KeyP) (x k : KeyP), (∀ y ∈ p, y.1 < k.1) → x.1 = k.1 → putD (p ++ [x]) k = p ++ [k]
  | [], x, k, _, e => by simp [putD, e]
  | y :: r, x, k, h, e => by
    have hy := h y (by simp)
    rw [List.cons_append]
    unfold putD
    rw [if_neg (by omega), if_neg (by omega), putD_snoc_eq r x k (fun z hz => h z (by simp [hz])) e]
    rfl
theorem putD_snoc_gt : ∀ (p : List KeyP) (x k : KeyP), (∀ y ∈ p, y.1 < k.1) → k.1 < x.1 → putD (p ++ [x]) k = p ++ [k, x]
  | [], x, k, _, e => by simp [putD, e]
  | y :: r, x, k, h, e => by
    have hy := h y (by simp)
    rw [List.cons_append]
    unfold putD
    rw [if_neg (by omega), if_neg (by omega), putD_snoc_gt r x k (fun z hz => h z (by simp [hz])) e]
    rfl
theorem putD_snoc_done : ∀ (p : List KeyP) (x k : KeyP), (∃ y ∈ p, k.1 ≤ y.1) → putD (p ++ [x]) k = putD p k ++ [x]
  | [], x, k, h => by obtain ⟨y, hy, _⟩ := h; simp at hy
  | y :: r, x, k, h => by
    rw [List.cons_append]
    unfold putD
    by_cases h1 : k.1 < y.1
    · rw [if_pos h1, if_pos h1]; rfl
    · rw [if_neg h1, if_neg h1]
      by_cases h2 : k.1 = y.1
      · rw [if_pos h2, if_pos h2]; rfl
      · rw [if_neg h2, if_neg h2, putD_snoc_done r x k (by
          obtain ⟨z, hz, hk⟩ := h
          rcases List.mem_cons.1 hz with rfl | hz
          · omega
          · exact ⟨z, hz, hk⟩)]
        rfl
end Go.Proofs.YtedpljclnpiggaaGreatDoor

/-
  What Above answers, as data: of both sides.
-/
namespace Go.Proofs.YtedpljclnpiggaaGreatDoor
open Go Go.RowKit

def heldD (T : List NodeD) (n : Nat) : Prop := ∀ x, x < T.length → (nodeD T x).pub = 0 ∨ thereD n (nodeD T x).pub = true
def condD (T : List NodeD) (L : List TermD) (node secret : Int) : Prop := OkT' T ∧ heldD T L.length ∧ 0 ≤ node ∧ node < T.length ∧ thereD L.length secret = true
def pubD (T : List NodeD) (x : Nat) : Int := (nodeD T x).pub
abbrev pathD (T : List NodeD) (x : Nat) : List Nat := x :: overD T x

def AbAns (T : List NodeD) (L : List TermD) (node secret : Int) (e : Int) (T' : List TermD) (ks : List KeyP) (c : Int) : Prop :=
  (condD T L node secret ∧ AbRes (pubD T) (pathD T node.toNat) L secret e T' ks c) ∨ (¬ condD T L node secret ∧ e = 1 ∧ T' = L ∧ ks = [] ∧ c = 0)

theorem AbAns.one {T : List NodeD} {L : List TermD} {node secret e e' c c' : Int} {T' T'' : List TermD} {ks ks' : List KeyP} (h : AbAns T L node secret e T' ks c) (h' : AbAns T L node secret e' T'' ks' c') :
    e = e' ∧ T' = T'' ∧ ks = ks' ∧ c = c' := by
  rcases h with ⟨h0, h1⟩ | ⟨h0, rfl, rfl, rfl, rfl⟩ <;> rcases h' with ⟨k0, k1⟩ | ⟨k0, rfl, rfl, rfl, rfl⟩
  · exact h1.one k1
  · exact absurd h0 k0
  · exact absurd k0 h0
  · exact ⟨rfl, rfl, rfl, rfl⟩

theorem over_len {T : List NodeD} {x : Nat} (h : OkT' T) (hx : x < T.length) : (overD T x).length ≤ 3 := by
  obtain ⟨h1, h2⟩ := leaves_isN (ok_leaves h (by omega))
  have h3 := direct_len h1 (x := x) (by omega)
  have h4 := List.length_filter_le (fun y => decide ((nodeD T y).pub ≠ 0)) (directD x (leavesD T.length))
  unfold overD
  omega

/-- What is so of an answer. -/
structure AnsOk (L T' : List TermD) (ks : List KeyP) (c : Int) : Prop where
  good : Good T'
  may : AllMay T'
  len : T'.length ≤ 3100
  grow : L.length ≤ T'.length
  keys : ∀ k ∈ ks, 0 ≤ k.2 ∧ k.2 ≤ T'.length
  few : ks.length ≤ 4
  last : 0 ≤ c ∧ c ≤ T'.length

theorem mem_risingD {l : List KeyP} {k : KeyP} (h : k ∈ risingD l) : k ∈ l := by
  unfold risingD at h
  have : ∀ (l m : List KeyP), RisingK m → k ∈ l.foldl putD m → k ∈ l ∨ k ∈ m := by
    intro l
    induction l with
    | nil => intro m _ h; exact .inr h
    | cons x r ih =>
      intro m hm h
      rw [List.foldl_cons] at h
      rcases ih _ (rising_putD m x hm) h with h | h
      · exact .inl (List.mem_cons_of_mem _ h)
      · rcases (mem_putD m x hm k).1 h with rfl | ⟨h, _⟩
        · exact .inl (by simp)
        · exact .inr h
  rcases this l [] List.Pairwise.nil h with h | h
  · exact h
  · simp at h

theorem climb_mono {L : List TermD} {s : Int} (h : OnWay L s 3000) : ∀ j i, i ≤ j → j ≤ 16 → (climb i L s).1.length ≤ (climb j L s).1.length
  | 0, i, hi, _ => by obtain rfl : i = 0 := by omega
                      exact Nat.le_refl _
  | j + 1, i, hi, hj => by
    by_cases e : i = j + 1
    · subst e; exact Nat.le_refl _
    · have h1 := climb_mono h j i (by omega) (by omega)
      have h2 := (climb_way h j (by omega)).node (by omega)
      have h3 := makeL_len (nodeT (climb j L s).1 (climb j L s).2) (kdfT 1 (climb j L s).2)
      show (climb i L s).1.length ≤ (makeL (nodeT (climb j L s).1 (climb j L s).2) (kdfT 1 (climb j L s).2)).length
      omega

theorem ans_ok {T : List NodeD} {L : List TermD} {node secret e c : Int} {T' : List TermD} {ks : List KeyP} (hg : Good L) (hm : AllMay L) (hl : L.length ≤ 3000) (h : AbAns T L node secret e T' ks c) : AnsOk L T' ks c := by
  rcases h with ⟨h0, h1⟩ | ⟨_, rfl, rfl, rfl, rfl⟩
  · have hw : OnWay L secret 3000 := ⟨hg, hm, h0.2.2.2.2, hl⟩
    have hn : node.toNat < T.length := by have := h0.2.2.1; have := h0.2.2.2.1; omega
    have hlen : (pathD T node.toNat).length ≤ 4 := by have := over_len h0.1 hn; simp; omega
    generalize pathD T node.toNat = P at h1 hlen
    rcases h1 with ⟨_, rfl, rfl, rfl, rfl⟩ | ⟨i, hi, _, _, rfl, rfl, rfl, rfl⟩
    · have h2 := climb_way hw P.length (by omega)
      have h3 := climb_len hw P.length (by omega)
      refine ⟨h2.good, h2.may, by have := h2.len; omega, h3, fun k hk => ?_, ?_, ?_⟩
      · have hk2 := mem_risingD hk
        unfold keysD at hk2
        obtain ⟨i, hi, rfl⟩ := List.mem_map.1 hk2
        have hi' := List.mem_range.1 hi
        have h4 := climb_way hw i (by omega)
        have h5 := node_facts (x := (climb i L secret).2) h4.good (by have := h4.len; omega)
        have h6 := climb_mono hw P.length (i + 1) (by omega) (by omega)
        have h7 := makeL_len (nodeT (climb i L secret).1 (climb i L secret).2) (kdfT 1 (climb i L secret).2)
        have h8 : (climb (i + 1) L secret).1 = makeL (nodeT (climb i L secret).1 (climb i L secret).2) (kdfT 1 (climb i L secret).2) := rfl
        rw [h8] at h6
        show 0 ≤ nodeK _ _ ∧ nodeK _ _ ≤ _
        omega
      · have := risingD_len (keysD P L secret)
        rw [keysD_len] at this
        omega
      · have := there_bounds h2.there; omega
    · have h2 := climb_way hw i (by omega)
      have h3 := climb_len hw i (by omega)
      obtain ⟨h4, _, h5⟩ := h2.node (by omega)
      exact ⟨h4.good, h4.may, by have := h4.len; show (nodeT _ _).length ≤ _; omega, by show _ ≤ (nodeT _ _).length; omega, by simp, by simp, by omega, by show (0 : Int) ≤ ((nodeT _ _).length : Int); omega⟩
  · exact ⟨hg, hm, by omega, Nat.le_refl _, by simp, by simp, by omega, by omega⟩
end Go.Proofs.YtedpljclnpiggaaGreatDoor
