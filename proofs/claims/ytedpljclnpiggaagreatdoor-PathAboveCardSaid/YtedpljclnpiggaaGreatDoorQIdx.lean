/-
  index: places in a tree of two leaves.
-/
import Derived.Test.YtedpljclnpiggaaGreatDoorQBuild
set_option linter.unusedVariables false
set_option linter.unusedSimpArgs false
namespace Go.Proofs.YtedpljclnpiggaaGreatDoor
open Go Go.RowKit

/-- What the table of the lowest bits holds, as far as it is read here. -/
structure TzEnv (w : World) : Prop where
  t0 : w.cell? ⟨0, 0, none⟩ = some (.int .u8 0)
  t1 : w.cell? ⟨0, 1, none⟩ = some (.int .u8 1)

set_option maxRecDepth 100000 in
theorem tz_0 (w : World) (h : TzEnv w) :
    Calls Tryz.prog 326 #[.int .u64 18446744073709551615] w fun e w' => e = .returned (.int .i64 0) ∧ w' = w := by
  have h0 := h.t0
  have e1 : IntKind.u64.wrap (-18446744073709551615) = 1 := by decide +kernel
  have e2 : bits BinOp.and IntKind.u64 18446744073709551615 1 = 1 := by decide +kernel
  have e3 : IntKind.u64.wrap 285870213051353865 = 285870213051353865 := by decide +kernel
  go_enter Tryz.func326, Tryz.ntmps326
  go_wp2
  go_ret
  exact ⟨rfl, rfl⟩

set_option maxRecDepth 100000 in
theorem tz_1 (w : World) (h : TzEnv w) :
    Calls Tryz.prog 326 #[.int .u64 18446744073709551614] w fun e w' => e = .returned (.int .i64 1) ∧ w' = w := by
  have h0 := h.t1
  have e1 : IntKind.u64.wrap (-18446744073709551614) = 2 := by decide +kernel
  have e2 : bits BinOp.and IntKind.u64 18446744073709551614 2 = 2 := by decide +kernel
  have e3 : IntKind.u64.wrap 571740426102707730 = 571740426102707730 := by decide +kernel
  go_enter Tryz.func326, Tryz.ntmps326
  go_wp2
  go_ret
  exact ⟨rfl, rfl⟩

set_option maxRecDepth 100000 in
theorem tz_2 (w : World) (h : TzEnv w) :
    Calls Tryz.prog 326 #[.int .u64 18446744073709551613] w fun e w' => e = .returned (.int .i64 0) ∧ w' = w := by
  have h0 := h.t0
  have e1 : IntKind.u64.wrap (-18446744073709551613) = 3 := by decide +kernel
  have e2 : bits BinOp.and IntKind.u64 18446744073709551613 3 = 1 := by decide +kernel
  have e3 : IntKind.u64.wrap 285870213051353865 = 285870213051353865 := by decide +kernel
  go_enter Tryz.func326, Tryz.ntmps326
  go_wp2
  go_ret
  exact ⟨rfl, rfl⟩

set_option maxRecDepth 100000 in
theorem level_0 (w : World) (h : TzEnv w) : Calls Tryz.prog 304 #[.int .i64 0] w fun e w' => e = .returned (.int .i64 0) ∧ w' = w := by
  have H := Lib.hid (tz_0 w h); clear h
  go_enter Tryz.func304, Tryz.ntmps304
  go_wp2_with fail
  refine H.out.mono ?_
  rintro e wx ⟨rfl, hwx⟩
  subst wx
  go_wp2
  go_ret
  exact ⟨rfl, rfl⟩
set_option maxRecDepth 100000 in
theorem level_1 (w : World) (h : TzEnv w) : Calls Tryz.prog 304 #[.int .i64 1] w fun e w' => e = .returned (.int .i64 1) ∧ w' = w := by
  have H := Lib.hid (tz_1 w h); clear h
  go_enter Tryz.func304, Tryz.ntmps304
  go_wp2_with fail
  refine H.out.mono ?_
  rintro e wx ⟨rfl, hwx⟩
  subst wx
  go_wp2
  go_ret
  exact ⟨rfl, rfl⟩
set_option maxRecDepth 100000 in
theorem level_2 (w : World) (h : TzEnv w) : Calls Tryz.prog 304 #[.int .i64 2] w fun e w' => e = .returned (.int .i64 0) ∧ w' = w := by
  have H := Lib.hid (tz_2 w h); clear h
  go_enter Tryz.func304, Tryz.ntmps304
  go_wp2_with fail
  refine H.out.mono ?_
  rintro e wx ⟨rfl, hwx⟩
  subst wx
  go_wp2
  go_ret
  exact ⟨rfl, rfl⟩

set_option maxRecDepth 100000 in
theorem itree_2 (w : World) : Calls Tryz.prog 323 #[.int .i64 2] w fun e w' => e = .returned (.bool true) ∧ w' = w := by
  go_enter Tryz.func323, Tryz.ntmps323
  go_wp2
  go_ret
  exact ⟨rfl, rfl⟩
end Go.Proofs.YtedpljclnpiggaaGreatDoor
