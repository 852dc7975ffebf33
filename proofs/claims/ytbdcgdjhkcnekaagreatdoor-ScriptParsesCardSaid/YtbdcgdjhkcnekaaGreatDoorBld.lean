/-
  The shelf's contracts on strings.Builder's writer, laid at this translation.
-/
import Derived.Shelf.Strings.BuilderK
import Derived.Test.YtbdcgdjhkcnekaaGreatDoorRows
import Derived.WalkKit
import Derived.KernelRfl
namespace Go.Proofs.YtbdcgdjhkcnekaaGreatDoor
open Go Go.RowKit

def bldRen : Go.Shelf.Ren := ⟨fun | 166 => 190 | 240 => 202 | 276 => 221 | n => n,
  fun | 0 => 0 | 3 => 3 | 4 => 4 | 5 => 5 | 9 => 9 | 20 => 20 | 37 => 352 | 70 => 351 | 72 => 354 | 75 => 86 | 80 => 358 | 164 => 387 | 127 => 353 | n => n, fun n => n⟩

theorem bldLays : Go.Proofs.Lays.n166 Tryz.prog bldRen := {
  mixed := by kernel_rfl
  f166 := Tryz.func190.trans (congrArg some (by kernel_rfl))
  f240 := Tryz.func202.trans (congrArg some (by kernel_rfl))
  f276 := Tryz.func221.trans (congrArg some (by kernel_rfl))
  t0 := Tryz.underlying0
  a0 := Tryz.isAgg0
  z0 := Tryz.sizeOf0
  v0 := Tryz.zeroValue0
  t3 := Tryz.underlying3
  a3 := Tryz.isAgg3
  z3 := Tryz.sizeOf3
  v3 := Tryz.zeroValue3
  t4 := Tryz.underlying4
  a4 := Tryz.isAgg4
  z4 := Tryz.sizeOf4
  v4 := Tryz.zeroValue4
  t9 := Tryz.underlying9
  a9 := Tryz.isAgg9
  z9 := Tryz.sizeOf9
  v9 := Tryz.zeroValue9
  t20 := Tryz.underlying20
  a20 := Tryz.isAgg20
  z20 := Tryz.sizeOf20
  v20 := Tryz.zeroValue20
  t37 := Tryz.underlying352
  a37 := Tryz.isAgg352
  z37 := Tryz.sizeOf352
  v37 := Tryz.zeroValue352
  t70 := Tryz.underlying351
  a70 := Tryz.isAgg351
  z70 := Tryz.sizeOf351
  v70 := Tryz.zeroValue351
  t72 := Tryz.underlying354
  a72 := Tryz.isAgg354
  z72 := Tryz.sizeOf354
  v72 := Tryz.zeroValue354
  t75 := Tryz.underlying86
  a75 := Tryz.isAgg86
  z75 := Tryz.sizeOf86
  v75 := Tryz.zeroValue86
  t164 := Tryz.underlying387
  a164 := Tryz.isAgg387
  z164 := Tryz.sizeOf387
  v164 := Tryz.zeroValue387 }
theorem bldExtra : Builder.Extra Tryz.prog bldRen := {
  sizeBuilder := by kernel_rfl
  liesBuilder := by kernel_rfl
  t5 := Tryz.underlying5
  a5 := Tryz.isAgg5
  z5 := Tryz.sizeOf5
  v5 := Tryz.zeroValue5
  infoByte := by kernel_rfl
  cellsByte := by kernel_rfl
  sizeByte := by kernel_rfl
  neB5 := by decide }
end Go.Proofs.YtbdcgdjhkcnekaaGreatDoor
