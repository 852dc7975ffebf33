/-
  A world for the witness: the listed variables hold what their initialisers lay.
-/
import Derived.Test.YtbdcgdjhkcnekaaGreatDoorRows
import Derived.ProofKit
import Derived.LaidLaws
import Derived.Lib.LaidIn
import Derived.KernelRfl
namespace Go.Proofs.YtbdcgdjhkcnekaaGreatDoor
open Go Go.ChangeShapes Go.WideShapes Go.ChangeAt Go.RowKit

abbrev laidL : List (String × DataW Unit) := Rows.scriptParsesRow.laid

mutual
/-- The cells of a datum without pointers. -/
def flatV : DataW Unit → List Value
  | .lit (.int k n) => [.int k n]
  | .agg l => flatVs l
  | _ => []
def flatVs : List (DataW Unit) → List Value
  | [] => []
  | d :: r => flatV d ++ flatVs r
end

noncomputable def laidWorld (os : Os) : World :=
  let N := (World.settled Tryz.prog os).heap.size
  let w0 := World.holding Tryz.prog os ⟨#[
    .cells #[.string ⟨#[118, 97, 108, 117, 101, 32, 111, 117, 116, 32, 111, 102, 32, 114, 97, 110, 103, 101]⟩] 419,
    .cells #[.string ⟨#[105, 110, 118, 97, 108, 105, 100, 32, 115, 121, 110, 116, 97, 120]⟩] 419,
    .cells #[.int .u16 9, .int .u16 13, .int .u16 1, .int .u16 32, .int .u16 133, .int .u16 101, .int .u16 160, .int .u16 5760, .int .u16 5600, .int .u16 8192, .int .u16 8202, .int .u16 1, .int .u16 8232, .int .u16 8233, .int .u16 1, .int .u16 8239, .int .u16 8287, .int .u16 48, .int .u16 12288, .int .u16 12288, .int .u16 1] 395,
    .cells #[.slice (some ⟨N + 2, 0, none⟩) 7 7, .slice none 0 0, .int .i64 2] 392], #[], []⟩
  let put (h : Array Obj) (g : Nat) (cs : Array Value) : Array Obj := h.modify g fun
    | .cells _ t frozen => .cells cs t frozen
    | o => o
  let h0 := put (put w0.heap 4 #[.iface 417 (.pointer (some ⟨N, 0, none⟩))]) 3 #[.iface 417 (.pointer (some ⟨N + 1, 0, none⟩))]
  let h1 := put h0 1 #[.pointer (some ⟨N + 3, 0, none⟩)]
  let h2 := put h1 8 (flatV Rows.laid_math_bits_deBruijn32tab).toArray
  let h3 := put h2 9 (flatV Rows.laid_math_bits_deBruijn64tab).toArray
  let h4 := put h3 5 (flatV Rows.laid_internal_strconv_uint64pow10).toArray
  let h5 := put h4 7 (flatV Rows.laid_unicode_utf8_acceptRanges).toArray
  let h6 := put h5 0 (flatV Rows.laid_strings_asciiSpace).toArray
  let h7 := put h6 6 (flatV Rows.laid_unicode_utf8_first).toArray
  { w0 with heap := h7 }

noncomputable abbrev N0 : Nat := (World.settled Tryz.prog default).heap.size
noncomputable abbrev inW (os : Os) (args : Array Value) : World := ((laidWorld os).forCall (fun _ _ => 0) ⟨#[], args, []⟩).memory
set_option maxRecDepth 100000 in
theorem laidP1 (os : Os) (args : Array Value) : LaidIn Tryz.prog (inW os args) [("math/bits.deBruijn32tab", Rows.laid_math_bits_deBruijn32tab), ("math/bits.deBruijn64tab", Rows.laid_math_bits_deBruijn64tab)] [8, 9] :=
  LaidIn.of_run [8, 9] 8 (by kernel_rfl) (by kernel_rfl) (by kernel_rfl) (by kernel_rfl)
set_option maxRecDepth 100000 in
theorem laidP2 (os : Os) (args : Array Value) : LaidIn Tryz.prog (inW os args) [("internal/strconv.uint64pow10", Rows.laid_internal_strconv_uint64pow10), ("unicode/utf8.acceptRanges", Rows.laid_unicode_utf8_acceptRanges)] [5, 7] :=
  LaidIn.of_run [5, 7] 8 (by kernel_rfl) (by kernel_rfl) (by kernel_rfl) (by kernel_rfl)
set_option maxRecDepth 100000 in
theorem laidP3 (os : Os) (args : Array Value) : LaidIn Tryz.prog (inW os args) [("strconv.ErrRange", Rows.laid_strconv_ErrRange), ("strconv.ErrSyntax", Rows.laid_strconv_ErrSyntax), ("unicode.White_Space", Rows.laid_unicode_White_Space)] [4, 3, 1, N0, N0 + 1, N0 + 2, N0 + 3] :=
  LaidIn.of_run [4, 3, 1, N0, N0 + 1, N0 + 2, N0 + 3] 8 (by kernel_rfl) (by kernel_rfl) (by kernel_rfl) (by kernel_rfl)
set_option maxRecDepth 100000 in
theorem laidP4 (os : Os) (args : Array Value) : LaidIn Tryz.prog (inW os args) [("strings.asciiSpace", Rows.laid_strings_asciiSpace)] [0] :=
  LaidIn.of_run [0] 8 (by kernel_rfl) (by kernel_rfl) (by kernel_rfl) (by kernel_rfl)
set_option maxRecDepth 100000 in
theorem laidP5 (os : Os) (args : Array Value) : LaidIn Tryz.prog (inW os args) [("unicode/utf8.first", Rows.laid_unicode_utf8_first)] [6] :=
  LaidIn.of_run [6] 8 (by kernel_rfl) (by kernel_rfl) (by kernel_rfl) (by kernel_rfl)
theorem laid_met (os : Os) (args : Array Value) : laidMet Tryz.prog laidL ((laidWorld os).forCall (fun _ _ => 0) ⟨#[], args, []⟩).memory :=
  (((((laidP1 os args).append (laidP2 os args) (by kernel_rfl)).append (laidP3 os args) (by kernel_rfl)).append (laidP4 os args) (by kernel_rfl)).append (laidP5 os args) (by kernel_rfl)).met
end Go.Proofs.YtbdcgdjhkcnekaaGreatDoor
