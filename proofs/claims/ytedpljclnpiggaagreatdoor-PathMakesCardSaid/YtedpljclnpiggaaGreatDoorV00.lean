/- A world for the witness: the listed tables hold what their initialisers lay. -/
import Derived.Test.YtedpljclnpiggaaGreatDoorRows
import Derived.ProofKit
import Derived.LaidLaws
import Derived.Lib.LaidIn
import Derived.KernelRfl
set_option linter.unusedVariables false
set_option linter.unusedSimpArgs false
set_option maxRecDepth 100000
set_option maxHeartbeats 12800000
namespace Go.Proofs.YtedpljclnpiggaaGreatDoor
open Go Go.ChangeShapes Go.WideShapes Go.ChangeAt Go.RowKit
mutual
def flatV : DataW Unit → List Value
 | .lit (.int k n) => [.int k n]
 | .agg l => flatVs l
 | _ => []
def flatVs : List (DataW Unit) → List Value
 | [] => []
 | d :: r => flatV d ++ flatVs r
end
noncomputable def laidWorld (os : Os) : World :=
 let w0 := World.holding Tryz.prog os ⟨#[], #[], []⟩
 let put (h : Array Obj) (g : Nat) (cs : Array Value) : Array Obj := h.modify g fun
  | .cells _ t frozen => .cells cs t frozen
  | o => o
 let h2 := put w0.heap 2 (flatV Rows.laid_math_bits_deBruijn32tab).toArray
 let h3 := put h2 0 (flatV Rows.laid_math_bits_deBruijn64tab).toArray
 let h4 := put h3 1 (flatV Rows.laid_internal_strconv_uint64pow10).toArray
 { w0 with heap := h4 }
noncomputable abbrev inW (os : Os) (args : Array Value) : World := ((laidWorld os).forCall (fun _ _ => 0) ⟨#[], args, []⟩).memory
end Go.Proofs.YtedpljclnpiggaaGreatDoor
