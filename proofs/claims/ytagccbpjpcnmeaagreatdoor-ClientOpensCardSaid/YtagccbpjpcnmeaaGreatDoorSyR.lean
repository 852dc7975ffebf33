/-
  ClientOpens by the executor: the run, along every way.
-/
import Derived.Test.YtagccbpjpcnmeaaGreatDoorSyD
import Derived.Test.YtagccbpjpcnmeaaGreatDoorLvC
import Derived.KernelRfl
set_option linter.unusedVariables false
set_option linter.unusedSimpArgs false
namespace Go.Proofs.YtagccbpjpcnmeaaGreatDoor.Ex
open Go

set_option maxRecDepth 100000 in
theorem opens_runs (far badNum neg badDraw : Bool) : saysTrue (callA (envC far badNum neg badDraw) (exec (envC far badNum neg badDraw) 1000000) 4 [.opq 0, .sym .i64 0, .sym .i64 1] stC) = true := by
  cases far <;> cases badNum <;> cases neg <;> cases badDraw <;> kernel_rfl
end Go.Proofs.YtagccbpjpcnmeaaGreatDoor.Ex
