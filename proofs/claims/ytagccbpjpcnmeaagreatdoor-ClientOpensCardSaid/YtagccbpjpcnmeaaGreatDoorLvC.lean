/-
  phratrylaw19.lives: it answers true, by the executor.
-/
import Derived.Test.YtagccbpjpcnmeaaGreatDoorEf
import Derived.KernelRfl
import Derived.Test.YtagccbpjpcnmeaaGreatDoorProg
set_option linter.unusedVariables false
set_option linter.unusedSimpArgs false
namespace Go.Proofs.YtagccbpjpcnmeaaGreatDoor.Ex
open Go

noncomputable def livesEnv : Env := { P := Tryz.prog, G := 1, G0 := 1, ro := fun _ _ => none, bin := fun _ _ _ => none, len := fun _ => none, summ := fun _ => none }

/-- Does a closed call answer true? -/
def saysTrue (r : R1) : Bool :=
  match r with
  | some (.s (.bool true), _) => true
  | _ => false

theorem saysTrue_spec {r : R1} (h : saysTrue r = true) : ∃ S', r = some (.s (.bool true), S') := by
  unfold saysTrue at h
  split at h
  · exact ⟨_, rfl⟩
  · cases h

set_option maxRecDepth 100000 in
theorem lives_runs : saysTrue (callA livesEnv (exec livesEnv 1000000) 7 [] { heap := .leaf, next := 1000, nsym := 0, hist := [] }) = true := by kernel_rfl

theorem prog_plain : Plain Tryz.prog := by
  have h : (Tryz.prog.funcs.all fun fn => !(fn.name == "runtime.NumGoroutine")) = true := by kernel_rfl
  intro f fn hf
  have := Array.all_eq_true_iff_forall_mem.1 h fn (Array.mem_of_getElem? hf)
  simpa using this

theorem lives_ok (W : World) (hW : 1 ≤ W.heap.size) : Calls Tryz.prog 7 #[] W fun e w' => e = .returned (.bool true) ∧ Kept W w' := by
  obtain ⟨S', h⟩ := saysTrue_spec lives_runs
  exact exec_closed (E := livesEnv) (fun _ _ _ => rfl) (fun _ => rfl) (fun _ => rfl) prog_plain (show Tryz.prog.follows .mixedOrders = true by kernel_rfl) h rfl hW (Nat.le_refl 1) (fun _ _ _ h => by cases h)
end Go.Proofs.YtagccbpjpcnmeaaGreatDoor.Ex
