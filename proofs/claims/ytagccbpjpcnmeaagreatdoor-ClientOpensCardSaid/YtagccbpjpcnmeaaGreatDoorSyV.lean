/-
  ClientOpens: it answers true, by the executor.
-/
import Derived.Test.YtagccbpjpcnmeaaGreatDoorSyU
import Derived.Test.YtagccbpjpcnmeaaGreatDoorSyR
set_option linter.unusedVariables false
set_option linter.unusedSimpArgs false
namespace Go.Proofs.YtagccbpjpcnmeaaGreatDoor.Ex
open Go Go.RowKit Go.Proofs.YtagccbpjpcnmeaaGreatDoor

theorem fn_ok {f : FuncId} (h : (Tryz.prog.funcs[f]?.map fun fn => fn.body.isNone) = some false) : ∃ fn, Tryz.prog.funcs[f]? = some fn ∧ fn.body.isNone = false := by
  cases hf : Tryz.prog.funcs[f]? with
  | none => rw [hf] at h; cases h
  | some fn => rw [hf] at h; exact ⟨fn, rfl, by simpa using h⟩

/-- A call, and that the function is there. -/
theorem said_ok {g : Given} {B : World} {fid : FuncId} {σ : Sig} {xs : List Value} {w : World} {v : AVal} {S' : St} (h : (Tryz.prog.funcs[fid]?.map fun fn => fn.body.isNone) = some false) (hs : Says g B fid σ xs w v S') :
    (∃ fn, g.env.P.funcs[fid]? = some fn ∧ fn.body.isNone = false) ∧ Calls g.env.P fid xs.toArray w fun e w' => ∃ u, e = .returned u ∧ ∃ τ, σ.le τ ∧ R τ v u ∧ Rep g.env (knowC g) B τ S' w' := ⟨fn_ok h, hs⟩

set_option maxHeartbeats 1600000 in
theorem summ_ok {g : Given} {B : World} {f : Nat → TermD} (hT : Terms B g.a g.n f) (hok : ∀ i, i < g.n → (f i).ok) : SummOK g.env (knowC g) B := by
  intro fid s hs args S v S' hf σ w xs hx h
  have hs : summC (decide (2000 < g.n)) (decide (g.draw < 0)) fid = some s := hs
  unfold summC at hs
  split at hs
  · rename_i e; subst e; cases hs; exact said_ok (by kernel_rfl) (sum_make0 hf hx h)
  split at hs
  · rename_i e; subst e; cases hs; exact said_ok (by kernel_rfl) (sum_there0 hf hx h)
  split at hs
  · rename_i e; subst e; cases hs; exact said_ok (by kernel_rfl) (sum_made hf hx h)
  split at hs
  · rename_i e; subst e; cases hs; exact said_ok (by kernel_rfl) (sum_get0 hf hx h)
  split at hs
  · rename_i e; subst e; cases hs; exact said_ok (by kernel_rfl) (sum_make1 hf hx h)
  split at hs
  · rename_i e; subst e; cases hs; exact said_ok (by kernel_rfl) (sum_there1 hf hx h)
  split at hs
  · rename_i e; subst e; cases hs; exact said_ok (by kernel_rfl) (sum_get1 hf hx h)
  split at hs
  · rename_i e; subst e; cases hs; exact said_ok (by kernel_rfl) (sum_build hT hok hf hx h)
  split at hs
  · rename_i e; subst e; cases hs; exact said_ok (by kernel_rfl) (sum_across hf hx h)
  split at hs
  · rename_i e; subst e; cases hs; exact said_ok (by kernel_rfl) (sum_same hf hx h)
  split at hs
  · rename_i e; subst e; cases hs; exact said_ok (by kernel_rfl) (sum_lives hf hx h)
  · cases hs

def symC (g : Given) : Nat → Option Int
  | 0 => some g.dev
  | 1 => some g.draw
  | 2 => some g.n
  | 3 => some (g.dev.tdiv 8)
  | 4 => some (-1 - g.dev.tdiv 8)
  | _ => none
def opqC (g : Given) : Nat → Option Value
  | 0 => some (.slice g.a g.n g.c)
  | _ => none
def sigC (g : Given) : Sig := { blk := fun b => if b < 1 then some b else none, cap := fun _ => 0, sym := symC g, opq := opqC g, foot := fun _ => False }

theorem symC_high (g : Given) {x : Nat} (h : 5 ≤ x) : symC g x = none := by
  unfold symC
  split <;> first | omega | rfl

theorem rep_start (g : Given) (hd : i64ok g.dev) (hr : i64ok g.draw) (hn : g.n ≤ 9223372036854775807) (B : World) (hB : 1 ≤ B.heap.size) : Rep g.env (knowC g) B (sigC g) stC B := by
  have ht8 := tdiv8 hd
  constructor
  · intro b blk hb; unfold stC at hb; rw [T.get_eq, T.find_leaf] at hb; cases hb
  · intro b b' blk blk' m hb; unfold stC at hb; rw [T.get_eq, T.find_leaf] at hb; cases hb
  · intro b m hb
    simp only [sigC] at hb
    split at hb
    · exact .inl (Nat.lt_of_lt_of_le (by assumption) (show 1 ≤ 16 by decide))
    · cases hb
  · intro b blk m hb; unfold stC at hb; rw [T.get_eq, T.find_leaf] at hb; cases hb
  · intro i hi; exact hi.elim
  · refine ⟨⟨rfl, rfl, rfl, rfl, rfl, rfl⟩, fun x z hx hz => ?_, hd⟩
    have hz : symC g x = some z := hz
    rw [symC_high g (by omega)] at hz; cases hz
  · exact ⟨fun i hi => hi, rfl, rfl, rfl⟩
  · intro x z hx
    have hx : symC g x = some z := hx
    unfold i64ok at hd hr
    unfold symC at hx
    split at hx <;> first | (cases hx; omega) | cases hx
  · intro x hx
    have hx : 100 ≤ x := hx
    refine ⟨symC_high g (by omega), ?_⟩
    show opqC g x = none
    unfold opqC
    split
    · omega
    · rfl
  · intro b blk hb; unfold stC at hb; rw [T.get_eq, T.find_leaf] at hb; cases hb
  · intro b hb
    have hb : b < 1 := hb
    obtain rfl : b = 0 := by omega
    rfl
  · exact Nat.le_refl _
  · intro i _; rfl
  · exact hB
  · intro b o v hv; cases hv
  · exact ⟨rfl, rfl, rfl⟩

theorem opens_ok (g : Given) (hd : i64ok g.dev) (hr : i64ok g.draw) (hn : g.n ≤ 9223372036854775807) (B : World) (hB : 1 ≤ B.heap.size) (f : Nat → TermD) (hT : Terms B g.a g.n f) (hok : ∀ i, i < g.n → (f i).ok) :
    Calls Tryz.prog 4 #[.slice g.a g.n g.c, .int .i64 g.dev, .int .i64 g.draw] B fun e w' => e = .returned (.bool true) ∧ Kept B w' := by
  obtain ⟨S', h⟩ := saysTrue_spec (opens_runs (decide (2000 < g.n)) (decide (512 ≤ g.dev)) (decide (g.dev < 0)) (decide (g.draw < 0)))
  have hx : RL (sigC g) [.opq 0, .sym .i64 0, .sym .i64 1] [.slice g.a g.n g.c, .int .i64 g.dev, .int .i64 g.draw] :=
    .cons (by rw [R]; exact ⟨rfl, rfl⟩) (.cons (int_R' rfl) (.cons (int_R' rfl) .nil))
  refine (exec_right (E := g.env) (K := knowC g) (summ_ok hT hok) prog_plain (show Tryz.prog.follows .mixedOrders = true by kernel_rfl) h hx (rep_start g hd hr hn B hB)).mono ?_
  rintro e w' ⟨u, rfl, τ, _, hu, hrep⟩
  obtain rfl := lit_of hu
  exact ⟨rfl, hrep.outs, hrep.size, hrep.below⟩
end Go.Proofs.YtagccbpjpcnmeaaGreatDoor.Ex
