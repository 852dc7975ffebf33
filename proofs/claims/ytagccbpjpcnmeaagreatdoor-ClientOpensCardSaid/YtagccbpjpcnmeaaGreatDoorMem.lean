/-
  Laws of memory, of whatever program: copy between rows whose elements have several cells; cells of a row written anew.
-/
import Derived.WalkKit
import Derived.Laws.CopyOwn
import Derived.ChangeKeysEq
import Derived.Lib.Hide
set_option linter.unusedVariables false
set_option linter.unusedSimpArgs false
namespace Go.Proofs.YtagccbpjpcnmeaaGreatDoor
open Go Go.RowKit

section
variable {P : Program} {w : World}

theorem run_copy_any (dT sT ty e : TypeId) (i : TypeInfo) (size : Nat) (hu : P.underlying dT = some (.slice e)) (hi : P.info? e = some i) (hsz : i.size = size)
    (g off dLen dCap : Nat) (src : Value) (sp : Option Addr) (sLen sCap : Nat) (hsv : src = .slice sp sLen sCap) (cur : Array Value) (t : TypeId) (hg : w.heap[g]? = some (.cells cur t (0, 0))) (cs : List Value)
    (hn : cs.length = Nat.min sLen dLen * size) (hsrc : ∀ a, sp = some a → ∀ j v, cs[j]? = some v → w.cell? (a.add j) = some v) (hnil : sp = none → sLen = 0)
    (hfit : off + cs.length ≤ cur.size) (h1 : ∀ v ∈ cs, v.oneCell' = true) :
    (Builtin.copy_ #[dT, sT] ty #[.slice (some ⟨g, off, none⟩) dLen dCap, src]).run P w =
      .ok (goInt (Nat.min sLen dLen)) (w.setRow g (splice cur.toList off cs).toArray) := by
  subst hsv
  have hf : (Builtin.firstCells size (Nat.min sLen dLen) (.slice sp sLen sCap)).run P w = .ok cs.toArray w := by
    cases sp with
    | none =>
      have h0 := hnil rfl
      subst h0
      have : cs = [] := by
        have : cs.length = 0 := by rw [hn]; simp
        exact List.length_eq_zero_iff.1 this
      subst this
      simp [Builtin.firstCells]
    | some a => exact run_firstCells_some w size _ a sLen sCap cs hn (hsrc a rfl)
  have hst := run_storeCells_at P g off t cs 0 cur w hg (by simpa using hfit) h1
  simp only [Nat.add_zero] at hst
  have hso : (sizeOf e).run P w = .ok size w := by
    have := run_sizeOf (P := P) w hi
    simpa [Program.cellsOf, hi, hsz] using this
  simp [Builtin.copy_, run_underlying hu, Builtin.lenOf, hso, hf, hst, Result.andThen, splice]

theorem wpList_copy_any {ops : Array Oper} {rest : List Oper} {o : Oper} {a : Act} {Q : Exit → Act → World → Prop} (hgd : o.guard = none) (d s : Operand) (dT sT : TypeId)
    (ho : o.op = .call { callee := .builtin .copy, args := #[d, s], argTypes := #[dT, sT] }) (e : TypeId) (i : TypeInfo) (size : Nat) (hu : P.underlying dT = some (.slice e)) (hi : P.info? e = some i) (hsz : i.size = size)
    (g off dLen dCap : Nat) (sp : Option Addr) (sLen sCap : Nat) (hd : a.eval d = .slice (some ⟨g, off, none⟩) dLen dCap) (hs : a.eval s = .slice sp sLen sCap) (cur : Array Value) (t : TypeId) (hg : w.heap[g]? = some (.cells cur t (0, 0)))
    (cs : List Value) (hn : cs.length = Nat.min sLen dLen * size) (hsrc : ∀ a, sp = some a → ∀ j v, cs[j]? = some v → w.cell? (a.add j) = some v) (hnil : sp = none → sLen = 0)
    (hfit : off + cs.length ≤ cur.size) (h1 : ∀ v ∈ cs, v.oneCell' = true)
    (h : wpList P ops Q rest (a.put o.dst (goInt (Nat.min sLen dLen))) (w.setRow g (splice cur.toList off cs).toArray)) : wpList P ops Q (o :: rest) a w := by
  refine wpList_plain hgd fun K hK => ?_
  have hrun := run_copy_any (P := P) (w := w) dT sT o.type e i size hu hi hsz g off dLen dCap _ sp sLen sCap rfl cur t hg cs hn hsrc hnil hfit h1
  unfold Oper.wp
  simp [execOp, ho, resolve, invoke, builtin, hd, hs, hrun, Result.andThen]
  exact hK _ _ h


/-- The cells of a row. -/
theorem cell_row {g : Nat} {cur : Array Value} {e : TypeId} {fz : Nat × Nat} (hg : w.heap[g]? = some (.cells cur e fz)) (j : Nat) : w.cell? ⟨g, j, none⟩ = cur[j]? := by
  simp [World.cell?, hg]
theorem free_row {g : Nat} {cur : Array Value} {e : TypeId} (hg : w.heap[g]? = some (.cells cur e (0, 0))) (j : Nat) : w.frozen? ⟨g, j, none⟩ = false := by
  simp [World.frozen?, hg]
/-- A store into a row. -/
theorem row_setCell {g : Nat} {cur : Array Value} {e : TypeId} {fz : Nat × Nat} (hg : w.heap[g]? = some (.cells cur e fz)) (j : Nat) (v : Value) : (w.setCell ⟨g, j, none⟩ v).heap[g]? = some (.cells (cur.setIfInBounds j v) e fz) := by
  simp [World.setCell, Array.getElem?_modify, hg]
theorem row_setRow {g : Nat} {cur cs : Array Value} {e : TypeId} {fz : Nat × Nat} (hg : w.heap[g]? = some (.cells cur e fz)) : (w.setRow g cs).heap[g]? = some (.cells cs e fz) := by
  simp [World.setRow, Array.getElem?_modify, hg]
theorem row_alloc (cur : Array Value) (e : TypeId) (fz : Nat × Nat) : (w.alloc (.cells cur e fz)).heap[w.heap.size]? = some (.cells cur e fz) := heap_alloc_new w _
end

theorem ba_size' (l : List UInt8) : ByteArray.size ⟨l.toArray⟩ = l.length := by
  show l.toArray.size = _
  simp

/-- Lists whose elements have five cells each. -/
theorem flat_get {α : Type} (f : Nat → List α) (m : Nat) (hf : ∀ i, (f i).length = m) : ∀ (n i j : Nat), i < n → j < m → ((List.range n).flatMap f)[i * m + j]? = (f i)[j]?
  | 0, _, _, h, _ => by omega
  | n + 1, i, j, hi, hj => by
    have hl : ∀ k, ((List.range k).flatMap f).length = k * m := by
      intro k
      induction k with
      | zero => simp
      | succ k ih => rw [List.range_succ, List.flatMap_append, List.length_append, ih]; simp [hf, Nat.add_mul]
    rw [List.range_succ, List.flatMap_append]
    by_cases h : i < n
    · have h1 : (i + 1) * m ≤ n * m := Nat.mul_le_mul_right m h
      rw [Nat.add_mul] at h1
      rw [List.getElem?_append_left (by rw [hl]; omega)]
      exact flat_get f m hf n i j h hj
    · obtain rfl : i = n := by omega
      rw [List.getElem?_append_right (by rw [hl]; omega), hl]
      simp
theorem flat_len {α : Type} (f : Nat → List α) (m : Nat) (hf : ∀ i, (f i).length = m) (n : Nat) : ((List.range n).flatMap f).length = n * m := by
  induction n with
  | zero => simp
  | succ k ih => rw [List.range_succ, List.flatMap_append, List.length_append, ih]; simp [hf, Nat.add_mul]

end Go.Proofs.YtagccbpjpcnmeaaGreatDoor
