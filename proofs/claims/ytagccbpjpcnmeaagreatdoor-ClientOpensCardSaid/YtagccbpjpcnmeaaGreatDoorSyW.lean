/-
  ClientOpens: a world for the witness; the terms of an argument, opened.
-/
import Derived.Test.YtagccbpjpcnmeaaGreatDoorRows
import Derived.Test.YtagccbpjpcnmeaaGreatDoorCards
import Derived.Test.YtagccbpjpcnmeaaGreatDoorTie
import Derived.Test.YtagccbpjpcnmeaaGreatDoorQTerm
import Derived.ProofKit
import Derived.LaidLaws
import Derived.Lib.LaidIn
import Derived.Deep.Slices
import Derived.Deep.Fields
import Derived.ChangeSame
import Derived.Deep.DeepHandedRow
import Derived.Deep.DeepWitnessRowRef
import Derived.Lib.LaidTab
import Derived.SizedLaws
import Derived.KernelRfl
set_option linter.unusedVariables false
set_option linter.unusedSimpArgs false
namespace Go.Proofs.YtagccbpjpcnmeaaGreatDoor
open Go Go.ChangeShapes Go.WideShapes Go.ChangeAt Go.Deep Go.RowKit

mutual
/-- The cells of a datum without pointers. -/
def flatV : DataW Unit → List Value
  | .lit (.int k n) => [.int k n]
  | .agg l => flatVs l
  | _ => []
def flatVs : List (DataW Unit) → List Value
  | [] => []
  | d :: r => flatV d ++ flatVs r
end

noncomputable def laidWorld (os : Os) : World :=
  let w0 := World.holding Tryz.prog os ⟨#[], #[], []⟩
  let put (h : Array Obj) (g : Nat) (cs : Array Value) : Array Obj := h.modify g fun
    | .cells _ t frozen => .cells cs t frozen
    | o => o
  { w0 with heap := put w0.heap 0 (flatV Rows.laid_math_bits_deBruijn64tab).toArray }

noncomputable abbrev inW (os : Os) (args : Array Value) : World := ((laidWorld os).forCall (fun _ _ => 0) ⟨#[], args, []⟩).memory
set_option maxRecDepth 100000 in
theorem laidP1 (os : Os) (args : Array Value) : LaidIn Tryz.prog (inW os args) [("math/bits.deBruijn64tab", Rows.laid_math_bits_deBruijn64tab)] [0] :=
  LaidIn.of_run [0] 8 (by kernel_rfl) (by kernel_rfl) (by kernel_rfl) (by kernel_rfl)
theorem laid_met (os : Os) (args : Array Value) : laidMet Tryz.prog Rows.clientOpensRow.laid ((laidWorld os).forCall (fun _ _ => 0) ⟨#[], args, []⟩).memory := (laidP1 os args).met

theorem own : ownKnob Tryz.prog.godebug = none := by kernel_rfl

theorem size_ok {W : World} (h : W.ShapedOpen Tryz.prog) : 1 ≤ W.heap.size := by
  obtain ⟨o, _, h1, _⟩ := h.2 2 (of_decide_eq_true (by kernel_rfl)) (of_decide_eq_true (by kernel_rfl))
  have := (Array.getElem?_eq_some_iff.1 h1).1
  omega

section
variable {H : Type} {enc : TypeId × Value → H} {P : Program} {w : World} {base : Nat} {spare : Nat → Bool} {held : Bool}
theorem open_slice_fields {t e : TypeId} {fs : Array Field} {fuel : Nat} {cs : List Value} {x : DataW H × List MemPlace} (ht : P.underlying t = some (.slice e)) (he : P.underlying e = some (.struct fs))
    (hone : oneCellFields P fs = true) (hC : P.cellsOf e = fs.size) (h : DataW.trod enc P w base spare held fuel t cs = some x) :
    (cs = [.slice none 0 0] ∧ x = (.nil, [])) ∨
    ∃ (a : Addr) (len cap m : Nat) (D : Nat → DataW H) (Pl : Nat → List MemPlace), cs = [.slice (some a) len cap] ∧ base ≤ a.block ∧ len ≤ cap ∧ cap ≤ maxLen ∧ m = (if spare a.block then cap else len) ∧
      x = (.slice ((List.range len).map D) ((List.range (m - len)).map fun j => D (len + j)), MemPlace.row a (m * fs.size) ++ (List.range m).flatMap Pl) ∧
      ∀ i, i < m → ∃ (ys : List (DataW H × List MemPlace)) (n : Nat), D i = .agg (ys.map (·.1)) ∧ Pl i = ys.flatMap (·.2) ∧ ys.length = fs.size ∧
        ∀ (j : Nat) (f : Field), fs[j]? = some f → ∃ (v : Value) (y : DataW H × List MemPlace), w.cell? (a.add (i * fs.size + j)) = some v ∧ ys[j]? = some y ∧ DataW.trod enc P w base spare held n f.type [v] = some y := by
  rcases open_slice ht h with h0 | ⟨a, len, cap, m, n, D, Pl, hcs, hb, hl, hm, hmm, hx, hi⟩
  · exact .inl h0
  · refine .inr ⟨a, len, cap, m, D, Pl, hcs, hb, hl, hm, hmm, by rw [hC] at hx; exact hx, fun i him => ?_⟩
    obtain ⟨cs', hc, ht'⟩ := hi i him
    rw [hC] at hc
    obtain ⟨ys, n', hn', hy, hlen, hyl, hf⟩ := DataW.trod_struct he ht'
    obtain ⟨_, hcl, hat⟩ := World.cells?_some hc
    simp only [Prod.mk.injEq] at hy
    refine ⟨ys, n', hy.1, hy.2, hyl, fun j f hj => ?_⟩
    obtain ⟨ho, hk⟩ := hone_of hone j f hj
    have hjl : j < fs.size := (Array.getElem?_eq_some_iff.1 hj).1
    have hcell := hat j hjl
    have hv : cs'[j]? = some (cs'[j]'(by omega)) := List.getElem?_eq_getElem (by omega)
    have h1 := hf j f hj
    rw [ho, hk] at h1
    have hone' : (cs'.drop j).take 1 = [cs'[j]'(by omega)] := by
      rw [List.drop_eq_getElem_cons (by omega)]
      rfl
    rw [hone'] at h1
    have hys : ys[j]? = some (ys[j]'(by omega)) := List.getElem?_eq_getElem (by omega)
    refine ⟨_, _, ?_, hys, h1.trans hys⟩
    rw [← Go.Deep.add_add, hcell, hv]
end

theorem wf_i64 {n : Int} (h : (Lit.int .i64 n).wf = true) : i64ok n := by
  simpa [Lit.wf, IntKind.min, IntKind.max, IntKind.bits, IntKind.signed, i64ok] using h
theorem wf_u8 {n : Int} (h : (Lit.int .u8 n).wf = true) : 0 ≤ n ∧ n ≤ 255 := by
  simpa [Lit.wf, IntKind.min, IntKind.max, IntKind.bits, IntKind.signed] using h

theorem add_plain (b o j : Nat) : (⟨b, o, none⟩ : Addr).add j = ⟨b, o + j, none⟩ := by unfold Addr.add; split <;> simp_all

theorem terms_in {H : Type} {enc : TypeId × Value → H} {w : World} {spare : Nat → Bool} {fuel : Nat} {a : Option Addr} {n c : Nat} {x : DataW H × List MemPlace}
    (h : DataW.trod enc Tryz.prog w 0 spare true fuel 22 [.slice a n c] = some x) : ∃ f : Nat → TermD, n ≤ 9223372036854775807 ∧ (∀ i, i < n → (f i).ok) ∧ Terms w a n f := by
  rcases open_slice_fields Tryz.underlying22 Tryz.underlying95 (by kernel_rfl) (by kernel_rfl) h with ⟨hcs, hx⟩ | ⟨a', len, cap, m, D, Pl, hcs, _, hl, hm, hmm, hx, hf⟩
  · simp at hcs
    obtain ⟨rfl, rfl, rfl⟩ := hcs
    exact ⟨fun _ => zeroT, by omega, fun i hi => by omega, fun i hi => by omega⟩
  · simp at hcs
    obtain ⟨rfl, rfl, rfl⟩ := hcs
    have hnm : n ≤ m := by rw [hmm]; split <;> omega
    have hone : ∀ i, ∃ s : TermD, i < n → s.ok ∧ w.cell? (a'.add (i * 4 + 0)) = some (.int .u8 s.kind) ∧ w.cell? (a'.add (i * 4 + 1)) = some (.int .i64 s.n) ∧ w.cell? (a'.add (i * 4 + 2)) = some (.int .i64 s.a) ∧
        w.cell? (a'.add (i * 4 + 3)) = some (.int .i64 s.b) := by
      intro i
      by_cases hi : i < n
      · obtain ⟨ys, n', _, _, _, hj⟩ := hf i (by omega)
        obtain ⟨v0, y0, c0, _, t0⟩ := hj 0 _ rfl
        obtain ⟨v1, y1, c1, _, t1⟩ := hj 1 _ rfl
        obtain ⟨v2, y2, c2, _, t2⟩ := hj 2 _ rfl
        obtain ⟨v3, y3, c3, _, t3⟩ := hj 3 _ rfl
        obtain ⟨n0, e0, _, w0⟩ := DataW.trod_int Tryz.underlying93 t0
        obtain ⟨n1, e1, _, w1⟩ := DataW.trod_int Tryz.underlying2 t1
        obtain ⟨n2, e2, _, w2⟩ := DataW.trod_int Tryz.underlying3 t2
        obtain ⟨n3, e3, _, w3⟩ := DataW.trod_int Tryz.underlying3 t3
        obtain rfl := List.singleton_inj.1 e0
        obtain rfl := List.singleton_inj.1 e1
        obtain rfl := List.singleton_inj.1 e2
        obtain rfl := List.singleton_inj.1 e3
        exact ⟨⟨n0, n1, n2, n3⟩, fun _ => ⟨⟨wf_u8 w0, wf_i64 w1, wf_i64 w2, wf_i64 w3⟩, c0, c1, c2, c3⟩⟩
      · exact ⟨zeroT, fun h => absurd h hi⟩
    obtain ⟨f, hf'⟩ := Classical.axiomOfChoice hone
    refine ⟨f, by unfold maxLen at hm; omega, fun i hi => (hf' i hi).1, fun i hi => ?_⟩
    obtain ⟨b, o, spot⟩ := a'
    have h0 := (hf' 0 (by omega)).2.1
    have hs : spot = none := by
      rw [Nat.zero_mul, Nat.zero_add] at h0
      cases spot with
      | none => rfl
      | some k =>
        exfalso
        simp only [Addr.add, if_true, World.cell?] at h0
        split at h0
        · simp at h0
        · cases h0
    subst hs
    obtain ⟨_, c0, c1, c2, c3⟩ := hf' i hi
    rw [add_plain] at c0 c1 c2 c3
    exact ⟨b, o, rfl, c0, c1, c2, c3⟩
end Go.Proofs.YtagccbpjpcnmeaaGreatDoor
