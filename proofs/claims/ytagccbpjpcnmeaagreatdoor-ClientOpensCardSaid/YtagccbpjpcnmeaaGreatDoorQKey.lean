/-
  A term as a map's key; what a map of terms says.
-/
import Derived.Test.YtagccbpjpcnmeaaGreatDoorQStore
import Derived.Test.YtagccbpjpcnmeaaGreatDoorQPure
set_option linter.unusedVariables false
set_option linter.unusedSimpArgs false
namespace Go.Proofs.YtagccbpjpcnmeaaGreatDoor
open Go Go.RowKit

theorem cT : Tryz.prog.cellsOf 95 = 4 := by kernel_rfl
theorem cK : Tryz.prog.cellsOf 93 = 1 := by kernel_rfl
theorem c64 : Tryz.prog.cellsOf 2 = 1 := by kernel_rfl
theorem cI : Tryz.prog.cellsOf 3 = 1 := by kernel_rfl

theorem wf_term {t : TermD} (h : t.ok) : (Lit.int .u8 t.kind).wf = true ∧ (Lit.int .i64 t.n).wf = true ∧ (Lit.int .i64 t.a).wf = true ∧ (Lit.int .i64 t.b).wf = true := by
  obtain ⟨⟨h0, h1⟩, ⟨h2, h3⟩, ⟨h4, h5⟩, h6, h7⟩ := h
  exact ⟨WalkArith.wf_u8 (by omega), WalkArith.wf_i64 (by omega), WalkArith.wf_i64 (by omega), WalkArith.wf_i64 (by omega)⟩

theorem lits_term (d : Nat) {t : TermD} (h : t.ok) : Tryz.prog.keyLits (d + 1 + 1) 95 t.vals = some [.int .u8 t.kind, .int .i64 t.n, .int .i64 t.a, .int .i64 t.b] := by
  obtain ⟨w0, w1, w2, w3⟩ := wf_term h
  simp [Program.keyLits, Tryz.underlying95, Tryz.underlying93, Tryz.underlying2, Tryz.underlying3, TermD.vals, cT, cK, c64, cI, w0, w1, w2, w3]

theorem keyT_some {t : TermD} (h : t.ok) : keyOf Tryz.prog 95 (.agg t.arr) = some (keyT t) := by
  have hs : (keyOf Tryz.prog 95 (.agg t.arr)).isSome = true := by
    unfold keyOf
    rw [Tryz.underlying95]
    have hk : Tryz.prog.keyType 95 = true := by kernel_rfl
    have hf : (Value.agg t.arr).formed Tryz.prog 95 = true := by
      simp [Value.formed, Tryz.underlying95, cT, TermD.arr]
    obtain ⟨d, hd⟩ : ∃ d, Tryz.prog.types.size = d + 1 := ⟨Tryz.prog.types.size - 1, by kernel_rfl⟩
    simp only [hk, hf, Bool.and_self, if_true, hd]
    rw [show (Value.agg t.arr).cells.toList = t.vals from rfl, lits_term d h]
    rfl
  unfold keyT
  obtain ⟨k, hk⟩ := Option.isSome_iff_exists.1 hs
  rw [hk]
  rfl

theorem laidOut : laidOutB Tryz.prog = true := by kernel_rfl
theorem lawT : WideMaps.KeyLaw Tryz.prog 95 := deep_law_laid laidOut (m := 2) (by omega) (of_decide_eq_true (by kernel_rfl)) (by kernel_rfl) (by kernel_rfl)
theorem keyedT : Maps.Keyed Tryz.prog 95 := Maps.Keyed.of_law lawT

theorem agg_inj {s t : TermD} (e : Value.agg s.arr = Value.agg t.arr) : s = t := by
  obtain ⟨k, n, a, b⟩ := s
  obtain ⟨k', n', a', b'⟩ := t
  unfold TermD.arr at e
  simp only [Value.agg.injEq, Array.mk.injEq, List.cons.injEq, Value.int.injEq, true_and, and_true] at e
  obtain ⟨rfl, rfl, rfl, rfl⟩ := e
  rfl

theorem keyT_inj {s t : TermD} (hs : s.ok) (ht : t.ok) (h : keyT s = keyT t) : s = t := by
  have h1 : keyOf Tryz.prog 95 (.agg s.arr) = some (keyT s) := keyT_some hs
  have h2 : keyOf Tryz.prog 95 (.agg t.arr) = some (keyT s) := (keyT_some ht).trans (congrArg some h.symm)
  have e : Value.agg s.arr = Value.agg t.arr := Maps.Keyed.inj keyedT (l := keyT s) h1 h2
  exact agg_inj e

theorem key_lit {k : Lit} {v : Value} (h : keyOf Tryz.prog 95 v = some k) : WideAt.IsKeyLit k := keyedT.key h
theorem keyT_lit {t : TermD} (ht : t.ok) (k : Lit) (h : keyT t = k) : WideAt.IsKeyLit k := key_lit (v := .agg t.arr) ((keyT_some ht).trans (congrArg some h))

theorem tab_nil : TabOf (.map []) [] := ⟨Maps.isMap_empty, fun t _ => rfl, fun t h => by simp at h⟩

theorem TabOf.put {D : DataW Unit} {L : List TermD} {t : TermD} (h : TabOf D L) (hG : Good L) (ht : t.ok) (hn : t ∉ L) (k : Lit) (hk : keyT t = k) : TabOf (D.put k (.lit (.int .i64 ((L.length : Int) + 1)))) (L ++ [t]) := by
  have hkl := keyT_lit ht k hk
  refine ⟨h.isMap.put _ _, fun s hs => ?_, fun s hs => ?_⟩
  · by_cases e : s = t
    · subst e
      rw [hk, Maps.has_put_same h.isMap hkl]
      simp
    · rw [Maps.has_put_other (fun e2 => e (keyT_inj hs ht (e2.trans hk.symm))), h.has s hs]
      simp [e]
  · have hsok : s.ok := by
      rcases List.mem_append.1 hs with h1 | h1
      · exact hG.ok s h1
      · have : s = t := by simpa using h1
        rw [this]; exact ht
    by_cases e : s = t
    · subst e
      rw [hk, Maps.atKey_put_same h.isMap hkl, List.idxOf_append, if_neg hn]
      simp
    · have hsL : s ∈ L := by
        rcases List.mem_append.1 hs with h1 | h1
        · exact h1
        · exact absurd (by simpa using h1) e
      rw [Maps.atKey_put_other (fun e2 => e (keyT_inj hsok ht (e2.trans hk.symm))), h.num s hsL, List.idxOf_append, if_pos hsL]
end Go.Proofs.YtagccbpjpcnmeaaGreatDoor
