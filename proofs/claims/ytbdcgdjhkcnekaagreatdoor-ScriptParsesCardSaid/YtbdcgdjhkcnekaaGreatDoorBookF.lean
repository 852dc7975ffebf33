/-
  phratrylaw01's Book over two held lists: fillStep.
-/
import Derived.Test.YtbdcgdjhkcnekaaGreatDoorBookL
namespace Go.Proofs.YtbdcgdjhkcnekaaGreatDoor
open Go Go.RowKit

theorem flat_getD' (d : StepD) (l : List StepD) (i j : Nat) (hi : i < l.length) (hj : j < 5) : (l.flatMap StepD.vals)[i * 5 + j]? = (l.getD i d).vals[j]? := by
  induction l generalizing i with
  | nil => simp at hi
  | cons x r ih =>
    cases i with
    | zero => rw [List.flatMap_cons, List.getElem?_append_left (by simp [StepD.vals]; omega)]; simp
    | succ i =>
      rw [List.flatMap_cons, List.getElem?_append_right (by simp [StepD.vals]; omega), show (i + 1) * 5 + j - x.vals.length = i * 5 + j by simp [StepD.vals]; omega, ih i (by simpa using hi)]
      simp

theorem flat_len' (l : List StepD) : (l.flatMap StepD.vals).length = l.length * 5 := by
  induction l with
  | nil => rfl
  | cons x r ih => rw [List.flatMap_cons, List.length_append, ih]; simp [StepD.vals]; omega

/-- What the row of a list holds. -/
theorem own_arr {B : Nat} {g n c : Nat} {l : List StepD} {w : World} (d : StepD) (h : OwnSteps B (.slice (some ⟨g, 0, none⟩) n c) l w) :
    n = l.length ∧ ∃ cur, w.heap[g]? = some (.cells cur 72 (0, 0)) ∧ B ≤ g ∧ n ≤ c ∧ c ≤ maxLen ∧ cur.size = c * 5 ∧ ∀ i, i < l.length → ArrStep cur (i * 5) (l.getD i d) := by
  obtain ⟨_, h⟩ := h
  rcases h with ⟨h1, _⟩ | ⟨g', cap, cur, h1, h2, h3, h4, h5, h6, h7⟩
  · simp at h1
  · obtain ⟨rfl, rfl, rfl⟩ : g = g' ∧ n = l.length ∧ c = cap := by simpa using h1
    refine ⟨rfl, cur, h3, h2, h4, h5, h6, fun i hi => ?_⟩
    have hc : ∀ j, j < 5 → cur[i * 5 + j]? = (l.getD i d).vals[j]? := by
      intro j hj
      have hm : (i + 1) * 5 ≤ l.length * 5 := Nat.mul_le_mul_right 5 hi
      rw [← flat_getD' d l i j hi hj, ← h7, List.getElem?_take, if_pos (by omega), Array.getElem?_toList]
    exact ⟨hc 0 (by omega), hc 1 (by omega), hc 2 (by omega), hc 3 (by omega), hc 4 (by omega)⟩

theorem own_mk {w : World} {B g n cap : Nat} {cur : Array Value} {l : List StepD} {d : StepD} (hr : w.heap[g]? = some (.cells cur 72 (0, 0))) (hB : B ≤ g) (hn : n = l.length) (hc : l.length ≤ cap) (hm : cap ≤ maxLen)
    (hs : cur.size = cap * 5) (ha : ∀ i, i < l.length → ArrStep cur (i * 5) (l.getD i d)) : OwnSteps B (.slice (some ⟨g, 0, none⟩) n cap) l w := by
  subst hn
  refine ⟨flat_len' l, .inr ⟨g, cap, cur, rfl, hB, hr, hc, hm, hs, ?_⟩⟩
  have hle : l.length * 5 ≤ cap * 5 := Nat.mul_le_mul_right 5 hc
  apply List.ext_getElem?
  intro m
  by_cases hm : m < l.length * 5
  · have hi : m / 5 < l.length := by omega
    have e : m = m / 5 * 5 + m % 5 := by omega
    have hr5 : m % 5 < 5 := by omega
    rw [List.getElem?_take, if_pos hm, Array.getElem?_toList]
    obtain ⟨a0, a1, a2, a3, a4⟩ := ha (m / 5) hi
    rw [e, flat_getD' d l (m / 5) (m % 5) hi hr5]
    generalize m % 5 = r at hr5
    match r, hr5 with
    | 0, _ => exact a0
    | 1, _ => exact a1
    | 2, _ => exact a2
    | 3, _ => exact a3
    | 4, _ => exact a4
  · rw [List.getElem?_eq_none (by rw [List.length_take]; exact Nat.le_trans (Nat.min_le_left _ _) (by omega)), List.getElem?_eq_none (by rw [flat_len']; omega)]

/-- A step written into a list's row. -/
theorem own_store {B : Nat} {g n c i : Nat} {l : List StepD} {w : World} (s : StepD) (h : OwnSteps B (.slice (some ⟨g, 0, none⟩) n c) l w) (hi : i < l.length) :
    OwnSteps B (.slice (some ⟨g, 0, none⟩) n c) (l.set i s) (((((w.setCell ⟨g, i * 5, none⟩ (.int .u8 s.kind)).setCell ⟨g, i * 5 + 1, none⟩ (.int .i64 s.node)).setCell ⟨g, i * 5 + 2, none⟩ (.int .i64 s.a)).setCell ⟨g, i * 5 + 3, none⟩ (.int .i64 s.b)).setCell ⟨g, i * 5 + 4, none⟩ (.int .i64 s.l)) := by
  obtain ⟨rfl, cur, hr, hB, hc, hm, hs, ha⟩ := own_arr ⟨0, 0, 0, 0, 0⟩ h
  have hle : (i + 1) * 5 ≤ c * 5 := Nat.mul_le_mul_right 5 (by omega)
  refine own_mk (d := ⟨0, 0, 0, 0, 0⟩) (cur := put5 cur (i * 5) s) (row_setCell (row_setCell (row_setCell (row_setCell (row_setCell hr _ _) _ _) _ _) _ _) _ _) hB (by simp) (by simp; omega) hm (by rw [put5_size, hs]) fun j hj => ?_
  rw [List.length_set] at hj
  by_cases e : j = i
  · subst e
    have h0 := put5_same (c := cur) (o := j * 5) s (by omega)
    simpa [List.getD_eq_getElem?_getD, hj] using h0
  · have h0 := put5_other (c := cur) (o := i * 5) (m := j * 5) (s := s) (ha j hj) (by omega)
    simpa [List.getD_eq_getElem?_getD, List.getElem?_set, Ne.symm e] using h0
end Go.Proofs.YtbdcgdjhkcnekaaGreatDoor
