/-
  The sort of keys by their nodes.
-/
import Derived.Test.YtedpljclnpiggaaGreatDoorQRise
set_option linter.unusedVariables false
set_option linter.unusedSimpArgs false
namespace Go.Proofs.YtedpljclnpiggaaGreatDoor
open Go Go.RowKit Go.Lib Go.Sort Go.Shelf

theorem flat2 (l : List KeyP) (i j : Nat) (hi : i < l.length) (hj : j < 2) : (l.flatMap keyV)[i * 2 + j]? = (keyV (l.getD i (0, 0)))[j]? := by
  induction l generalizing i with
  | nil => simp at hi
  | cons x r ih =>
    cases i with
    | zero => rw [List.flatMap_cons, List.getElem?_append_left (by simp [keyV]; omega)]; simp
    | succ i =>
      rw [List.flatMap_cons, List.getElem?_append_right (by simp [keyV]; omega), show (i + 1) * 2 + j - (keyV x).length = i * 2 + j by simp [keyV]; omega, ih i (by simpa using hi)]
      simp
theorem flat2_len (l : List KeyP) : (l.flatMap keyV).length = l.length * 2 := by
  induction l with
  | nil => rfl
  | cons x r ih => rw [List.flatMap_cons, List.length_append, ih]; simp [keyV]; omega

theorem flatK_keys (l : List KeyP) : flatK keyV 2 l.toArray = (l.flatMap keyV).toArray := by
  apply Array.toList_inj.1
  apply List.ext_getElem?
  intro t
  have hsz : (flatK keyV 2 l.toArray).toList.length = l.length * 2 := by simp
  by_cases ht : t < l.length * 2
  · have h1 : t / 2 < l.length := by omega
    have h2 : t % 2 < 2 := by omega
    have h3 := flat2 l (t / 2) (t % 2) h1 h2
    rw [show t / 2 * 2 + t % 2 = t by omega] at h3
    rw [show ((l.flatMap keyV).toArray).toList = l.flatMap keyV from rfl, h3]
    have h4 := get_flatK keyV 2 l.toArray t (by simpa using ht)
    rw [Array.getElem?_toList, Array.getElem?_eq_getElem (by simpa using ht)]
    rw [getElem!_pos (flatK keyV 2 l.toArray) t (by simpa using ht)] at h4
    rw [h4]
    rcases (by omega : t % 2 = 0 ∨ t % 2 = 1) with e | e <;> simp [e, keyV, h1]
  · rw [List.getElem?_eq_none (by omega), show ((l.flatMap keyV).toArray).toList = l.flatMap keyV from rfl, List.getElem?_eq_none (by rw [flat2_len]; omega)]

theorem holdsK_keys {w : World} {g : Nat} {cur : Array Value} {e : TypeId} {l : List KeyP} (hb : w.heap[g]? = some (.cells cur e (0, 0))) (ht : cur.toList.take (l.length * 2) = l.flatMap keyV) : HoldsK keyV 2 w g 0 l.toArray := by
  unfold HoldsK
  rw [flatK_keys]
  intro j hj
  have hj' : j < l.length * 2 := by rw [List.size_toArray, flat2_len] at hj; exact hj
  refine ⟨?_, by simp [World.frozen?, hb]⟩
  have h1 : (cur.toList.take (l.length * 2))[j]? = (l.flatMap keyV)[j]? := by rw [ht]
  rw [List.getElem?_take_of_lt hj'] at h1
  rw [Nat.zero_add, cell_row hb, ← Array.getElem?_toList, h1, List.getElem?_eq_getElem (by rw [flat2_len]; exact hj')]
  rw [getElem!_pos _ j hj]
  rfl

theorem rise_lt (x y : KeyP) : ltOf (fun x y : KeyP => Lib.compareInt x.1 y.1) x y = decide (x.1 < y.1) := by
  unfold ltOf Lib.compareInt
  by_cases h1 : x.1 < y.1
  · simp [h1]
  · by_cases h2 : y.1 < x.1 <;> simp [h1, h2]

theorem rise_swo : SWO (ltOf fun x y : KeyP => Lib.compareInt x.1 y.1) where
  irrefl x := by rw [rise_lt]; simp
  trans x y z h1 h2 := by rw [rise_lt] at *; simp at *; omega
  ntrans x y z h1 h2 := by rw [rise_lt] at *; simp at *; omega

set_option maxHeartbeats 1000000 in
theorem rise_fn (x y : KeyP) (W : World) : Calls Tryz.prog 189 #[.agg #[.int .i64 x.1, .int .i64 x.2], .agg #[.int .i64 y.1, .int .i64 y.2]] W fun e w' => e = .returned (.int .i64 (Lib.compareInt x.1 y.1)) ∧ ∃ q os', w' = grow (W.drewN q) os' := by
  have hcon := fun W' => AnyG.cmp_Compare_int Tryz.cmpInt x.1 y.1 W'
  change ∀ W', Calls Tryz.prog 190 _ _ _ at hcon
  generalize Lib.compareInt x.1 y.1 = r at hcon ⊢
  go_enter Tryz.func189, Tryz.ntmps189
  go_wp2_with (go_at_call 190; refine (hcon _).mono ?_; rintro e w' ⟨rfl, rfl⟩)
  go_ret
  exact ⟨rfl, 0, _, by rw [alloc_eq_grow, alloc_eq_grow, grow_grow]; rfl⟩

/-- Behind the sort. -/
def SortPost (out : List KeyP) (B g cap : Nat) (w : World) (e : Ending) (w' : World) : Prop :=
  e = .returned (.tuple #[]) ∧ ∃ d : List KeyP, d.Perm out ∧ d.Pairwise (fun a b => ¬ b.1 < a.1) ∧ w'.ownsRow B 123 2 (.slice (some ⟨g, 0, none⟩) d.length cap) d.length (d.flatMap keyV) ∧ w.grownBy w' (some g)

set_option maxHeartbeats 1000000 in
theorem sort_any (out : List KeyP) (B g cap : Nat) (hn : out.length ≤ 2000000) (w : World) (h : w.ownsRow B 123 2 (.slice (some ⟨g, 0, none⟩) out.length cap) out.length (out.flatMap keyV)) :
    Calls Tryz.prog 188 #[.slice (some ⟨g, 0, none⟩) out.length cap, .func (.func 189) #[] #[]] w (SortPost out B g cap w) := by
  rcases h.2 with ⟨e, _⟩ | ⟨g', cap', cur, e, hB, hb, h1, h2, h3, h4⟩
  · simp at e
  · obtain ⟨rfl, _, rfl⟩ : g = g' ∧ out.length = out.length ∧ cap = cap' := by simpa using e
    have hgl : g < w.heap.size := (Array.getElem?_eq_some_iff.1 hb).1
    have eg : ∀ args w, (callFunc 189 args).run Tryz.prog w = .ok (.enter 189 args) w := enters_of Tryz.func189 (by kernel_rfl) rfl
    have hcmp : CmpLays Tryz.prog 189 #[] keyV 2 (fun x y => Lib.compareInt x.1 y.1) g 0 out.toArray.size w := fun _ _ _ _ x y => rise_fn x y _
    have hcon := AnyQ.slices_SortFunc Tryz.sortKeys 2 Tryz.isAgg123 Tryz.sizeOf123 keyV (fun _ => rfl) (fun x v hv => by simp [keyV] at hv; rcases hv with rfl | rfl <;> rfl) (fun x y => Lib.compareInt x.1 y.1) rise_swo 189 #[] g 0 cap out.toArray w eg hcmp (holdsK_keys hb h4) hgl (by simp; omega)
    change Calls Tryz.prog 188 _ _ _ at hcon
    rw [show out.toArray.size = out.length from by simp] at hcon
    refine hcon.mono ?_
    rintro e w' ⟨rfl, d', n, os, hp, hs, rfl⟩
    obtain ⟨d, rfl⟩ : ∃ d : List KeyP, d' = d.toArray := ⟨d'.toList, by simp⟩
    have hdl : d.length = out.length := by have := hp.1; simpa using this
    refine ⟨rfl, d, ?_, ?_, ?_, ?_⟩
    · have := hp.2.2
      rw [← hdl] at this
      rw [hdl] at this
      simpa [List.take_of_length_le (Nat.le_of_eq hdl)] using this
    · rw [List.pairwise_iff_getElem]
      intro i j hi hj hij
      have := hs i j (Nat.zero_le _) hij (by omega)
      rw [rise_lt] at this
      simpa [hi, hj] using this
    · refine ⟨by rw [flat2_len], .inr ⟨g, cap, putCells id 0 (flatK keyV 2 d.toArray) cur, rfl, hB, ?_, by omega, h2, by simp [putCells, h3], ?_⟩⟩
      · unfold sortWorldK putRowK
        rw [heap_grow_old _ _ (by simpa using hgl)]
        simp [putRow, mapBlock, Sort.ahead, Array.getElem?_modify, hb, onCells]
      · rw [flatK_keys]
        apply List.ext_getElem?
        intro j
        by_cases hj : j < d.length * 2
        · rw [List.getElem?_take_of_lt hj, Array.getElem?_toList]
          have hc : j < cur.size := by rw [h3]; omega
          have hf : j < (d.flatMap keyV).length := by rw [flat2_len]; exact hj
          have hs2 : (d.flatMap keyV).toArray.size = d.length * 2 := by rw [List.size_toArray, flat2_len]
          unfold putCells
          rw [Array.getElem?_mapIdx, Array.getElem?_eq_getElem hc, List.getElem?_eq_getElem hf]
          simp only [Option.map_some, Nat.zero_le, true_and, Nat.zero_add, hs2, if_pos hj, Nat.sub_zero, id]
          rw [getElem!_pos _ j (by rw [hs2]; exact hj)]
          rfl
        · rw [List.getElem?_take_eq_none (by omega), List.getElem?_eq_none (by rw [flat2_len]; omega)]
    · refine ⟨rfl, rfl, rfl, by simp [sortWorldK, putRowK], fun k hk hne => ?_⟩
      unfold sortWorldK putRowK
      rw [heap_grow_old _ _ (by simpa using hk)]
      have : g ≠ k := fun e => hne (by rw [e])
      simp [putRow, mapBlock, Sort.ahead, Array.getElem?_modify, this]
end Go.Proofs.YtedpljclnpiggaaGreatDoor
