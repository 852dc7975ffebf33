/-
  TwinSteps: the row that it makes is its own.
-/
import Derived.Test.YtmfecoejechdmaaDoorScBack
namespace Go.Proofs.YtmfecoejechdmaaDoor
open Go Go.RowKit

theorem flat_steps (d : StepD) : ∀ (l : List StepD) (i j : Nat), i < l.length → j < 5 → (l.flatMap StepD.vals)[i * 5 + j]? = (l.getD i d).vals[j]?
  | [], i, j, hi, _ => by simp at hi
  | x :: r, 0, j, _, hj => by rw [List.flatMap_cons, List.getElem?_append_left (by simp [StepD.vals]; omega)]; simp
  | x :: r, i + 1, j, hi, hj => by
    rw [List.flatMap_cons, List.getElem?_append_right (by simp [StepD.vals]; omega), show (i + 1) * 5 + j - x.vals.length = i * 5 + j by simp [StepD.vals]; omega, flat_steps d r i j (by simpa using hi) hj]
    simp
theorem flat_steps_len (l : List StepD) : (l.flatMap StepD.vals).length = l.length * 5 := by
  induction l with
  | nil => rfl
  | cons x r ih => rw [List.flatMap_cons, List.length_append, ih]; simp [StepD.vals]; omega

theorem own_of_row {w : World} {B g n cap : Nat} {cur : Array Value} {l : List StepD} {d : StepD} (hr : w.heap[g]? = some (.cells cur 38 (0, 0))) (hB : B ≤ g) (hn : n = l.length) (hc : l.length ≤ cap) (hm : cap ≤ maxLen)
    (hs : cur.size = cap * 5) (ha : ∀ i, i < l.length → ArrStep cur (i * 5) (l.getD i d)) : OwnSteps B (.slice (some ⟨g, 0, none⟩) n cap) l w := by
  subst hn
  refine ⟨flat_steps_len l, .inr ⟨g, cap, cur, rfl, hB, hr, hc, hm, hs, ?_⟩⟩
  have hle : l.length * 5 ≤ cap * 5 := Nat.mul_le_mul_right 5 hc
  apply List.ext_getElem?
  intro m
  by_cases hm : m < l.length * 5
  · have hi : m / 5 < l.length := by omega
    have e : m = m / 5 * 5 + m % 5 := by omega
    have hr5 : m % 5 < 5 := by omega
    rw [List.getElem?_take, if_pos hm, Array.getElem?_toList]
    obtain ⟨a0, a1, a2, a3, a4⟩ := ha (m / 5) hi
    rw [e, flat_steps d l (m / 5) (m % 5) hi hr5]
    generalize m % 5 = r at hr5
    match r, hr5 with
    | 0, _ => exact a0
    | 1, _ => exact a1
    | 2, _ => exact a2
    | 3, _ => exact a3
    | 4, _ => exact a4
  · rw [List.getElem?_eq_none (by rw [List.length_take]; exact Nat.le_trans (Nat.min_le_left _ _) (by omega)), List.getElem?_eq_none (by rw [flat_steps_len]; omega)]

set_option maxRecDepth 100000 in
set_option maxHeartbeats 400000 in
theorem twinOwn_any (a : Option Addr) (n c : Nat) (f : Nat → StepD) (hn : n ≤ 262144) (w : World) (hg : Steps w a n f) (hnil : a = none → n = 0) :
    Calls Tryd.prog 7 #[.slice a n c] w fun e w' => e = .returned (.slice (some ⟨w.heap.size, 0, none⟩) n (n + 2)) ∧ OwnSteps w.heap.size (.slice (some ⟨w.heap.size, 0, none⟩) n (n + 2)) (stepsL n f) w' ∧ Below w.heap.size w w' := by
  obtain ⟨i0, hi, hz0, hz1, hz2⟩ := info_parts info38
  have hmk := run_make_steps n hn w
  obtain ⟨cs, hcs⟩ : ∃ cs, cs = (List.range n).flatMap fun i => (f i).vals := ⟨_, rfl⟩
  have hl : cs.length = n * 5 := by rw [hcs]; exact flat_len (fun i => (f i).vals) 5 (fun _ => rfl) n
  obtain ⟨z, hz⟩ : ∃ z, z = zeroCells ((n + 2) * 5) := ⟨_, rfl⟩
  have hzs : z.size = (n + 2) * 5 := by rw [hz]; simp [zeroCells, madeCells]
  have Hsrc : Hid (∀ a', a = some a' → ∀ j v, cs[j]? = some v → (w.alloc (.cells z 38)).cell? (a'.add j) = some v) := by
    refine Lib.hid ?_
    intro a' ha j v hj
    have hj5 : j < n * 5 := by rw [← hl]; exact (List.getElem?_eq_some_iff.1 hj).1
    have hi5 : j / 5 < n := by omega
    obtain ⟨b, o, e, h0, h1, h2, h3, h4⟩ := hg (j / 5) hi5
    obtain rfl : a' = ⟨b, o, none⟩ := Option.some.inj (ha.symm.trans e)
    rw [add_plain]
    have hb : b < w.heap.size := World.block_lt_of_cell? w _ h0
    have hf := flat_get (fun i => (f i).vals) 5 (fun _ => rfl) n (j / 5) (j % 5) hi5 (by omega)
    rw [show j / 5 * 5 + j % 5 = j by omega, ← hcs, hj] at hf
    rw [World.cell?_alloc_past _ _ _ hb, show o + j = o + j / 5 * 5 + j % 5 by omega]
    have h5 : j % 5 < 5 := by omega
    generalize j % 5 = r at hf h5
    match r, h5 with
    | 0, _ => rw [Nat.add_zero, h0, hf]; rfl
    | 1, _ => rw [h1, hf]; rfl
    | 2, _ => rw [h2, hf]; rfl
    | 3, _ => rw [h3, hf]; rfl
    | 4, _ => rw [h4, hf]; rfl
  have Hone : Hid (∀ v ∈ cs, v.oneCell' = true) := by
    refine Lib.hid ?_
    intro v hv
    rw [hcs] at hv
    obtain ⟨i, _, hv⟩ := List.mem_flatMap.1 hv
    simp only [StepD.vals, List.mem_cons, List.not_mem_nil, or_false] at hv
    rcases hv with rfl | rfl | rfl | rfl | rfl <;> rfl
  have Hlen : Hid (cs.length = Nat.min n n * 5) := Lib.hid (by rw [hl, show Nat.min n n = n from Nat.min_self n])
  have Hfit : Hid (0 + cs.length ≤ z.size) := Lib.hid (by rw [hl, hzs]; omega)
  rw [← hz] at hmk
  have Hrow : Hid ((w.alloc (.cells z 38)).heap[w.heap.size]? = some (.cells z 38 (0, 0))) := Lib.hid (row_alloc _ _ _)
  have Hcs := Lib.hid hcs; clear hcs
  have Hl := Lib.hid hl; clear hl
  have Hz := Lib.hid hz; clear hz
  have Hzs := Lib.hid hzs; clear hzs
  have Hg := Lib.hid hg; clear hg
  go_enter Tryd.func7, Tryd.ntmps7
  go_wp2_with (with_reducible refine wpList_copy_any rfl (.tmp 12) (.tmp 13) 22 22 rfl 38 i0 5 Tryd.underlying22 hi hz1 w.heap.size 0 n (n + 2) a n c rfl rfl z 38 Hrow.out cs Hlen.out Hsrc.out hnil Hfit.out Hone.out ?_)
  have hB0 : Below w.heap.size w ((w.alloc (.cells z 38)).setRow w.heap.size (splice z.toList 0 cs).toArray) := below_setRow ((Below.refl _ _).alloc (Nat.le_refl _) _) (Nat.le_refl _) _
  have HB0 := Lib.hid hB0; clear hB0
  go_loopw [5] (fun i wr => TwRel n f w i wr) (fun i _ => n + 2 - (intOf i).toNat)
  case atStart =>
    refine ⟨n, (splice z.toList 0 cs).toArray, Nat.le_refl _, by omega, rfl, row_setRow Hrow.out, ?_, ?_, HB0.out⟩
    · have h := length_splice z.toList 0 cs (by have := Hfit.out; simpa using this)
      have h2 := Hzs.out
      simpa [h2] using h
    · intro m hm
      rw [Hcs.out, show twD n f m = f m from if_pos hm]
      exact splice_steps z f n m hm
  case round =>
    obtain ⟨k, cur, hk0, hk1, rfl, hrow, hcur, hall, hb⟩ := hrel
    have hsz := hb.size
    have hlt0 : w.heap.size < wr.heap.size := (Array.getElem?_eq_some_iff.1 hrow).1
    have Hall := Lib.hid hall; clear hall
    have Hb := Lib.hid hb; clear hb
    have Hrow := Lib.hid hrow; clear hrow
    have Hcur := Lib.hid hcur; clear hcur
    by_cases hlt : k < n + 2
    · go_wp2_with (go_at_call 14; refine (markStep_any k (by omega) (by omega) _).mono ?_; rintro e w1 ⟨rfl, hb1⟩; have Hb1 := Lib.hid hb1; clear hb1; refine Hid.out ?_)
      refine Lib.hid ?_
      have hrow1 : w1.heap[w.heap.size]? = some (.cells cur 38 (0, 0)) := (Hb1.out.block _ hlt0).trans Hrow.out
      have hc : ∀ j, j < 5 → ∃ v, w1.cell? ⟨w.heap.size, k * 5 + j, none⟩ = some v := fun j hj => by
        rw [cell_row hrow1]
        exact ⟨_, Array.getElem?_eq_getElem (by rw [Hcur.out]; omega)⟩
      obtain ⟨v0, c0⟩ := hc 0 (by omega)
      obtain ⟨v1, c1⟩ := hc 1 (by omega)
      obtain ⟨v2, c2⟩ := hc 2 (by omega)
      obtain ⟨v3, c3⟩ := hc 3 (by omega)
      obtain ⟨v4, c4⟩ := hc 4 (by omega)
      rw [Nat.add_zero] at c0
      clear hc
      have f0 := free_row hrow1 (k * 5)
      have f1 := free_row hrow1 (k * 5 + 1)
      have f2 := free_row hrow1 (k * 5 + 2)
      have f3 := free_row hrow1 (k * 5 + 3)
      have f4 := free_row hrow1 (k * 5 + 4)
      have Hrow1 := Lib.hid hrow1; clear hrow1
      go_wp2
      exact ⟨twRel_step hk0 hlt Hrow1.out Hcur.out Hall.out Hb.out Hb1.out, by simp [intOf]; omega⟩
    · go_wp2
      go_ret
      refine ⟨rfl, ?_, Hb.out⟩
      obtain rfl : k = n + 2 := by omega
      refine own_of_row (d := ⟨0, 0, 0, 0, 0⟩) Hrow.out (Nat.le_refl _) (by rw [stepsL_len]) (by rw [stepsL_len]; omega) (by unfold maxLen; omega) Hcur.out fun i hi => ?_
      rw [stepsL_len] at hi
      have h := Hall.out i (by omega)
      rw [show twD n f i = f i from if_pos hi] at h
      rw [stepsL_get n f _ i hi]
      exact h
end Go.Proofs.YtmfecoejechdmaaDoor
