/-
  phratrylaw01's Book over two held lists: lookStep.
-/
import Derived.Test.YtbdcgdjhkcnekaaGreatDoorBookS
namespace Go.Proofs.YtbdcgdjhkcnekaaGreatDoor
open Go Go.RowKit

/-- Two held lists. -/
structure Held2 (w : World) (b g cap : Nat) (V : Nat → Value) (L : Nat → List StepD) : Prop where
  book : BookAt w b 2 (.slice (some ⟨g, 0, none⟩) 2 cap)
  row : ∃ hc, w.heap[g]? = some (.cells hc 96 (0, 0)) ∧ ∀ i, i < 2 → hc[i * 2]? = some (V i) ∧ hc[i * 2 + 1]? = some (.int .i64 i)
  own : ∀ i, i < 2 → OwnSteps 0 (V i) (L i) w

theorem Held2.grows {w w' : World} {b g cap : Nat} {V : Nat → Value} {L : Nat → List StepD} (h : Held2 w b g cap V L) (hb : Grows w w') : Held2 w' b g cap V L :=
  ⟨row_grows hb h.book, let ⟨hc, h1, h2⟩ := h.row; ⟨hc, row_grows hb h1, h2⟩, fun i hi => (h.own i hi).keep hb⟩

def LookOut (w : World) (i : Value) (wr : World) : Prop := ∃ k : Nat, k ≤ 2 ∧ i = .int .i64 k ∧ Below w.heap.size w wr
def LookIn (n : Nat) (w : World) (i : Value) (wr : World) : Prop := ∃ k : Nat, k ≤ n ∧ i = .int .i64 k ∧ Below w.heap.size w wr

set_option maxRecDepth 100000 in
set_option maxHeartbeats 1600000 in
theorem lookStep_any (b g cap : Nat) (V : Nat → Value) (L : Nat → List StepD) (w : World) (h : Held2 w b g cap V L) (hm : ∀ i, i < 2 → ∀ s ∈ L i, s = mark i) (hlen : ∀ i, i < 2 → (L i).length ≤ 4096) :
    Calls Tryz.prog 97 #[.pointer (some ⟨b, 0, none⟩)] w fun e w' => e = .returned (.bool true) ∧ Below w.heap.size w w' := by
  have c17 : w.cell? ⟨b, 17, none⟩ = some (.slice (some ⟨g, 0, none⟩) 2 cap) := by rw [cell_row h.book]; rfl
  have H := Lib.hid h; clear h
  have Hm := Lib.hid hm; clear hm
  have Hlen := Lib.hid hlen; clear hlen
  go_enter Tryz.func97, Tryz.ntmps97
  go_wp2
  go_loopw [12] (fun i wr => LookOut w i wr) (fun i _ => 2 - (intOf i).toNat)
  case atStart => exact ⟨0, by omega, rfl, Below.refl _ _⟩
  case round =>
    obtain ⟨k, hk, rfl, hb⟩ := hrel
    have Hb := Lib.hid hb; clear hb
    by_cases hlt : k < 2
    · have hh := H.out.grows Hb.out
      obtain ⟨hc, hrow, hcs⟩ := hh.row
      obtain ⟨e0, e1⟩ := hcs k hlt
      have d0 : wr.cell? ⟨g, k * 2, none⟩ = some (V k) := by rw [cell_row hrow, e0]
      have d1 : wr.cell? ⟨g, k * 2 + 1, none⟩ = some (.int .i64 k) := by rw [cell_row hrow, e1]
      have hown := hh.own k hlt
      have hl := Hlen.out k hlt
      have hmk := Hm.out k hlt
      generalize V k = v at d0 hown
      generalize L k = l at hown hl hmk
      obtain ⟨a, c, rfl, _⟩ := own_len hown
      obtain ⟨_, hst, _⟩ := own_steps (d := ⟨0, 0, 0, 0, 0⟩) hown rfl
      have Hst := Lib.hid hst; clear hst hown hh hrow hcs e0 e1
      have Hmk := Lib.hid hmk; clear hmk
      go_wp2
      obtain ⟨wh, hwh⟩ : ∃ wh, wh = wr.alloc (.cells #[.slice a l.length c, .int .i64 k] 96) := ⟨_, rfl⟩
      rw [← hwh]
      obtain ⟨p, hp⟩ : ∃ p, p = wr.heap.size := ⟨_, rfl⟩
      have hwsz : wh.heap.size = p + 1 := by rw [hwh, hp]; simp
      have h1c : wh.cell? ⟨p, 1, none⟩ = some (.int .i64 k) := by rw [hwh, hp, cell_row (row_alloc _ _ _)]; rfl
      rw [← hp]
      have hst' := Hst.out.below (show Below wr.heap.size wr wh by rw [hwh]; exact (Below.refl _ _).alloc (Nat.le_refl _) _) (Nat.le_refl _)
      have Hst' := Lib.hid hst'; clear hst'
      have Hb' := Lib.hid (show Below w.heap.size w wh by rw [hwh]; exact Hb.out.alloc Hb.out.size _)
      clear hwh hp
      go_loopw [19] (fun i wq => LookIn l.length wh i wq) (fun i _ => l.length - (intOf i).toNat)
      case atStart => exact ⟨0, by omega, rfl, Below.refl _ _⟩
      case round =>
        obtain ⟨j, hj, rfl, hbq⟩ := hrel
        have Hbq := Lib.hid hbq; clear hbq
        by_cases hjl : j < l.length
        · obtain ⟨b', o', rfl, hs⟩ := Hst'.out.below Hbq.out (Nat.le_refl _) j hjl
          have hmark : l.getD j ⟨0, 0, 0, 0, 0⟩ = mark k := Hmk.out _ (by rw [List.getD_eq_getElem?_getD, List.getElem?_eq_getElem hjl]; exact List.getElem_mem _)
          have hs' : StepAt wr b' (o' + j * 5) (mark k) := by rw [← hmark]; exact hs
          clear hs
          obtain ⟨s0, s1, s2, s3, s4⟩ := hs'
          have h1q : wr.cell? ⟨p, 1, none⟩ = some (.int .i64 k) := (Hbq.out.cell (by simp only; omega)).trans h1c
          have hpl : p < wr.heap.size := by have := Hbq.out.size; omega
          have hpne : p ≠ wr.heap.size := by omega
          clear hmark
          go_wp2_with (go_at_call 172; refine (isStep_any (mark k) k (by omega) (by omega) _).mono ?_; rintro e w3 ⟨rfl, hb3⟩)
          exact ⟨⟨j + 1, by omega, by go_num, (Hbq.out.alloc Hbq.out.size _).trans (hb3.mono (by rw [size_alloc']; have := Hbq.out.size; omega))⟩, by simp [intOf]; omega⟩
        · obtain rfl : j = l.length := by omega
          go_wp2
          exact ⟨⟨k + 1, by omega, by go_num, Hb'.out.trans (Hbq.out.mono Hb'.out.size)⟩, by simp [intOf]; omega⟩
    · go_wp2
      go_ret
      exact ⟨rfl, Hb.out⟩
end Go.Proofs.YtbdcgdjhkcnekaaGreatDoor
