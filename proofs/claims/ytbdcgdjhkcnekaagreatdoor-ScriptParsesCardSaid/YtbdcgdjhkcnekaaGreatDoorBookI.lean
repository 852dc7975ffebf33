/-
  phratrylaw01's Book over two held lists: growStep.
-/
import Derived.Test.YtbdcgdjhkcnekaaGreatDoorBookH
namespace Go.Proofs.YtbdcgdjhkcnekaaGreatDoor
open Go Go.RowKit

theorem five_new1 (w : World) (s : StepD) (t : TypeId) : ∀ j u, s.vals[j]? = some u → (w.alloc (.cells s.arr t)).cell? ((⟨w.heap.size, 0, none⟩ : Addr).add j) = some u := by
  intro j u hj
  rw [add_plain, Nat.zero_add, cell_row (row_alloc _ _ _)]
  rw [show s.arr = s.vals.toArray from rfl, List.getElem?_toArray]
  exact hj

def GrowOut (w0 : World) (B b g cap : Nat) (L : Nat → List StepD) (i : Value) (wr : World) : Prop :=
  ∃ k : Nat, k ≤ 2 ∧ i = .int .i64 k ∧ GrowAt w0 B b g cap (growL L k 0) wr
def GrowIn (w0 : World) (B b g cap : Nat) (L : Nat → List StepD) (k : Nat) (i : Value) (wr : World) : Prop :=
  ∃ j : Nat, j ≤ 3 ∧ i = .int .i64 j ∧ GrowAt w0 B b g cap (growL L k j) wr

set_option maxRecDepth 100000 in
set_option maxHeartbeats 1600000 in
theorem growStep_any (B b g cap : Nat) (V : Nat → Value) (L : Nat → List StepD) (w : World) (h : Held2 w b g cap V L) (hF : Far2 B b g V) (hBw : B ≤ w.heap.size) (hlen : ∀ i, i < 2 → (L i).length ≤ 4096) :
    Calls Tryz.prog 63 #[.pointer (some ⟨b, 0, none⟩)] w fun e w' => e = .returned (.tuple #[]) ∧ ∃ V', Held2 w' b g cap V' (fun t => L t ++ List.replicate 3 (mark t)) ∧ Below B w w' := by
  obtain ⟨i0, hi0, hz0, hz1, hz2⟩ := info_parts info38
  have c17 : w.cell? ⟨b, 17, none⟩ = some (.slice (some ⟨g, 0, none⟩) 2 cap) := by rw [cell_row h.book]; rfl
  have hst : GrowAt w B b g cap (growL L 0 0) w := ⟨V, by rw [growL_zero]; exact h, hF, Below.refl _ _, hBw⟩
  have Hst := Lib.hid hst; clear hst h hF
  have Hlen := Lib.hid hlen; clear hlen
  go_enter Tryz.func63, Tryz.ntmps63
  go_wp2
  go_loopw [10] (fun i wr => GrowOut w B b g cap L i wr) (fun i _ => 2 - (intOf i).toNat)
  case atStart => exact ⟨0, by omega, rfl, Hst.out⟩
  case round =>
    obtain ⟨k, hk, rfl, hg⟩ := hrel
    by_cases hlt : k < 2
    · obtain ⟨V1, hh, hF1, hb1, hB1⟩ := hg
      have b17 : wr.cell? ⟨b, 17, none⟩ = some (.slice (some ⟨g, 0, none⟩) 2 cap) := by rw [cell_row hh.book]; rfl
      have Hg := Lib.hid (show GrowAt w B b g cap (growL L k 0) wr from ⟨V1, hh, hF1, hb1, hB1⟩)
      clear hh hF1 hb1 hB1
      have hk2 : (k : Int) < 2 := by omega
      go_wp2
      clear b17
      go_loopw [4] (fun i wq => GrowIn w B b g cap L k i wq) (fun i _ => 3 - (intOf i).toNat)
      case atStart => exact ⟨0, by omega, rfl, Hg.out⟩
      case round =>
        obtain ⟨j, hj, rfl, V2, hh, hF2, hb2, hB2⟩ := hrel
        by_cases hjl : j < 3
        · obtain ⟨hc, hrow, hcs⟩ := hh.row
          obtain ⟨e0, e1⟩ := hcs k hlt
          have d0 : wr.cell? ⟨g, k * 2, none⟩ = some (V2 k) := by rw [cell_row hrow, e0]
          have d1 : wr.cell? ⟨g, k * 2 + 1, none⟩ = some (.int .i64 k) := by rw [cell_row hrow, e1]
          have hgl : g < wr.heap.size := (Array.getElem?_eq_some_iff.1 hrow).1
          have hl : (growL L k j k).length ≤ 4099 := growL_len L k j k hj (Hlen.out k hlt)
          have hown := hh.own k hlt
          have Hrow := Lib.hid hrow; clear hrow e0 e1 hcs
          have Hown := Lib.hid hown; clear hown
          have Hh := Lib.hid hh; clear hh
          have HF2 := Lib.hid hF2; clear hF2
          have Hb2 := Lib.hid hb2; clear hb2
          obtain ⟨v, hv⟩ : ∃ v, v = V2 k := ⟨_, rfl⟩
          rw [← hv] at d0 Hown
          obtain ⟨l, hll⟩ : ∃ l, l = growL L k j k := ⟨_, rfl⟩
          rw [← hll] at hl Hown
          have Hv := Lib.hid hv; clear hv
          have Hll := Lib.hid hll; clear hll
          go_wp2_with fail
          go_region_law (first
            | (go_simp; go_at_call 139; refine (markStep_any k (by omega) (by omega) _).mono ?_; rintro e w3 ⟨rfl, hb3x⟩; have hb3 : Below wr.heap.size wr w3 := ⟨hb3x.os, hb3x.tape, hb3x.output, hb3x.size, hb3x.block⟩; clear hb3x; have d0' := (hb3.cell (p := ⟨g, k * 2, none⟩) hgl).trans d0; have d1' := (hb3.cell (p := ⟨g, k * 2 + 1, none⟩) hgl).trans d1; have Hrow3 := Lib.hid ((hb3.block g hgl).trans Hrow.out); have f0 := free_row Hrow3.out (k * 2); have Hown3 := Lib.hid (Hown.out.keep hb3); have hgl3 : g < w3.heap.size := Nat.lt_of_lt_of_le hgl hb3.size; have Hb3 := Lib.hid hb3; clear hb3)
            | (go_loud (refine step_append_lies _ rfl (.tmp 27) (.tmp 33) 22 rfl 0 72 i0 (.agg #[.int .u8 0, .int .i64 0, .int .i64 0, .int .i64 0, .int .i64 0]) 5 40 Tryz.underlying22 hi0 hz0 hz1 hz2 rfl (by decide) v l.length (l.flatMap StepD.vals) (by simp [Act.eval, Act.put]) (Hown3.out.alloc _) ⟨w3.heap.size, 0, none⟩ 1 1 (mark k).vals (by simp [Act.eval, Act.put]) rfl (five_new1 _ _ _) (five_one _) (by omega) (by unfold maxLen; omega) (by omega) (by simp) (w3.heap.size + 1) (by simp) ?_); intro g' c' w5 hown5 hgrow5 hat5 hlt5; have hr5 : w5.heap[g]? = some (.cells hc 96 (0, 0)) := (hgrow5.block g (Nat.lt_of_lt_of_le hgl3 (by simp)) (fun e => (HF2.out.far k hlt g (by rw [← Hv.out]; exact e.symm)).2.2 rfl)).trans ((heap_alloc_old _ _ hgl3).trans Hrow3.out); have z5 := free_row hr5 (k * 2); have c5 : w5.cell? ⟨g, k * 2, none⟩ = some v := (cell_row hr5 _).trans ((cell_row Hrow3.out _).symm.trans d0'); clear hr5 hlt5; have Hown5 := Lib.hid hown5; clear hown5; have Hgrow5 := Lib.hid hgrow5; clear hgrow5; have Hat5 := Lib.hid hat5; clear hat5))
          all_goals
            clear d0' d1' f0 z5 c5
            have hown6 : OwnSteps 0 (.slice (some ⟨g', 0, none⟩) (l.length + 1) c') (l ++ [mark k]) w5 := by
              unfold OwnSteps
              rw [List.length_append, List.flatMap_append]
              exact Hown5.out
            have hb4 : Below wr.heap.size wr (w3.alloc (.cells (mark k).arr 72)) := Hb3.out.alloc Hb3.out.size _
            have hG : GrowAt w B b g cap (growL L k (j + 1)) (w5.setCell ⟨g, k * 2, none⟩ (.slice (some ⟨g', 0, none⟩) (l.length + 1) c')) := by
              obtain ⟨r1, r2, r3⟩ := grow_round (w3 := w3.alloc (.cells (mark k).arr 72)) (g' := g') (c' := c') Hh.out HF2.out hlt hb4 hB2 (by rw [← Hll.out]; exact hown6) (by rw [← Hv.out]; exact Hgrow5.out) (by rw [← Hv.out]; simpa using Hat5.out)
              rw [growL_next] at r1
              rw [← Hll.out] at r1 r2 r3
              exact ⟨_, r1, r2, Hb2.out.trans r3, Nat.le_trans hB2 r3.size⟩
            clear hown6 hb4
            have HG := Lib.hid hG; clear hG Hown5 Hgrow5 Hat5 Hb3 Hown3 Hrow3
            go_wp2
            go_roundw
            case rel =>
              exact ⟨j + 1, by omega, by go_num, HG.out⟩
            case measure => simp [intOf]; omega
        · obtain rfl : j = 3 := by omega
          have Hx := Lib.hid (show GrowAt w B b g cap (growL L (k + 1) 0) wr by rw [← growL_three]; exact ⟨V2, hh, hF2, hb2, hB2⟩)
          clear hh hF2 hb2 hB2
          go_wp2
          exact ⟨⟨k + 1, by omega, by go_num, Hx.out⟩, by simp [intOf]; omega⟩
    · obtain rfl : k = 2 := by omega
      have Hx := Lib.hid hg; clear hg
      go_wp2
      go_end0
      obtain ⟨V2, hh, _, hb2, _⟩ := Hx.out
      exact ⟨rfl, V2, hh.congr (fun i hi => growL_end L i hi), hb2⟩
end Go.Proofs.YtbdcgdjhkcnekaaGreatDoor
