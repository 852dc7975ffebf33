/-
  phratrylaw01's Book: what it holds; keepStep.
-/
import Derived.Test.YtbdcgdjhkcnekaaGreatDoorRStep
import Derived.RegionTactic
import Derived.ChangeAlike
import Derived.Deep.RegionLaw
import Derived.Deep.AppendLies
namespace Go.Proofs.YtbdcgdjhkcnekaaGreatDoor
open Go Go.RowKit

def bookC (n : Int) (lv : Value) : Array Value :=
  #[.int .i64 n, .slice none 0 0, .slice none 0 0, .slice none 0 0, .slice none 0 0, .slice none 0 0, .slice none 0 0, .slice none 0 0, .slice none 0 0, .slice none 0 0, .slice none 0 0, .slice none 0 0, .slice none 0 0, .slice none 0 0, .slice none 0 0,
    .slice none 0 0, .slice none 0 0, lv, .slice none 0 0, .slice none 0 0, .slice none 0 0, .slice none 0 0, .slice none 0 0, .slice none 0 0, .slice none 0 0, .slice none 0 0, .slice none 0 0, .slice none 0 0, .slice none 0 0, .slice none 0 0,
    .slice none 0 0, .slice none 0 0, .slice none 0 0, .slice none 0 0, .slice none 0 0]

abbrev BookAt (w : World) (b : Nat) (n : Int) (lv : Value) : Prop := w.heap[b]? = some (.cells (bookC n lv) 62 (0, 0))

theorem infoH : (Tryz.prog.info? 96).map (fun i => (i.zero, i.size, i.bytes)) = some (some (.agg #[.slice none 0 0, .int .i64 0]), 2, 32) := by kernel_rfl

theorem two_new (w : World) (x y : Value) (t : TypeId) : ∀ j u, [x, y][j]? = some u → (w.alloc (.cells #[x, y] t)).cell? ((⟨w.heap.size, 0, none⟩ : Addr).add j) = some u := by
  intro j u hj
  rw [add_plain, Nat.zero_add, cell_row (row_alloc _ _ _)]
  rw [show (#[x, y] : Array Value) = [x, y].toArray from rfl, List.getElem?_toArray]
  exact hj

def heldV (v : Value) (n : Int) : List Value := [v, .int .i64 n]

set_option maxRecDepth 100000 in
set_option maxHeartbeats 1600000 in
theorem keepStep_any (b n : Nat) (hn : n ≤ 4) (lv : Value) (xs : List Value) (a : Option Addr) (len c : Nat) (w : World) (hb : BookAt w b n lv) (hown : w.ownsRow (b + 1) 96 2 lv n xs) :
    Calls Tryz.prog 14 #[.pointer (some ⟨b, 0, none⟩), .slice a len c] w fun e w' => e = .returned (.tuple #[]) ∧
      ∃ lv', BookAt w' b ((n : Int) + 1) lv' ∧ w'.ownsRow (b + 1) 96 2 lv' (n + 1) (xs ++ heldV (.slice a len c) n) ∧ Below b w w' := by
  obtain ⟨i0, hi0, hz0, hz1, hz2⟩ := info_parts infoH
  have hlt : b < w.heap.size := (Array.getElem?_eq_some_iff.1 hb).1
  have c0 : w.cell? ⟨b, 0, none⟩ = some (.int .i64 n) := by rw [cell_row hb]; rfl
  have c17 : w.cell? ⟨b, 17, none⟩ = some lv := by rw [cell_row hb]; rfl
  have z0 := free_row hb 0
  have z17 := free_row hb 17
  have Hown := Lib.hid hown; clear hown
  have Hb := Lib.hid hb; clear hb
  go_enter Tryz.func14, Tryz.ntmps14
  go_wp2_with fail
  go_region_law (go_loud (refine step_append_lies _ rfl (.tmp 8) (.tmp 15) 43 rfl (b + 1) 96 i0 (.agg #[.slice none 0 0, .int .i64 0]) 2 32 Tryz.underlying43 hi0 hz0 hz1 hz2 rfl (by decide) lv n xs (by simp [Act.eval, Act.put]) (Hown.out.alloc _) ⟨w.heap.size, 0, none⟩ 1 1 (heldV (.slice a len c) n) (by simp [Act.eval, Act.put]) rfl (two_new _ _ _ _) (by intro u hu; simp [heldV] at hu; rcases hu with rfl | rfl <;> rfl) (by omega) (by unfold maxLen; omega) (by omega) (by simp; omega) (w.heap.size + 1) (by simp) ?_); intro g cap w5 hown' hgrow hg hglt; have hb5 : BookAt w5 b n lv := (hgrow.block b (Nat.lt_of_lt_of_le hlt (by simp)) (fun e => (by have := own_base Hown.out _ e.symm; omega))).trans ((heap_alloc_old _ _ hlt).trans Hb.out); have c0' : w5.cell? ⟨b, 0, none⟩ = some (.int .i64 n) := (cell_row hb5 0).trans rfl; have c17' : w5.cell? ⟨b, 17, none⟩ = some lv := (cell_row hb5 17).trans rfl; have z17' := free_row hb5 17; have z0' := free_row hb5 0; have Hb5 := Lib.hid hb5; clear hb5)
  all_goals
    have hb6 : BookAt (w5.setCell ⟨b, 17, none⟩ (.slice (some ⟨g, 0, none⟩) (n + 1) cap)) b n (.slice (some ⟨g, 0, none⟩) (n + 1) cap) := row_setCell Hb5.out 17 _
    have hnw : b ≠ g := fun e => by
      have := own_base hown' g rfl
      omega
    have hown6 : (w5.setCell ⟨b, 17, none⟩ (.slice (some ⟨g, 0, none⟩) (n + 1) cap)).ownsRow (b + 1) 96 2 (.slice (some ⟨g, 0, none⟩) (n + 1) cap) (n + 1) (xs ++ heldV (.slice a len c) n) := ownsRow_setCell_below hown' (by simp) _
    have hB6 : Below b w (w5.setCell ⟨b, 17, none⟩ (.slice (some ⟨g, 0, none⟩) (n + 1) cap)) := (((Below.refl b w).alloc (by omega) (.cells #[.slice a len c, .int .i64 n] 96)).drew.grown hgrow (by simp; omega) (fun k hk => by have := own_base Hown.out k hk; omega)).setCell (Nat.le_refl _) _
    generalize w5.setCell ⟨b, 17, none⟩ (.slice (some ⟨g, 0, none⟩) (n + 1) cap) = w6 at hb6 hown6 hB6 ⊢
    have c06 : w6.cell? ⟨b, 0, none⟩ = some (.int .i64 n) := (cell_row hb6 0).trans rfl
    have z06 := free_row hb6 0
    have Hb6 := Lib.hid hb6; clear hb6
    have Hown6 := Lib.hid hown6; clear hown6
    have HB6 := Lib.hid hB6; clear hB6
    clear hown' hgrow c0' c17' z17' z0' c0 c17 z0 z17
    go_wp2
    go_end0
    exact ⟨rfl, _, row_setCell Hb6.out 0 _, ownsRow_setCell_below Hown6.out (by simp) _, HB6.out.setCell (Nat.le_refl _) _⟩
end Go.Proofs.YtbdcgdjhkcnekaaGreatDoor
