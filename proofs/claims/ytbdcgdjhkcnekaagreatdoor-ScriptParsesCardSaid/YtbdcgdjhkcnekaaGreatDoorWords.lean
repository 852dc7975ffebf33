/-
  The reference's words; what grows.
-/
import Derived.Test.YtbdcgdjhkcnekaaGreatDoorSpec
import Derived.Test.YtbdcgdjhkcnekaaGreatDoorMem
import Derived.Lib.ItoaLen
import Derived.Test.YtbdcgdjhkcnekaaGreatDoorTwa
namespace Go.Proofs.YtbdcgdjhkcnekaaGreatDoor
open Go.RowKit

def wordVals : List Value := wordTab.map fun l => Value.string ⟨l.toArray⟩

set_option maxRecDepth 100000 in
set_option maxHeartbeats 400000 in
theorem words_any (w : World) :
    Calls Tryz.prog 122 #[] w fun e w' => e = .returned (.slice (some ⟨w.heap.size, 0, none⟩) 20 20) ∧ w'.heap[w.heap.size]? = some (.cells wordVals.toArray 9 (0, 0)) ∧ w.heap.size < w'.heap.size ∧ Below w.heap.size w w' := by
  go_enter Tryz.func122, Tryz.ntmps122
  go_wp2
  go_ret
  exact ⟨rfl, row_alloc _ _ _, by simp, (Below.refl _ _).alloc (Nat.le_refl _) _⟩

theorem word_val (k : Nat) (h1 : 1 ≤ k) (h20 : k ≤ 20) : wordVals.toArray[k - 1]? = some (.string ⟨(word k).toArray⟩) := by
  have hl : wordTab.length = 20 := rfl
  unfold wordVals word
  rw [List.getElem?_toArray, List.getElem?_map, List.getElem?_eq_getElem (by rw [hl]; omega), List.getD_eq_getElem?_getD, List.getElem?_eq_getElem (by rw [hl]; omega)]
  rfl

theorem word_cell {w1 : World} {k b : Nat} (hk : k < 20) (hrow : w1.heap[b]? = some (.cells wordVals.toArray 9 (0, 0))) : w1.cell? ⟨b, k, none⟩ = some (.string ⟨(word (k + 1)).toArray⟩) := by
  rw [cell_row hrow]
  exact word_val (k + 1) (by omega) (by omega)

theorem word_len (k : Nat) (hk : k < 20) : (word (k + 1)).length ≤ 8 := by
  have h : ∀ i : Fin 20, (word (i.val + 1)).length ≤ 8 := by decide
  exact h ⟨k, hk⟩
theorem itoa_len {n : Int} (h0 : -9223372036854775808 ≤ n) (h1 : n ≤ 9223372036854775807) : (Lib.itoa n).length ≤ 21 := Lib.itoa_length_le n h0 h1

theorem str_eq {a : ByteArray} {l : List UInt8} (h : a.data.toList = l) : Ending.returned (.string a) = Ending.returned (.string ⟨l.toArray⟩) := by
  subst h
  rfl

abbrev Grows (w w' : World) : Prop := Below w.heap.size w w'

theorem row_grows {w w' : World} {b : Nat} {o : Obj} (h : Grows w w') (hb : w.heap[b]? = some o) : w'.heap[b]? = some o :=
  (h.block b (Array.getElem?_eq_some_iff.1 hb).1).trans hb

end Go.Proofs.YtbdcgdjhkcnekaaGreatDoor
