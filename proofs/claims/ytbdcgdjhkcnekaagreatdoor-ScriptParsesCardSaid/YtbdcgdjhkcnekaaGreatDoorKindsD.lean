/-
  The kind of a word.
-/
import Derived.Test.YtbdcgdjhkcnekaaGreatDoorSpec
namespace Go.Proofs.YtbdcgdjhkcnekaaGreatDoor
open Go

/-- The kind of a word; 0: it is none. -/
def wordIdx (l : List UInt8) : Nat := match wordTab.findIdx? (fun x => x == l) with | some i => i + 1 | none => 0

theorem words_apart : ∀ i j : Fin 20, wordTab.getD i.val [] = wordTab.getD j.val [] → i = j := by decide +kernel

theorem wordIdx_word : ∀ i : Fin 20, wordIdx (wordTab.getD i.val []) = i.val + 1 := by decide +kernel

theorem wordIdx_le (l : List UInt8) : wordIdx l ≤ 20 := by
  unfold wordIdx
  split
  · rename_i i h
    have := (List.findIdx?_eq_some_iff_getElem.1 h).1
    have h20 : wordTab.length = 20 := rfl
    omega
  · omega

end Go.Proofs.YtbdcgdjhkcnekaaGreatDoor
