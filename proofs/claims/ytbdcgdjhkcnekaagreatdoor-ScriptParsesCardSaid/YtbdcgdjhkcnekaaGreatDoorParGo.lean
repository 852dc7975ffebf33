/-
  Reading a text: one step of parseGo.
-/
import Derived.Test.YtbdcgdjhkcnekaaGreatDoorPar
namespace Go.Proofs.YtbdcgdjhkcnekaaGreatDoor
open Go

theorem cut_len (l : List UInt8) (hl : l ≠ []) : (Lib.cut l [10]).2.1.length < l.length ∧ (Lib.cut l [10]).1.length ≤ l.length := by
  unfold Lib.cut
  have : 0 < l.length := List.length_pos_iff.2 hl
  split
  · simp only [List.length_drop, List.length_take, List.length_cons, List.length_nil]; omega
  · simp; omega

theorem parseGo_fuel : ∀ (n m : Nat) (acc : List StepD) (l : List UInt8), l.length < n → l.length < m → parseGo n acc l = parseGo m acc l
  | 0, _, _, _, h, _ => by omega
  | _, 0, _, _, _, h => by omega
  | n + 1, m + 1, acc, l, h1, h2 => by
    unfold parseGo
    by_cases h0 : l = []
    · rw [if_pos h0, if_pos h0]
    · rw [if_neg h0, if_neg h0]
      have := (cut_len l h0).1
      have e : ∀ acc', parseGo n acc' (Lib.cut l [10]).2.1 = parseGo m acc' (Lib.cut l [10]).2.1 := fun acc' => parseGo_fuel n m acc' _ (by omega) (by omega)
      simp only [e]

theorem parse_next {t c1 c2 : List UInt8} {c3 : Bool} (acc : List StepD) (h0 : t ≠ []) (h : Lib.cut t [10] = (c1, c2, c3)) : parseGo (t.length + 1) acc t = match stepD c1 with
    | none => ([], (acc.length : Int), 4)
    | some s => if c3 = false then ([], acc.length, 4) else if acc.length = 2048 then ([], acc.length, 3) else parseGo (c2.length + 1) (acc ++ [s]) c2 := by
  have hl := (cut_len t h0).1
  rw [parseGo, if_neg h0, h]
  rw [h] at hl
  have e : ∀ acc', parseGo t.length acc' c2 = parseGo (c2.length + 1) acc' c2 := fun acc' => parseGo_fuel _ _ acc' _ hl (by omega)
  simp only [e]
  cases stepD c1 <;> rfl

end Go.Proofs.YtbdcgdjhkcnekaaGreatDoor
