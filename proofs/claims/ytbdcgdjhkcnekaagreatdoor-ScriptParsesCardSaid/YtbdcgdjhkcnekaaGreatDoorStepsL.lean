/-
  A list of steps; how textGo goes on.
-/
import Derived.Test.YtbdcgdjhkcnekaaGreatDoorWords
namespace Go.Proofs.YtbdcgdjhkcnekaaGreatDoor
open Go.RowKit

theorem lineD_len (s : StepD) (hs : s.ok) (h1 : 1 ≤ s.kind) (h20 : s.kind ≤ 20) : (lineD s).length ≤ 120 := by
  have h0 := word_len (s.kind.toNat - 1) (by omega)
  rw [show s.kind.toNat - 1 + 1 = s.kind.toNat by omega] at h0
  have ha := itoa_len hs.2.1.1 hs.2.1.2
  have hb := itoa_len hs.2.2.1.1 hs.2.2.1.2
  have hc := itoa_len hs.2.2.2.1.1 hs.2.2.2.1.2
  have hd := itoa_len hs.2.2.2.2.1 hs.2.2.2.2.2
  unfold lineD
  simp only [List.length_append, List.length_cons, List.length_nil]
  omega

def stepsL (n : Nat) (f : Nat → StepD) : List StepD := (List.range n).map f

theorem stepsL_len (n : Nat) (f : Nat → StepD) : (stepsL n f).length = n := by simp [stepsL]
theorem stepsL_drop {n k : Nat} (f : Nat → StepD) (h : k < n) : (stepsL n f).drop k = f k :: (stepsL n f).drop (k + 1) := by
  rw [List.drop_eq_getElem_cons (by rw [stepsL_len]; exact h)]
  simp [stepsL]
theorem stepsL_end (n : Nat) (f : Nat → StepD) : (stepsL n f).drop n = [] := List.drop_of_length_le (by rw [stepsL_len]; exact Nat.le_refl _)

theorem ba_append (x y : List UInt8) : ((⟨x.toArray⟩ : ByteArray) ++ ⟨y.toArray⟩) = ⟨(x ++ y).toArray⟩ := by
  apply ByteArray.ext
  rw [ByteArray.data_append]
  simp

theorem textGo_bad {acc : List UInt8} {s : StepD} {r : List StepD} (h : s.kind < 1 ∨ 20 < s.kind) : textGo acc (s :: r) = ([], 1) := by rw [textGo, if_pos h]
theorem textGo_long {acc : List UInt8} {s : StepD} {r : List StepD} (h : ¬ (s.kind < 1 ∨ 20 < s.kind)) (hl : 65536 < (acc ++ lineD s).length) : textGo acc (s :: r) = ([], 3) := by rw [textGo, if_neg h, if_pos hl]
theorem textGo_next {acc : List UInt8} {s : StepD} {r : List StepD} (h : ¬ (s.kind < 1 ∨ 20 < s.kind)) (hl : ¬ 65536 < (acc ++ lineD s).length) : textGo acc (s :: r) = textGo (acc ++ lineD s) r := by rw [textGo, if_neg h, if_neg hl]

theorem tuple_eq {a : ByteArray} {e : Int} {r : List UInt8 × Int} (h : r = (a.data.toList, e)) : Ending.returned (.tuple #[.string a, .int .i64 e]) = Ending.returned (.tuple #[.string ⟨r.1.toArray⟩, .int .i64 r.2]) := by
  subst h
  rfl

end Go.Proofs.YtbdcgdjhkcnekaaGreatDoor
