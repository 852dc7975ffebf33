/-
  How a script's text is read, in plain Lean: a number, a step's line, the text; and that telling and reading are each other's back.
-/
import Derived.Lib.Split
import Derived.Lib.SplitLaws
import Derived.Lib.ParseIntBCases
import Derived.Test.YtbdcgdjhkcnekaaGreatDoorSpec
import Derived.Test.YtbdcgdjhkcnekaaGreatDoorKindsD
namespace Go.Proofs.YtbdcgdjhkcnekaaGreatDoor
open Go

def numD (l : List UInt8) : Option Int := match Lib.parseIntB 64 l with | .ok v => if Lib.itoa v = l then some v else none | _ => none

def stepN (k : List UInt8) (n a b c : Option Int) : Option StepD :=
  match n, a, b, c with
  | some n, some a, some b, some c => if wordIdx k = 0 then none else some ⟨wordIdx k, n, a, b, c⟩
  | _, _, _, _ => none

/-- The step of a line. -/
def stepD (l : List UInt8) : Option StepD :=
  match Lib.split l [32] with
  | [k, n, a, b, c] => stepN k (numD n) (numD a) (numD b) (numD c)
  | _ => none

/-- The steps of a text, behind those that were read; n: more than the text has bytes. -/
def parseGo : Nat → List StepD → List UInt8 → List StepD × Int × Int
  | 0, _, _ => ([], 0, 0)
  | n + 1, acc, s => if s = [] then (acc, 0, 0) else
    match stepD (Lib.cut s [10]).1 with
    | none => ([], acc.length, 4)
    | some t => if (Lib.cut s [10]).2.2 = false then ([], acc.length, 4) else if acc.length = 2048 then ([], acc.length, 3) else parseGo n (acc ++ [t]) (Lib.cut s [10]).2.1
def parseD (s : List UInt8) : List StepD × Int × Int := if 65536 < s.length then ([], 0, 3) else parseGo (s.length + 1) [] s

theorem parse_bound {l : List UInt8} {v : Int} (h : Lib.parseIntB 64 l = .ok v) : -9223372036854775808 ≤ v ∧ v ≤ 9223372036854775807 := by
  unfold Lib.parseIntB at h
  split at h
  · cases h
  · simp only at h
    split at h
    · cases h
    · cases h
    · split at h
      · cases h
      · split at h
        · cases h
        · injection h with h
          rename_i h1 h2
          by_cases hn : (UInt8.toNat ‹UInt8› = 45)
          · simp [hn] at h h2; omega
          · simp [hn] at h h1; omega

theorem numD_some {l : List UInt8} {v : Int} (h : numD l = some v) : Lib.parseIntB 64 l = .ok v ∧ Lib.itoa v = l := by
  unfold numD at h
  split at h
  · split at h
    · injection h with h; subst h; exact ⟨by assumption, by assumption⟩
    · cases h
  · cases h

theorem numD_bound {l : List UInt8} {v : Int} (h : numD l = some v) : -9223372036854775808 ≤ v ∧ v ≤ 9223372036854775807 := parse_bound (numD_some h).1
end Go.Proofs.YtbdcgdjhkcnekaaGreatDoor
