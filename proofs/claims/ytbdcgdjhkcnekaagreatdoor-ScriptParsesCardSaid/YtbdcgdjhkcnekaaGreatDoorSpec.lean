/-
  The chapter's answer for scripts as text, in plain Lean: the words, a step's line, a script's text.
-/
import Derived.Lib.ItoaNum
import Derived.Test.YtbdcgdjhkcnekaaGreatDoorTw
namespace Go.Proofs.YtbdcgdjhkcnekaaGreatDoor
open Go

/-- The words of the kinds, from 1 on. -/
def wordTab : List (List UInt8) := [[111, 112, 101, 110], [108, 105, 110, 107], [114, 101, 118, 111, 107, 101], [99, 114, 101, 97, 116, 101], [105, 110, 118, 105, 116, 101], [101, 120, 112, 101, 108], [114, 101, 102, 114, 101, 115, 104], [97, 115, 107], [110, 111, 116, 101], [102, 97, 99, 101], [114, 101, 106, 111, 105, 110], [101, 110, 116, 101, 114], [116, 105, 99, 107], [100, 101, 108, 105, 118, 101, 114], [100, 114, 111, 112], [99, 111, 112, 121], [99, 117, 116], [99, 114, 97, 115, 104], [114, 101, 115, 116, 97, 114, 116], [119, 105, 112, 101]]
def word (k : Nat) : List UInt8 := wordTab.getD (k - 1) []

def lineD (s : StepD) : List UInt8 :=
  word s.kind.toNat ++ (32 :: (Lib.itoa s.node ++ (32 :: (Lib.itoa s.a ++ (32 :: (Lib.itoa s.b ++ (32 :: (Lib.itoa s.l ++ [10]))))))))

/-- A script's text, and its error: behind what is there. -/
def textGo (acc : List UInt8) : List StepD → List UInt8 × Int
  | [] => (acc, 0)
  | s :: r => if s.kind < 1 ∨ 20 < s.kind then ([], 1) else if 65536 < (acc ++ lineD s).length then ([], 3) else textGo (acc ++ lineD s) r
def textD (l : List StepD) : List UInt8 × Int := if 2048 < l.length then ([], 3) else textGo [] l

end Go.Proofs.YtbdcgdjhkcnekaaGreatDoor
