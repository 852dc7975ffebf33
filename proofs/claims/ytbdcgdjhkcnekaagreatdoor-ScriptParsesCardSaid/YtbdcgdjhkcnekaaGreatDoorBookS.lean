/-
  phratrylaw01's Book: Steps.
-/
import Derived.Test.YtbdcgdjhkcnekaaGreatDoorBook
namespace Go.Proofs.YtbdcgdjhkcnekaaGreatDoor
open Go Go.RowKit

set_option maxHeartbeats 400000 in
theorem steps_any (b n : Nat) (hn : n ≤ 4) (lv : Value) (xs : List Value) (a : Option Addr) (len c : Nat) (w : World) (hb : BookAt w b n lv) (hown : w.ownsRow (b + 1) 96 2 lv n xs) :
    Calls Tryz.prog 7 #[.pointer (some ⟨b, 0, none⟩), .slice a len c] w fun e w' => e = .returned (.tuple #[]) ∧
      ∃ lv', BookAt w' b ((n : Int) + 1) lv' ∧ w'.ownsRow (b + 1) 96 2 lv' (n + 1) (xs ++ heldV (.slice a len c) n) ∧ Below b w w' := by
  have Hown := Lib.hid hown; clear hown
  have Hb := Lib.hid hb; clear hb
  go_enter Tryz.func7, Tryz.ntmps7
  go_wp2_with fail
  refine (keepStep_any b n hn lv xs a len c _ Hb.out Hown.out).mono ?_
  rintro e w1 ⟨rfl, lv', h1, h2, h3⟩
  have H1 := Lib.hid h1; clear h1
  have H2 := Lib.hid h2; clear h2
  have H3 := Lib.hid h3; clear h3
  go_wp2
  go_end0
  exact ⟨rfl, lv', H1.out, H2.out, H3.out⟩
end Go.Proofs.YtbdcgdjhkcnekaaGreatDoor
