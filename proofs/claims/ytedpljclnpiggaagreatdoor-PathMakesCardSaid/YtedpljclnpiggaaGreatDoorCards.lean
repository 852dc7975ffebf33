/-
  DERIVED. GIVEN WITH THE SEED: THE CARDS: each row of YtedpljclnpiggaaGreatDoorRows.lean that lists a variable, with what it lists TIED to the program's text (the seventh form; the later family's looks); each row that meets fmt, with fmt's text TOLD by the authors' own Lean function (tested against real Go, not proved from fmt's source: count such statements apart). THE CARD IS WHAT COUNTS. Prove the row's statement (the work); the ties are given (YtedpljclnpiggaaGreatDoorTie.lean); close each card by the builder's one call (the guide's Derived/Test/ToyasCard.lean, 'card_holds'). Laid BY PROGRAM, IN A SANDBOX (cutbox-door.mjs). By AI agents, Wed Nov 11 2026. No macro, syntax, notation, axiom, sorry.
-/
import Derived.Test.YtedpljclnpiggaaGreatDoorRows
import GoSem.ClaimSeven
namespace Go.Proofs.YtedpljclnpiggaaGreatDoor
namespace Rows

/-- THE TIED CARD OF 'phratrylaw09.PathSecrets'. -/
def pathSecretsCard : Claim7 := { stood := { row := pathSecretsRow, standIns := [], harness := (true, "e987d7dadcb4d2565f567b1486550d52429927b934d4fd55392bbe3e794e3897"), looks := false }, kinds := [], alts := [], laidByText := true, laidKinds := [.data], laidTests := true, laidLooks := .later }
def PathSecretsCardSaid : Prop := Claim7.holds Tryz.pinned (.plain (OpenSpec.ofChange pathSecretsSpec)) pathSecretsCard

/-- THE TIED CARD OF 'phratrylaw09.PathAbove'. -/
def pathAboveCard : Claim7 := { stood := { row := pathAboveRow, standIns := [], harness := (true, "e987d7dadcb4d2565f567b1486550d52429927b934d4fd55392bbe3e794e3897"), looks := false }, kinds := [], alts := [], laidByText := true, laidKinds := [.data], laidTests := true, laidLooks := .later }
def PathAboveCardSaid : Prop := Claim7.holds Tryz.pinned (.plain (OpenSpec.ofChange pathAboveSpec)) pathAboveCard

/-- THE TIED CARD OF 'phratrylaw09.PathMakes'. -/
def pathMakesCard : Claim7 := { stood := { row := pathMakesRow, standIns := [], harness := (true, "e987d7dadcb4d2565f567b1486550d52429927b934d4fd55392bbe3e794e3897"), looks := false }, kinds := [], alts := [], laidByText := true, laidKinds := [.data, .data, .data], laidTests := true, laidLooks := .later }
def PathMakesCardSaid : Prop := Claim7.holds Tryz.pinned (.plain (OpenSpec.ofChange pathMakesSpec)) pathMakesCard

/-- THE SECOND FORM's CARD OF 'phratrylaw09.PathSecrets'. -/
def pathSecretsUptoCard : Claim7 := { stood := { row := pathSecretsUptoRow, standIns := [], harness := (true, "e987d7dadcb4d2565f567b1486550d52429927b934d4fd55392bbe3e794e3897"), looks := false }, kinds := [], alts := [], laidByText := true, laidKinds := [.data], laidTests := true, laidLooks := .later }
def PathSecretsUptoCardSaid : Prop := Claim7.holds Tryz.pinned (.plain (OpenSpec.upto pathSecretsSpec)) pathSecretsUptoCard

/-- THE SECOND FORM's CARD OF 'phratrylaw09.PathAbove'. -/
def pathAboveUptoCard : Claim7 := { stood := { row := pathAboveUptoRow, standIns := [], harness := (true, "e987d7dadcb4d2565f567b1486550d52429927b934d4fd55392bbe3e794e3897"), looks := false }, kinds := [], alts := [], laidByText := true, laidKinds := [.data], laidTests := true, laidLooks := .later }
def PathAboveUptoCardSaid : Prop := Claim7.holds Tryz.pinned (.plain (OpenSpec.upto pathAboveSpec)) pathAboveUptoCard

/-- THE SECOND FORM's CARD OF 'phratrylaw09.PathMakes'. -/
def pathMakesUptoCard : Claim7 := { stood := { row := pathMakesUptoRow, standIns := [], harness := (true, "e987d7dadcb4d2565f567b1486550d52429927b934d4fd55392bbe3e794e3897"), looks := false }, kinds := [], alts := [], laidByText := true, laidKinds := [.data, .data, .data], laidTests := true, laidLooks := .later }
def PathMakesUptoCardSaid : Prop := Claim7.holds Tryz.pinned (.plain (OpenSpec.upto pathMakesSpec)) pathMakesUptoCard
end Rows
end Go.Proofs.YtedpljclnpiggaaGreatDoor
