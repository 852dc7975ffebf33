/-
  DERIVED. GIVEN WITH THE SEED: THE CARDS: each row of YtagccbpjpcnmeaaGreatDoorRows.lean that lists a variable, with what it lists TIED to the program's text (the seventh form; the later family's looks); each row that meets fmt, with fmt's text TOLD by the authors' own Lean function (tested against real Go, not proved from fmt's source: count such statements apart). THE CARD IS WHAT COUNTS. Prove the row's statement (the work); the ties are given (YtagccbpjpcnmeaaGreatDoorTie.lean); close each card by the builder's one call (the guide's Derived/Test/ToyasCard.lean, 'card_holds'). Laid BY PROGRAM, IN A SANDBOX (cutbox-door.mjs). By AI agents, Wed Nov 11 2026. No macro, syntax, notation, axiom, sorry.
-/
import Derived.Test.YtagccbpjpcnmeaaGreatDoorRows
import GoSem.ClaimSeven
namespace Go.Proofs.YtagccbpjpcnmeaaGreatDoor
namespace Rows

/-- THE TIED CARD OF 'phratrylaw19.ClientSettles'. -/
def clientSettlesCard : Claim7 := { stood := { row := clientSettlesRow, standIns := [], harness := (true, "e43287992288491aee912db0ed6a0fe45c81a6b775a747ef49998f8547dcf365"), looks := false }, kinds := [], alts := [], laidByText := true, laidKinds := [.data], laidTests := true, laidLooks := .later }
def ClientSettlesCardSaid : Prop := Claim7.holds Tryz.pinned (.plain (OpenSpec.ofChange clientSettlesSpec)) clientSettlesCard

/-- THE TIED CARD OF 'phratrylaw19.ClientOpens'. -/
def clientOpensCard : Claim7 := { stood := { row := clientOpensRow, standIns := [], harness := (true, "e43287992288491aee912db0ed6a0fe45c81a6b775a747ef49998f8547dcf365"), looks := false }, kinds := [], alts := [], laidByText := true, laidKinds := [.data], laidTests := true, laidLooks := .later }
def ClientOpensCardSaid : Prop := Claim7.holds Tryz.pinned (.plain (OpenSpec.ofChange clientOpensSpec)) clientOpensCard

/-- THE SECOND FORM's CARD OF 'phratrylaw19.ClientSettles'. -/
def clientSettlesUptoCard : Claim7 := { stood := { row := clientSettlesUptoRow, standIns := [], harness := (true, "e43287992288491aee912db0ed6a0fe45c81a6b775a747ef49998f8547dcf365"), looks := false }, kinds := [], alts := [], laidByText := true, laidKinds := [.data], laidTests := true, laidLooks := .later }
def ClientSettlesUptoCardSaid : Prop := Claim7.holds Tryz.pinned (.plain (OpenSpec.upto clientSettlesSpec)) clientSettlesUptoCard

/-- THE SECOND FORM's CARD OF 'phratrylaw19.ClientOpens'. -/
def clientOpensUptoCard : Claim7 := { stood := { row := clientOpensUptoRow, standIns := [], harness := (true, "e43287992288491aee912db0ed6a0fe45c81a6b775a747ef49998f8547dcf365"), looks := false }, kinds := [], alts := [], laidByText := true, laidKinds := [.data], laidTests := true, laidLooks := .later }
def ClientOpensUptoCardSaid : Prop := Claim7.holds Tryz.pinned (.plain (OpenSpec.upto clientOpensSpec)) clientOpensUptoCard
end Rows
end Go.Proofs.YtagccbpjpcnmeaaGreatDoor
