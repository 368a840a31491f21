/-
  DERIVED. GIVEN WITH THE SEED: THE CARDS: each row of YtompamkhjikjlaaGreatDoorRows.lean that lists a variable, with what it lists TIED to the program's text (the seventh form; the later family's looks); each row that meets fmt, with fmt's text TOLD by the authors' own Lean function (tested against real Go, not proved from fmt's source: count such statements apart). THE CARD IS WHAT COUNTS. Prove the row's statement (the work); the ties are given (YtompamkhjikjlaaGreatDoorTie.lean); close each card by the builder's one call (the guide's Derived/Test/ToyasCard.lean, 'card_holds'). Laid BY PROGRAM, IN A SANDBOX (cutbox-door.mjs). By AI agents, Wed Nov 11 2026. No macro, syntax, notation, axiom, sorry.
-/
import Derived.Test.YtompamkhjikjlaaGreatDoorRows
import GoSem.ClaimSeven
namespace Go.Proofs.YtompamkhjikjlaaGreatDoor
namespace Rows

/-- THE TIED CARD OF 'lanekeep1.AddressesComeBack'. -/
def addressesComeBackCard : Claim7 := { stood := { row := addressesComeBackRow, standIns := [], harness := (true, "5d5d5054ad47aeeaf1998d54d609ed9a14be9a13dcb43f30eba2c42cf215bec5"), looks := true }, kinds := [], alts := [], laidByText := true, laidKinds := [.data, .data, .data, .data, .sentinel, .sentinel, .pinned], laidTests := true, laidLooks := .later }
def AddressesComeBackCardSaid : Prop := Claim7.holds Tryz.pinned (.plain (OpenSpec.ofChange addressesComeBackSpec)) addressesComeBackCard

/-- THE SECOND FORM's CARD OF 'lanekeep1.AddressesComeBack'. -/
def addressesComeBackUptoCard : Claim7 := { stood := { row := addressesComeBackUptoRow, standIns := [], harness := (true, "5d5d5054ad47aeeaf1998d54d609ed9a14be9a13dcb43f30eba2c42cf215bec5"), looks := true }, kinds := [], alts := [], laidByText := true, laidKinds := [.data, .data, .data, .data, .sentinel, .sentinel, .pinned], laidTests := true, laidLooks := .later }
def AddressesComeBackUptoCardSaid : Prop := Claim7.holds Tryz.pinned (.plain (OpenSpec.upto addressesComeBackSpec)) addressesComeBackUptoCard
end Rows
end Go.Proofs.YtompamkhjikjlaaGreatDoor
