/-
  DERIVED. GIVEN WITH THE SEED: THE CARDS: each row of YtfakfhbcpldeoaaGreatDoorRows.lean that lists a variable, with what it lists TIED to the program's text (the seventh form; the later family's looks); each row that meets fmt, with fmt's text TOLD by the authors' own Lean function (tested against real Go, not proved from fmt's source: count such statements apart). THE CARD IS WHAT COUNTS. Prove the row's statement (the work); the ties are given (YtfakfhbcpldeoaaGreatDoorTie.lean); close each card by the builder's one call (the guide's Derived/Test/ToyasCard.lean, 'card_holds'). Laid BY PROGRAM, IN A SANDBOX (cutbox-door.mjs). By AI agents, Wed Nov 11 2026. No macro, syntax, notation, axiom, sorry.
-/
import Derived.Test.YtfakfhbcpldeoaaGreatDoorRows
import GoSem.ClaimSeven
namespace Go.Proofs.YtfakfhbcpldeoaaGreatDoor
namespace Rows

/-- THE TIED CARD OF 'lanekeep2.PacketsComeBack'. -/
def packetsComeBackCard : Claim7 := { stood := { row := packetsComeBackRow, standIns := [], harness := (true, "6b16a53f25c3eaf818f30c4d4d5eb0b2e2b08044222726e5aaaad7b710dbb178"), looks := true }, kinds := [], alts := [], laidByText := true, laidKinds := [.data, .data, .data, .data, .sentinel, .sentinel, .pinned], laidTests := true, laidLooks := .later }
def PacketsComeBackCardSaid : Prop := Claim7.holds Tryz.pinned (.plain (OpenSpec.ofChange packetsComeBackSpec)) packetsComeBackCard

/-- THE SECOND FORM's CARD OF 'lanekeep2.PacketsComeBack'. -/
def packetsComeBackUptoCard : Claim7 := { stood := { row := packetsComeBackUptoRow, standIns := [], harness := (true, "6b16a53f25c3eaf818f30c4d4d5eb0b2e2b08044222726e5aaaad7b710dbb178"), looks := true }, kinds := [], alts := [], laidByText := true, laidKinds := [.data, .data, .data, .data, .sentinel, .sentinel, .pinned], laidTests := true, laidLooks := .later }
def PacketsComeBackUptoCardSaid : Prop := Claim7.holds Tryz.pinned (.plain (OpenSpec.upto packetsComeBackSpec)) packetsComeBackUptoCard
end Rows
end Go.Proofs.YtfakfhbcpldeoaaGreatDoor
