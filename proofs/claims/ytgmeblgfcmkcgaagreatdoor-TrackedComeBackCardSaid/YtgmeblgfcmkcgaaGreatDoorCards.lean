/-
  DERIVED. GIVEN WITH THE SEED: THE CARDS: each row of YtgmeblgfcmkcgaaGreatDoorRows.lean that lists a variable, with what it lists TIED to the program's text (the seventh form; the later family's looks); each row that meets fmt, with fmt's text TOLD by the authors' own Lean function (tested against real Go, not proved from fmt's source: count such statements apart). THE CARD IS WHAT COUNTS. Prove the row's statement (the work); the ties are given (YtgmeblgfcmkcgaaGreatDoorTie.lean); close each card by the builder's one call (the guide's Derived/Test/ToyasCard.lean, 'card_holds'). Laid BY PROGRAM, IN A SANDBOX (cutbox-door.mjs). By AI agents, Wed Nov 11 2026. No macro, syntax, notation, axiom, sorry.
-/
import Derived.Test.YtgmeblgfcmkcgaaGreatDoorRows
import GoSem.ClaimSeven
namespace Go.Proofs.YtgmeblgfcmkcgaaGreatDoor
namespace Rows

/-- THE TIED CARD OF 'lanekeep2.TrackedComeBack'. -/
def trackedComeBackCard : Claim7 := { stood := { row := trackedComeBackRow, standIns := [], harness := (true, "37f0ff51c72fc0e664c2d0052c6cedf6f0e5b38397245e1d51875c0873f51bcd"), looks := true }, kinds := [], alts := [], laidByText := true, laidKinds := [.data, .data, .data, .data, .sentinel, .sentinel, .pinned], laidTests := true, laidLooks := .later }
def TrackedComeBackCardSaid : Prop := Claim7.holds Tryz.pinned (.plain (OpenSpec.ofChange trackedComeBackSpec)) trackedComeBackCard

/-- THE TIED CARD OF 'lanekeep2.PacketsComeBack'. -/
def packetsComeBackCard : Claim7 := { stood := { row := packetsComeBackRow, standIns := [], harness := (true, "37f0ff51c72fc0e664c2d0052c6cedf6f0e5b38397245e1d51875c0873f51bcd"), looks := true }, kinds := [], alts := [], laidByText := true, laidKinds := [.data, .data, .data, .data, .sentinel, .sentinel, .pinned], laidTests := true, laidLooks := .later }
def PacketsComeBackCardSaid : Prop := Claim7.holds Tryz.pinned (.plain (OpenSpec.ofChange packetsComeBackSpec)) packetsComeBackCard

/-- THE SECOND FORM's CARD OF 'lanekeep2.TrackedComeBack'. -/
def trackedComeBackUptoCard : Claim7 := { stood := { row := trackedComeBackUptoRow, standIns := [], harness := (true, "37f0ff51c72fc0e664c2d0052c6cedf6f0e5b38397245e1d51875c0873f51bcd"), looks := true }, kinds := [], alts := [], laidByText := true, laidKinds := [.data, .data, .data, .data, .sentinel, .sentinel, .pinned], laidTests := true, laidLooks := .later }
def TrackedComeBackUptoCardSaid : Prop := Claim7.holds Tryz.pinned (.plain (OpenSpec.upto trackedComeBackSpec)) trackedComeBackUptoCard

/-- THE SECOND FORM's CARD OF 'lanekeep2.PacketsComeBack'. -/
def packetsComeBackUptoCard : Claim7 := { stood := { row := packetsComeBackUptoRow, standIns := [], harness := (true, "37f0ff51c72fc0e664c2d0052c6cedf6f0e5b38397245e1d51875c0873f51bcd"), looks := true }, kinds := [], alts := [], laidByText := true, laidKinds := [.data, .data, .data, .data, .sentinel, .sentinel, .pinned], laidTests := true, laidLooks := .later }
def PacketsComeBackUptoCardSaid : Prop := Claim7.holds Tryz.pinned (.plain (OpenSpec.upto packetsComeBackSpec)) packetsComeBackUptoCard
end Rows
end Go.Proofs.YtgmeblgfcmkcgaaGreatDoor
