/-
  DERIVED. GIVEN WITH THE SEED: THE CARDS: each row of YtgmejjemepffkaaGreatDoorRows.lean that lists a variable, with what it lists TIED to the program's text (the seventh form; the later family's looks); each row that meets fmt, with fmt's text TOLD by the authors' own Lean function (tested against real Go, not proved from fmt's source: count such statements apart). THE CARD IS WHAT COUNTS. Prove the row's statement (the work); the ties are given (YtgmejjemepffkaaGreatDoorTie.lean); close each card by the builder's one call (the guide's Derived/Test/ToyasCard.lean, 'card_holds'). Laid BY PROGRAM, IN A SANDBOX (cutbox-door.mjs). By AI agents, Wed Nov 11 2026. No macro, syntax, notation, axiom, sorry.
-/
import Derived.Test.YtgmejjemepffkaaGreatDoorRows
import GoSem.ClaimSeven
namespace Go.Proofs.YtgmejjemepffkaaGreatDoor
namespace Rows

/-- THE TIED CARD OF 'lanekeep1.TrailsAreShortest'. -/
def trailsAreShortestCard : Claim7 := { stood := { row := trailsAreShortestRow, standIns := [], harness := (true, "031a6d0db9f10b6e86a5880cb2a945bee69c138008c5ce3f7da3ad3a8b16ebb7"), looks := true }, kinds := [], alts := [], laidByText := true, laidKinds := [.data, .data, .data, .data, .sentinel, .sentinel, .pinned], laidTests := true, laidLooks := .later }
def TrailsAreShortestCardSaid : Prop := Claim7.holds Tryz.pinned (.plain (OpenSpec.ofChange trailsAreShortestSpec)) trailsAreShortestCard

/-- THE SECOND FORM's CARD OF 'lanekeep1.TrailsAreShortest'. -/
def trailsAreShortestUptoCard : Claim7 := { stood := { row := trailsAreShortestUptoRow, standIns := [], harness := (true, "031a6d0db9f10b6e86a5880cb2a945bee69c138008c5ce3f7da3ad3a8b16ebb7"), looks := true }, kinds := [], alts := [], laidByText := true, laidKinds := [.data, .data, .data, .data, .sentinel, .sentinel, .pinned], laidTests := true, laidLooks := .later }
def TrailsAreShortestUptoCardSaid : Prop := Claim7.holds Tryz.pinned (.plain (OpenSpec.upto trailsAreShortestSpec)) trailsAreShortestUptoCard
end Rows
end Go.Proofs.YtgmejjemepffkaaGreatDoor
