/-
  DERIVED. GIVEN WITH THE SEED: THE CARDS: each row of YtedpjecbfcogcaaGreatDoorRows.lean that lists a variable, with what it lists TIED to the program's text (the seventh form; the later family's looks); each row that meets fmt, with fmt's text TOLD by the authors' own Lean function (tested against real Go, not proved from fmt's source: count such statements apart). THE CARD IS WHAT COUNTS. Prove the row's statement (the work); the ties are given (YtedpjecbfcogcaaGreatDoorTie.lean); close each card by the builder's one call (the guide's Derived/Test/ToyasCard.lean, 'card_holds'). Laid BY PROGRAM, IN A SANDBOX (cutbox-door.mjs). By AI agents, Wed Nov 11 2026. No macro, syntax, notation, axiom, sorry.
-/
import Derived.Test.YtedpjecbfcogcaaGreatDoorRows
import GoSem.ClaimSeven
namespace Go.Proofs.YtedpjecbfcogcaaGreatDoor
namespace Rows

/-- THE TIED CARD OF 'lanekeep1.CachesAreTrue'. -/
def cachesAreTrueCard : Claim7 := { stood := { row := cachesAreTrueRow, standIns := [], harness := (true, "a80f312a3c4a7c190daf587b81a8082becbf4ca2add0c1166406d73b9d8a7a27"), looks := true }, kinds := [], alts := [], laidByText := true, laidKinds := [.data, .data, .data, .data, .sentinel, .sentinel, .pinned], laidTests := true, laidLooks := .later }
def CachesAreTrueCardSaid : Prop := Claim7.holds Tryz.pinned (.plain (OpenSpec.ofChange cachesAreTrueSpec)) cachesAreTrueCard

/-- THE SECOND FORM's CARD OF 'lanekeep1.CachesAreTrue'. -/
def cachesAreTrueUptoCard : Claim7 := { stood := { row := cachesAreTrueUptoRow, standIns := [], harness := (true, "a80f312a3c4a7c190daf587b81a8082becbf4ca2add0c1166406d73b9d8a7a27"), looks := true }, kinds := [], alts := [], laidByText := true, laidKinds := [.data, .data, .data, .data, .sentinel, .sentinel, .pinned], laidTests := true, laidLooks := .later }
def CachesAreTrueUptoCardSaid : Prop := Claim7.holds Tryz.pinned (.plain (OpenSpec.upto cachesAreTrueSpec)) cachesAreTrueUptoCard
end Rows
end Go.Proofs.YtedpjecbfcogcaaGreatDoor
