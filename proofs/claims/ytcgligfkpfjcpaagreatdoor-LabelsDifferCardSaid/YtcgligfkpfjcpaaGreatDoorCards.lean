/-
  DERIVED. GIVEN WITH THE SEED: THE CARDS: each row of YtcgligfkpfjcpaaGreatDoorRows.lean that lists a variable, with what it lists TIED to the program's text (the seventh form; the later family's looks); each row that meets fmt, with fmt's text TOLD by the authors' own Lean function (tested against real Go, not proved from fmt's source: count such statements apart). THE CARD IS WHAT COUNTS. Prove the row's statement (the work); the ties are given (YtcgligfkpfjcpaaGreatDoorTie.lean); close each card by the builder's one call (the guide's Derived/Test/ToyasCard.lean, 'card_holds'). Laid BY PROGRAM, IN A SANDBOX (cutbox-door.mjs). By AI agents, Wed Nov 11 2026. No macro, syntax, notation, axiom, sorry.
-/
import Derived.Test.YtcgligfkpfjcpaaGreatDoorRows
import GoSem.ClaimSeven
namespace Go.Proofs.YtcgligfkpfjcpaaGreatDoor
namespace Rows

/-- THE TIED CARD OF 'lanekeep1.LabelsDiffer'. -/
def labelsDifferCard : Claim7 := { stood := { row := labelsDifferRow, standIns := [], harness := (true, "5fa697bd8e69f7b7caca9c20388aa0703f5c6bab79c6d375a6419b34e0daa393"), looks := true }, kinds := [], alts := [], laidByText := true, laidKinds := [.data, .data, .data, .data, .sentinel, .sentinel, .pinned], laidTests := true, laidLooks := .later }
def LabelsDifferCardSaid : Prop := Claim7.holds Tryz.pinned (.plain (OpenSpec.ofChange labelsDifferSpec)) labelsDifferCard

/-- THE SECOND FORM's CARD OF 'lanekeep1.LabelsDiffer'. -/
def labelsDifferUptoCard : Claim7 := { stood := { row := labelsDifferUptoRow, standIns := [], harness := (true, "5fa697bd8e69f7b7caca9c20388aa0703f5c6bab79c6d375a6419b34e0daa393"), looks := true }, kinds := [], alts := [], laidByText := true, laidKinds := [.data, .data, .data, .data, .sentinel, .sentinel, .pinned], laidTests := true, laidLooks := .later }
def LabelsDifferUptoCardSaid : Prop := Claim7.holds Tryz.pinned (.plain (OpenSpec.upto labelsDifferSpec)) labelsDifferUptoCard
end Rows
end Go.Proofs.YtcgligfkpfjcpaaGreatDoor
