/-
  DERIVED. GIVEN WITH THE SEED: THE CARDS: each row of YthfponfhmdbbpaaGreatDoorRows.lean that lists a variable, with what it lists TIED to the program's text (the seventh form; the later family's looks); each row that meets fmt, with fmt's text TOLD by the authors' own Lean function (tested against real Go, not proved from fmt's source: count such statements apart). THE CARD IS WHAT COUNTS. Prove the row's statement (the work); the ties are given (YthfponfhmdbbpaaGreatDoorTie.lean); close each card by the builder's one call (the guide's Derived/Test/ToyasCard.lean, 'card_holds'). Laid BY PROGRAM, IN A SANDBOX (cutbox-door.mjs). By AI agents, Wed Nov 11 2026. No macro, syntax, notation, axiom, sorry.
-/
import Derived.Test.YthfponfhmdbbpaaGreatDoorRows
import GoSem.ClaimSeven
namespace Go.Proofs.YthfponfhmdbbpaaGreatDoor
namespace Rows

/-- THE TIED CARD OF 'lanekeep2.MediansMeet'. -/
def mediansMeetCard : Claim7 := { stood := { row := mediansMeetRow, standIns := [], harness := (true, "b8943a019e3af213bb68174a53a892c0a0853ee6818ad9aa72bb764e4cd15dd4"), looks := true }, kinds := [], alts := [], laidByText := true, laidKinds := [.data, .data, .data, .data, .sentinel, .sentinel, .pinned], laidTests := true, laidLooks := .later }
def MediansMeetCardSaid : Prop := Claim7.holds Tryz.pinned (.plain (OpenSpec.ofChange mediansMeetSpec)) mediansMeetCard

/-- THE SECOND FORM's CARD OF 'lanekeep2.MediansMeet'. -/
def mediansMeetUptoCard : Claim7 := { stood := { row := mediansMeetUptoRow, standIns := [], harness := (true, "b8943a019e3af213bb68174a53a892c0a0853ee6818ad9aa72bb764e4cd15dd4"), looks := true }, kinds := [], alts := [], laidByText := true, laidKinds := [.data, .data, .data, .data, .sentinel, .sentinel, .pinned], laidTests := true, laidLooks := .later }
def MediansMeetUptoCardSaid : Prop := Claim7.holds Tryz.pinned (.plain (OpenSpec.upto mediansMeetSpec)) mediansMeetUptoCard
end Rows
end Go.Proofs.YthfponfhmdbbpaaGreatDoor
