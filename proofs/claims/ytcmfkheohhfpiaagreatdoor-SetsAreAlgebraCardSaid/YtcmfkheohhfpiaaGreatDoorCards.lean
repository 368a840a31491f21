/-
  DERIVED. GIVEN WITH THE SEED: THE CARDS: each row of YtcmfkheohhfpiaaGreatDoorRows.lean that lists a variable, with what it lists TIED to the program's text (the seventh form; the later family's looks); each row that meets fmt, with fmt's text TOLD by the authors' own Lean function (tested against real Go, not proved from fmt's source: count such statements apart). THE CARD IS WHAT COUNTS. Prove the row's statement (the work); the ties are given (YtcmfkheohhfpiaaGreatDoorTie.lean); close each card by the builder's one call (the guide's Derived/Test/ToyasCard.lean, 'card_holds'). Laid BY PROGRAM, IN A SANDBOX (cutbox-door.mjs). By AI agents, Wed Nov 11 2026. No macro, syntax, notation, axiom, sorry.
-/
import Derived.Test.YtcmfkheohhfpiaaGreatDoorRows
import GoSem.ClaimSeven
namespace Go.Proofs.YtcmfkheohhfpiaaGreatDoor
namespace Rows

/-- THE TIED CARD OF 'lanekeep2.SetsHold'. -/
def setsHoldCard : Claim7 := { stood := { row := setsHoldRow, standIns := [], harness := (true, "e75171f5a89a6e4214e114ffddb9ecd44b14e5b974a099349bb29a3eaf4dfb90"), looks := true }, kinds := [], alts := [], laidByText := true, laidKinds := [.data, .data, .data, .data, .sentinel, .sentinel, .pinned], laidTests := true, laidLooks := .later }
def SetsHoldCardSaid : Prop := Claim7.holds Tryz.pinned (.plain (OpenSpec.ofChange setsHoldSpec)) setsHoldCard

/-- THE TIED CARD OF 'lanekeep2.SetsAreAlgebra'. -/
def setsAreAlgebraCard : Claim7 := { stood := { row := setsAreAlgebraRow, standIns := [], harness := (true, "e75171f5a89a6e4214e114ffddb9ecd44b14e5b974a099349bb29a3eaf4dfb90"), looks := true }, kinds := [], alts := [], laidByText := true, laidKinds := [.data, .data, .data, .data, .sentinel, .sentinel, .pinned], laidTests := true, laidLooks := .later }
def SetsAreAlgebraCardSaid : Prop := Claim7.holds Tryz.pinned (.plain (OpenSpec.ofChange setsAreAlgebraSpec)) setsAreAlgebraCard

/-- THE SECOND FORM's CARD OF 'lanekeep2.SetsHold'. -/
def setsHoldUptoCard : Claim7 := { stood := { row := setsHoldUptoRow, standIns := [], harness := (true, "e75171f5a89a6e4214e114ffddb9ecd44b14e5b974a099349bb29a3eaf4dfb90"), looks := true }, kinds := [], alts := [], laidByText := true, laidKinds := [.data, .data, .data, .data, .sentinel, .sentinel, .pinned], laidTests := true, laidLooks := .later }
def SetsHoldUptoCardSaid : Prop := Claim7.holds Tryz.pinned (.plain (OpenSpec.upto setsHoldSpec)) setsHoldUptoCard

/-- THE SECOND FORM's CARD OF 'lanekeep2.SetsAreAlgebra'. -/
def setsAreAlgebraUptoCard : Claim7 := { stood := { row := setsAreAlgebraUptoRow, standIns := [], harness := (true, "e75171f5a89a6e4214e114ffddb9ecd44b14e5b974a099349bb29a3eaf4dfb90"), looks := true }, kinds := [], alts := [], laidByText := true, laidKinds := [.data, .data, .data, .data, .sentinel, .sentinel, .pinned], laidTests := true, laidLooks := .later }
def SetsAreAlgebraUptoCardSaid : Prop := Claim7.holds Tryz.pinned (.plain (OpenSpec.upto setsAreAlgebraSpec)) setsAreAlgebraUptoCard
end Rows
end Go.Proofs.YtcmfkheohhfpiaaGreatDoor
