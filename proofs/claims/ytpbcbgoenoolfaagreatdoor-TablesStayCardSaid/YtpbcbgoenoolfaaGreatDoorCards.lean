/-
  DERIVED. GIVEN WITH THE SEED: THE CARDS: each row of YtpbcbgoenoolfaaGreatDoorRows.lean that lists a variable, with what it lists TIED to the program's text (the seventh form; the later family's looks); each row that meets fmt, with fmt's text TOLD by the authors' own Lean function (tested against real Go, not proved from fmt's source: count such statements apart). THE CARD IS WHAT COUNTS. Prove the row's statement (the work); the ties are given (YtpbcbgoenoolfaaGreatDoorTie.lean); close each card by the builder's one call (the guide's Derived/Test/ToyasCard.lean, 'card_holds'). Laid BY PROGRAM, IN A SANDBOX (cutbox-door.mjs). By AI agents, Wed Nov 11 2026. No macro, syntax, notation, axiom, sorry.
-/
import Derived.Test.YtpbcbgoenoolfaaGreatDoorRows
import GoSem.ClaimSeven
namespace Go.Proofs.YtpbcbgoenoolfaaGreatDoor
namespace Rows

/-- THE TIED CARD OF 'lanekeep2.TablesStay'. -/
def tablesStayCard : Claim7 := { stood := { row := tablesStayRow, standIns := [], harness := (true, "0d11e7a1ec13e2b67195fcebd9fc1b66022713914416dbba67c44a7ec1c816f3"), looks := true }, kinds := [], alts := [], laidByText := true, laidKinds := [.data, .data, .data, .data, .sentinel, .sentinel, .pinned], laidTests := true, laidLooks := .later }
def TablesStayCardSaid : Prop := Claim7.holds Tryz.pinned (.plain (OpenSpec.ofChange tablesStaySpec)) tablesStayCard

/-- THE SECOND FORM's CARD OF 'lanekeep2.TablesStay'. -/
def tablesStayUptoCard : Claim7 := { stood := { row := tablesStayUptoRow, standIns := [], harness := (true, "0d11e7a1ec13e2b67195fcebd9fc1b66022713914416dbba67c44a7ec1c816f3"), looks := true }, kinds := [], alts := [], laidByText := true, laidKinds := [.data, .data, .data, .data, .sentinel, .sentinel, .pinned], laidTests := true, laidLooks := .later }
def TablesStayUptoCardSaid : Prop := Claim7.holds Tryz.pinned (.plain (OpenSpec.upto tablesStaySpec)) tablesStayUptoCard
end Rows
end Go.Proofs.YtpbcbgoenoolfaaGreatDoor
