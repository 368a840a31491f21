/-
  DERIVED. GIVEN WITH THE SEED: THE CARDS: each row of YthjfnlbekbhmgaaGreatDoorRows.lean that lists a variable, with what it lists TIED to the program's text (the seventh form; the later family's looks); each row that meets fmt, with fmt's text TOLD by the authors' own Lean function (tested against real Go, not proved from fmt's source: count such statements apart). THE CARD IS WHAT COUNTS. Prove the row's statement (the work); the ties are given (YthjfnlbekbhmgaaGreatDoorTie.lean); close each card by the builder's one call (the guide's Derived/Test/ToyasCard.lean, 'card_holds'). Laid BY PROGRAM, IN A SANDBOX (cutbox-door.mjs). By AI agents, Wed Nov 11 2026. No macro, syntax, notation, axiom, sorry.
-/
import Derived.Test.YthjfnlbekbhmgaaGreatDoorRows
import GoSem.ClaimSeven
namespace Go.Proofs.YthjfnlbekbhmgaaGreatDoor
namespace Rows

/-- THE TIED CARD OF 'lanekeep2.LessIsKept'. -/
def lessIsKeptCard : Claim7 := { stood := { row := lessIsKeptRow, standIns := [], harness := (true, "dac176c1b2cbb78c858e3437fcb9c6160f71f32b2ccfd45d049f7e750138ea62"), looks := true }, kinds := [], alts := [], laidByText := true, laidKinds := [.data, .data, .data, .data, .sentinel, .sentinel, .pinned], laidTests := true, laidLooks := .later }
def LessIsKeptCardSaid : Prop := Claim7.holds Tryz.pinned (.plain (OpenSpec.ofChange lessIsKeptSpec)) lessIsKeptCard

/-- THE TIED CARD OF 'lanekeep2.ReportsComeBack'. -/
def reportsComeBackCard : Claim7 := { stood := { row := reportsComeBackRow, standIns := [], harness := (true, "dac176c1b2cbb78c858e3437fcb9c6160f71f32b2ccfd45d049f7e750138ea62"), looks := true }, kinds := [], alts := [], laidByText := true, laidKinds := [.data, .data, .data, .data, .sentinel, .sentinel, .pinned], laidTests := true, laidLooks := .later }
def ReportsComeBackCardSaid : Prop := Claim7.holds Tryz.pinned (.plain (OpenSpec.ofChange reportsComeBackSpec)) reportsComeBackCard

/-- THE SECOND FORM's CARD OF 'lanekeep2.LessIsKept'. -/
def lessIsKeptUptoCard : Claim7 := { stood := { row := lessIsKeptUptoRow, standIns := [], harness := (true, "dac176c1b2cbb78c858e3437fcb9c6160f71f32b2ccfd45d049f7e750138ea62"), looks := true }, kinds := [], alts := [], laidByText := true, laidKinds := [.data, .data, .data, .data, .sentinel, .sentinel, .pinned], laidTests := true, laidLooks := .later }
def LessIsKeptUptoCardSaid : Prop := Claim7.holds Tryz.pinned (.plain (OpenSpec.upto lessIsKeptSpec)) lessIsKeptUptoCard

/-- THE SECOND FORM's CARD OF 'lanekeep2.ReportsComeBack'. -/
def reportsComeBackUptoCard : Claim7 := { stood := { row := reportsComeBackUptoRow, standIns := [], harness := (true, "dac176c1b2cbb78c858e3437fcb9c6160f71f32b2ccfd45d049f7e750138ea62"), looks := true }, kinds := [], alts := [], laidByText := true, laidKinds := [.data, .data, .data, .data, .sentinel, .sentinel, .pinned], laidTests := true, laidLooks := .later }
def ReportsComeBackUptoCardSaid : Prop := Claim7.holds Tryz.pinned (.plain (OpenSpec.upto reportsComeBackSpec)) reportsComeBackUptoCard
end Rows
end Go.Proofs.YthjfnlbekbhmgaaGreatDoor
