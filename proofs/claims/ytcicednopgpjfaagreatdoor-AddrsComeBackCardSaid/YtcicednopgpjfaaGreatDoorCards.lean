/-
  DERIVED. GIVEN WITH THE SEED: THE CARDS: each row of YtcicednopgpjfaaGreatDoorRows.lean that lists a variable, with what it lists TIED to the program's text (the seventh form; the later family's looks); each row that meets fmt, with fmt's text TOLD by the authors' own Lean function (tested against real Go, not proved from fmt's source: count such statements apart). THE CARD IS WHAT COUNTS. Prove the row's statement (the work); the ties are given (YtcicednopgpjfaaGreatDoorTie.lean); close each card by the builder's one call (the guide's Derived/Test/ToyasCard.lean, 'card_holds'). Laid BY PROGRAM, IN A SANDBOX (cutbox-door.mjs). By AI agents, Wed Nov 11 2026. No macro, syntax, notation, axiom, sorry.
-/
import Derived.Test.YtcicednopgpjfaaGreatDoorRows
import GoSem.ClaimSeven
namespace Go.Proofs.YtcicednopgpjfaaGreatDoor
namespace Rows

/-- THE TIED CARD OF 'lanekeep2.AddrsComeBack'. -/
def addrsComeBackCard : Claim7 := { stood := { row := addrsComeBackRow, standIns := [], harness := (true, "8945d1451a0bcc951c2531b72289f4543c7ec9a6259b4b1348b534b6a5b5d6d7"), looks := true }, kinds := [], alts := [], laidByText := true, laidKinds := [.data, .data, .data, .data, .sentinel, .sentinel, .pinned], laidTests := true, laidLooks := .later }
def AddrsComeBackCardSaid : Prop := Claim7.holds Tryz.pinned (.plain (OpenSpec.ofChange addrsComeBackSpec)) addrsComeBackCard

/-- THE SECOND FORM's CARD OF 'lanekeep2.AddrsComeBack'. -/
def addrsComeBackUptoCard : Claim7 := { stood := { row := addrsComeBackUptoRow, standIns := [], harness := (true, "8945d1451a0bcc951c2531b72289f4543c7ec9a6259b4b1348b534b6a5b5d6d7"), looks := true }, kinds := [], alts := [], laidByText := true, laidKinds := [.data, .data, .data, .data, .sentinel, .sentinel, .pinned], laidTests := true, laidLooks := .later }
def AddrsComeBackUptoCardSaid : Prop := Claim7.holds Tryz.pinned (.plain (OpenSpec.upto addrsComeBackSpec)) addrsComeBackUptoCard
end Rows
end Go.Proofs.YtcicednopgpjfaaGreatDoor
