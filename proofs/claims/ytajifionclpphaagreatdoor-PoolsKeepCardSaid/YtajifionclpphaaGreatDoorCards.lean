/-
  DERIVED. GIVEN WITH THE SEED: THE CARDS: each row of YtajifionclpphaaGreatDoorRows.lean that lists a variable, with what it lists TIED to the program's text (the seventh form; the later family's looks); each row that meets fmt, with fmt's text TOLD by the authors' own Lean function (tested against real Go, not proved from fmt's source: count such statements apart). THE CARD IS WHAT COUNTS. Prove the row's statement (the work); the ties are given (YtajifionclpphaaGreatDoorTie.lean); close each card by the builder's one call (the guide's Derived/Test/ToyasCard.lean, 'card_holds'). Laid BY PROGRAM, IN A SANDBOX (cutbox-door.mjs). By AI agents, Wed Nov 11 2026. No macro, syntax, notation, axiom, sorry.
-/
import Derived.Test.YtajifionclpphaaGreatDoorRows
import GoSem.ClaimSeven
namespace Go.Proofs.YtajifionclpphaaGreatDoor
namespace Rows

/-- THE TIED CARD OF 'lanekeep2.SetsHold'. -/
def setsHoldCard : Claim7 := { stood := { row := setsHoldRow, standIns := [], harness := (true, "4fac6c47591e17d5214b1f46c97595cc27ea5fd1d79b4c22eae3669e24fe64a8"), looks := true }, kinds := [], alts := [], laidByText := true, laidKinds := [.data, .data, .data, .data, .sentinel, .sentinel, .pinned], laidTests := true, laidLooks := .later }
def SetsHoldCardSaid : Prop := Claim7.holds Tryz.pinned (.plain (OpenSpec.ofChange setsHoldSpec)) setsHoldCard

/-- THE TIED CARD OF 'lanekeep2.PoolsKeep'. -/
def poolsKeepCard : Claim7 := { stood := { row := poolsKeepRow, standIns := [], harness := (true, "4fac6c47591e17d5214b1f46c97595cc27ea5fd1d79b4c22eae3669e24fe64a8"), looks := true }, kinds := [], alts := [], laidByText := true, laidKinds := [.data, .data, .data, .data, .sentinel, .sentinel, .pinned], laidTests := true, laidLooks := .later }
def PoolsKeepCardSaid : Prop := Claim7.holds Tryz.pinned (.plain (OpenSpec.ofChange poolsKeepSpec)) poolsKeepCard

/-- THE SECOND FORM's CARD OF 'lanekeep2.SetsHold'. -/
def setsHoldUptoCard : Claim7 := { stood := { row := setsHoldUptoRow, standIns := [], harness := (true, "4fac6c47591e17d5214b1f46c97595cc27ea5fd1d79b4c22eae3669e24fe64a8"), looks := true }, kinds := [], alts := [], laidByText := true, laidKinds := [.data, .data, .data, .data, .sentinel, .sentinel, .pinned], laidTests := true, laidLooks := .later }
def SetsHoldUptoCardSaid : Prop := Claim7.holds Tryz.pinned (.plain (OpenSpec.upto setsHoldSpec)) setsHoldUptoCard

/-- THE SECOND FORM's CARD OF 'lanekeep2.PoolsKeep'. -/
def poolsKeepUptoCard : Claim7 := { stood := { row := poolsKeepUptoRow, standIns := [], harness := (true, "4fac6c47591e17d5214b1f46c97595cc27ea5fd1d79b4c22eae3669e24fe64a8"), looks := true }, kinds := [], alts := [], laidByText := true, laidKinds := [.data, .data, .data, .data, .sentinel, .sentinel, .pinned], laidTests := true, laidLooks := .later }
def PoolsKeepUptoCardSaid : Prop := Claim7.holds Tryz.pinned (.plain (OpenSpec.upto poolsKeepSpec)) poolsKeepUptoCard
end Rows
end Go.Proofs.YtajifionclpphaaGreatDoor
