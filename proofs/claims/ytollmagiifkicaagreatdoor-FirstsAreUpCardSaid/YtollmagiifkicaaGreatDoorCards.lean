/-
  DERIVED. GIVEN WITH THE SEED: THE CARDS: each row of YtollmagiifkicaaGreatDoorRows.lean that lists a variable, with what it lists TIED to the program's text (the seventh form; the later family's looks); each row that meets fmt, with fmt's text TOLD by the authors' own Lean function (tested against real Go, not proved from fmt's source: count such statements apart). THE CARD IS WHAT COUNTS. Prove the row's statement (the work); the ties are given (YtollmagiifkicaaGreatDoorTie.lean); close each card by the builder's one call (the guide's Derived/Test/ToyasCard.lean, 'card_holds'). Laid BY PROGRAM, IN A SANDBOX (cutbox-door.mjs). By AI agents, Wed Nov 11 2026. No macro, syntax, notation, axiom, sorry.
-/
import Derived.Test.YtollmagiifkicaaGreatDoorRows
import GoSem.ClaimSeven
namespace Go.Proofs.YtollmagiifkicaaGreatDoor
namespace Rows

/-- THE TIED CARD OF 'lanekeep1.TurnsFillTime'. -/
def turnsFillTimeCard : Claim7 := { stood := { row := turnsFillTimeRow, standIns := [], harness := (true, "587d687086d7ced90011f332377302222d664d70d921b0ef15722da53ec6b10f"), looks := true }, kinds := [], alts := [], laidByText := true, laidKinds := [.data, .data, .data, .data, .sentinel, .sentinel, .pinned], laidTests := true, laidLooks := .later }
def TurnsFillTimeCardSaid : Prop := Claim7.holds Tryz.pinned (.plain (OpenSpec.ofChange turnsFillTimeSpec)) turnsFillTimeCard

/-- THE TIED CARD OF 'lanekeep1.FirstsAreUp'. -/
def firstsAreUpCard : Claim7 := { stood := { row := firstsAreUpRow, standIns := [], harness := (true, "587d687086d7ced90011f332377302222d664d70d921b0ef15722da53ec6b10f"), looks := true }, kinds := [], alts := [], laidByText := true, laidKinds := [.data, .data, .data, .data, .sentinel, .sentinel, .pinned], laidTests := true, laidLooks := .later }
def FirstsAreUpCardSaid : Prop := Claim7.holds Tryz.pinned (.plain (OpenSpec.ofChange firstsAreUpSpec)) firstsAreUpCard

/-- THE TIED CARD OF 'lanekeep1.RoutesStay'. -/
def routesStayCard : Claim7 := { stood := { row := routesStayRow, standIns := [], harness := (true, "587d687086d7ced90011f332377302222d664d70d921b0ef15722da53ec6b10f"), looks := true }, kinds := [], alts := [], laidByText := true, laidKinds := [.data, .data, .data, .data, .sentinel, .sentinel, .pinned], laidTests := true, laidLooks := .later }
def RoutesStayCardSaid : Prop := Claim7.holds Tryz.pinned (.plain (OpenSpec.ofChange routesStaySpec)) routesStayCard

/-- THE SECOND FORM's CARD OF 'lanekeep1.TurnsFillTime'. -/
def turnsFillTimeUptoCard : Claim7 := { stood := { row := turnsFillTimeUptoRow, standIns := [], harness := (true, "587d687086d7ced90011f332377302222d664d70d921b0ef15722da53ec6b10f"), looks := true }, kinds := [], alts := [], laidByText := true, laidKinds := [.data, .data, .data, .data, .sentinel, .sentinel, .pinned], laidTests := true, laidLooks := .later }
def TurnsFillTimeUptoCardSaid : Prop := Claim7.holds Tryz.pinned (.plain (OpenSpec.upto turnsFillTimeSpec)) turnsFillTimeUptoCard

/-- THE SECOND FORM's CARD OF 'lanekeep1.FirstsAreUp'. -/
def firstsAreUpUptoCard : Claim7 := { stood := { row := firstsAreUpUptoRow, standIns := [], harness := (true, "587d687086d7ced90011f332377302222d664d70d921b0ef15722da53ec6b10f"), looks := true }, kinds := [], alts := [], laidByText := true, laidKinds := [.data, .data, .data, .data, .sentinel, .sentinel, .pinned], laidTests := true, laidLooks := .later }
def FirstsAreUpUptoCardSaid : Prop := Claim7.holds Tryz.pinned (.plain (OpenSpec.upto firstsAreUpSpec)) firstsAreUpUptoCard

/-- THE SECOND FORM's CARD OF 'lanekeep1.RoutesStay'. -/
def routesStayUptoCard : Claim7 := { stood := { row := routesStayUptoRow, standIns := [], harness := (true, "587d687086d7ced90011f332377302222d664d70d921b0ef15722da53ec6b10f"), looks := true }, kinds := [], alts := [], laidByText := true, laidKinds := [.data, .data, .data, .data, .sentinel, .sentinel, .pinned], laidTests := true, laidLooks := .later }
def RoutesStayUptoCardSaid : Prop := Claim7.holds Tryz.pinned (.plain (OpenSpec.upto routesStaySpec)) routesStayUptoCard
end Rows
end Go.Proofs.YtollmagiifkicaaGreatDoor
