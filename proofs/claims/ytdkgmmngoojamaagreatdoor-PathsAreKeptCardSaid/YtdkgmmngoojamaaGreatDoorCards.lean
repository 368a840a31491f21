/-
  DERIVED. GIVEN WITH THE SEED: THE CARDS: each row of YtdkgmmngoojamaaGreatDoorRows.lean that lists a variable, with what it lists TIED to the program's text (the seventh form; the later family's looks); each row that meets fmt, with fmt's text TOLD by the authors' own Lean function (tested against real Go, not proved from fmt's source: count such statements apart). THE CARD IS WHAT COUNTS. Prove the row's statement (the work); the ties are given (YtdkgmmngoojamaaGreatDoorTie.lean); close each card by the builder's one call (the guide's Derived/Test/ToyasCard.lean, 'card_holds'). Laid BY PROGRAM, IN A SANDBOX (cutbox-door.mjs). By AI agents, Wed Nov 11 2026. No macro, syntax, notation, axiom, sorry.
-/
import Derived.Test.YtdkgmmngoojamaaGreatDoorRows
import GoSem.ClaimSeven
namespace Go.Proofs.YtdkgmmngoojamaaGreatDoor
namespace Rows

/-- THE TIED CARD OF 'lanekeep1.TurnsFillTime'. -/
def turnsFillTimeCard : Claim7 := { stood := { row := turnsFillTimeRow, standIns := [], harness := (true, "f1b4bdcd5160628da194cf22b63db448ccf02c62eede5d1186dbc9265e49140e"), looks := true }, kinds := [], alts := [], laidByText := true, laidKinds := [.data, .data, .data, .data, .sentinel, .sentinel, .pinned], laidTests := true, laidLooks := .later }
def TurnsFillTimeCardSaid : Prop := Claim7.holds Tryz.pinned (.plain (OpenSpec.ofChange turnsFillTimeSpec)) turnsFillTimeCard

/-- THE TIED CARD OF 'lanekeep1.FirstsAreUp'. -/
def firstsAreUpCard : Claim7 := { stood := { row := firstsAreUpRow, standIns := [], harness := (true, "f1b4bdcd5160628da194cf22b63db448ccf02c62eede5d1186dbc9265e49140e"), looks := true }, kinds := [], alts := [], laidByText := true, laidKinds := [.data, .data, .data, .data, .sentinel, .sentinel, .pinned], laidTests := true, laidLooks := .later }
def FirstsAreUpCardSaid : Prop := Claim7.holds Tryz.pinned (.plain (OpenSpec.ofChange firstsAreUpSpec)) firstsAreUpCard

/-- THE TIED CARD OF 'lanekeep1.RoutesStay'. -/
def routesStayCard : Claim7 := { stood := { row := routesStayRow, standIns := [], harness := (true, "f1b4bdcd5160628da194cf22b63db448ccf02c62eede5d1186dbc9265e49140e"), looks := true }, kinds := [], alts := [], laidByText := true, laidKinds := [.data, .data, .data, .data, .sentinel, .sentinel, .pinned], laidTests := true, laidLooks := .later }
def RoutesStayCardSaid : Prop := Claim7.holds Tryz.pinned (.plain (OpenSpec.ofChange routesStaySpec)) routesStayCard

/-- THE TIED CARD OF 'lanekeep1.PathsAreKept'. -/
def pathsAreKeptCard : Claim7 := { stood := { row := pathsAreKeptRow, standIns := [], harness := (true, "f1b4bdcd5160628da194cf22b63db448ccf02c62eede5d1186dbc9265e49140e"), looks := true }, kinds := [], alts := [], laidByText := true, laidKinds := [.data, .data, .data, .data, .sentinel, .sentinel, .pinned], laidTests := true, laidLooks := .later }
def PathsAreKeptCardSaid : Prop := Claim7.holds Tryz.pinned (.plain (OpenSpec.ofChange pathsAreKeptSpec)) pathsAreKeptCard

/-- THE SECOND FORM's CARD OF 'lanekeep1.TurnsFillTime'. -/
def turnsFillTimeUptoCard : Claim7 := { stood := { row := turnsFillTimeUptoRow, standIns := [], harness := (true, "f1b4bdcd5160628da194cf22b63db448ccf02c62eede5d1186dbc9265e49140e"), looks := true }, kinds := [], alts := [], laidByText := true, laidKinds := [.data, .data, .data, .data, .sentinel, .sentinel, .pinned], laidTests := true, laidLooks := .later }
def TurnsFillTimeUptoCardSaid : Prop := Claim7.holds Tryz.pinned (.plain (OpenSpec.upto turnsFillTimeSpec)) turnsFillTimeUptoCard

/-- THE SECOND FORM's CARD OF 'lanekeep1.FirstsAreUp'. -/
def firstsAreUpUptoCard : Claim7 := { stood := { row := firstsAreUpUptoRow, standIns := [], harness := (true, "f1b4bdcd5160628da194cf22b63db448ccf02c62eede5d1186dbc9265e49140e"), looks := true }, kinds := [], alts := [], laidByText := true, laidKinds := [.data, .data, .data, .data, .sentinel, .sentinel, .pinned], laidTests := true, laidLooks := .later }
def FirstsAreUpUptoCardSaid : Prop := Claim7.holds Tryz.pinned (.plain (OpenSpec.upto firstsAreUpSpec)) firstsAreUpUptoCard

/-- THE SECOND FORM's CARD OF 'lanekeep1.RoutesStay'. -/
def routesStayUptoCard : Claim7 := { stood := { row := routesStayUptoRow, standIns := [], harness := (true, "f1b4bdcd5160628da194cf22b63db448ccf02c62eede5d1186dbc9265e49140e"), looks := true }, kinds := [], alts := [], laidByText := true, laidKinds := [.data, .data, .data, .data, .sentinel, .sentinel, .pinned], laidTests := true, laidLooks := .later }
def RoutesStayUptoCardSaid : Prop := Claim7.holds Tryz.pinned (.plain (OpenSpec.upto routesStaySpec)) routesStayUptoCard

/-- THE SECOND FORM's CARD OF 'lanekeep1.PathsAreKept'. -/
def pathsAreKeptUptoCard : Claim7 := { stood := { row := pathsAreKeptUptoRow, standIns := [], harness := (true, "f1b4bdcd5160628da194cf22b63db448ccf02c62eede5d1186dbc9265e49140e"), looks := true }, kinds := [], alts := [], laidByText := true, laidKinds := [.data, .data, .data, .data, .sentinel, .sentinel, .pinned], laidTests := true, laidLooks := .later }
def PathsAreKeptUptoCardSaid : Prop := Claim7.holds Tryz.pinned (.plain (OpenSpec.upto pathsAreKeptSpec)) pathsAreKeptUptoCard
end Rows
end Go.Proofs.YtdkgmmngoojamaaGreatDoor
