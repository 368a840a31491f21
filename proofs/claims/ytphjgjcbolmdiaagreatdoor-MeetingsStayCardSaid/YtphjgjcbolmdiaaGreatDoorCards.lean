/-
  DERIVED. GIVEN WITH THE SEED: THE CARDS: each row of YtphjgjcbolmdiaaGreatDoorRows.lean that lists a variable, with what it lists TIED to the program's text (the seventh form; the later family's looks); each row that meets fmt, with fmt's text TOLD by the authors' own Lean function (tested against real Go, not proved from fmt's source: count such statements apart). THE CARD IS WHAT COUNTS. Prove the row's statement (the work); the ties are given (YtphjgjcbolmdiaaGreatDoorTie.lean); close each card by the builder's one call (the guide's Derived/Test/ToyasCard.lean, 'card_holds'). Laid BY PROGRAM, IN A SANDBOX (cutbox-door.mjs). By AI agents, Wed Nov 11 2026. No macro, syntax, notation, axiom, sorry.
-/
import Derived.Test.YtphjgjcbolmdiaaGreatDoorRows
import GoSem.ClaimSeven
namespace Go.Proofs.YtphjgjcbolmdiaaGreatDoor
namespace Rows

/-- THE TIED CARD OF 'lanekeep1.TranslatorsAreApart'. -/
def translatorsAreApartCard : Claim7 := { stood := { row := translatorsAreApartRow, standIns := [], harness := (true, "230c99f88c6c546382d1d1a9dc1d498aa48fb905207e7831f089601d2fcb00fc"), looks := true }, kinds := [], alts := [], laidByText := true, laidKinds := [.data, .data, .data, .data, .sentinel, .sentinel, .pinned], laidTests := true, laidLooks := .later }
def TranslatorsAreApartCardSaid : Prop := Claim7.holds Tryz.pinned (.plain (OpenSpec.ofChange translatorsAreApartSpec)) translatorsAreApartCard

/-- THE TIED CARD OF 'lanekeep1.MeetingsStay'. -/
def meetingsStayCard : Claim7 := { stood := { row := meetingsStayRow, standIns := [], harness := (true, "230c99f88c6c546382d1d1a9dc1d498aa48fb905207e7831f089601d2fcb00fc"), looks := true }, kinds := [], alts := [], laidByText := true, laidKinds := [.data, .data, .data, .data, .sentinel, .sentinel, .pinned], laidTests := true, laidLooks := .later }
def MeetingsStayCardSaid : Prop := Claim7.holds Tryz.pinned (.plain (OpenSpec.ofChange meetingsStaySpec)) meetingsStayCard

/-- THE SECOND FORM's CARD OF 'lanekeep1.TranslatorsAreApart'. -/
def translatorsAreApartUptoCard : Claim7 := { stood := { row := translatorsAreApartUptoRow, standIns := [], harness := (true, "230c99f88c6c546382d1d1a9dc1d498aa48fb905207e7831f089601d2fcb00fc"), looks := true }, kinds := [], alts := [], laidByText := true, laidKinds := [.data, .data, .data, .data, .sentinel, .sentinel, .pinned], laidTests := true, laidLooks := .later }
def TranslatorsAreApartUptoCardSaid : Prop := Claim7.holds Tryz.pinned (.plain (OpenSpec.upto translatorsAreApartSpec)) translatorsAreApartUptoCard

/-- THE SECOND FORM's CARD OF 'lanekeep1.MeetingsStay'. -/
def meetingsStayUptoCard : Claim7 := { stood := { row := meetingsStayUptoRow, standIns := [], harness := (true, "230c99f88c6c546382d1d1a9dc1d498aa48fb905207e7831f089601d2fcb00fc"), looks := true }, kinds := [], alts := [], laidByText := true, laidKinds := [.data, .data, .data, .data, .sentinel, .sentinel, .pinned], laidTests := true, laidLooks := .later }
def MeetingsStayUptoCardSaid : Prop := Claim7.holds Tryz.pinned (.plain (OpenSpec.upto meetingsStaySpec)) meetingsStayUptoCard
end Rows
end Go.Proofs.YtphjgjcbolmdiaaGreatDoor
