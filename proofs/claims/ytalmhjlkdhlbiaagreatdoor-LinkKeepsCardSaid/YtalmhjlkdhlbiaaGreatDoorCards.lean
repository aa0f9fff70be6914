/-
  DERIVED. GIVEN WITH THE SEED: THE CARDS: each row of YtalmhjlkdhlbiaaGreatDoorRows.lean that lists a variable, with what it lists TIED to the program's text (the seventh form; the later family's looks); each row that meets fmt, with fmt's text TOLD by the authors' own Lean function (tested against real Go, not proved from fmt's source: count such statements apart). THE CARD IS WHAT COUNTS. Prove the row's statement (the work); the ties are given (YtalmhjlkdhlbiaaGreatDoorTie.lean); close each card by the builder's one call (the guide's Derived/Test/ToyasCard.lean, 'card_holds'). Laid BY PROGRAM, IN A SANDBOX (cutbox-door.mjs). By AI agents, Wed Nov 11 2026. No macro, syntax, notation, axiom, sorry.
-/
import Derived.Test.YtalmhjlkdhlbiaaGreatDoorRows
import GoSem.ClaimSeven
namespace Go.Proofs.YtalmhjlkdhlbiaaGreatDoor
namespace Rows

/-- THE TIED CARD OF 'stemmalaw21.LinkKeeps'. -/
def linkKeepsCard : Claim7 := { stood := { row := linkKeepsRow, standIns := [], harness := (true, "f81be197d9b1d07c212444302e174340233127ac1bea2cfd8d1ba8668fc489cd"), looks := false }, kinds := [], alts := [], laidByText := true, laidKinds := [.data, .pinned], laidTests := true, laidLooks := .later }
def LinkKeepsCardSaid : Prop := Claim7.holds Tryz.pinned (.plain (OpenSpec.ofChange linkKeepsSpec)) linkKeepsCard

/-- THE TIED CARD OF 'stemmalaw21.LinkPure'. -/
def linkPureCard : Claim7 := { stood := { row := linkPureRow, standIns := [], harness := (true, "f81be197d9b1d07c212444302e174340233127ac1bea2cfd8d1ba8668fc489cd"), looks := false }, kinds := [], alts := [], laidByText := true, laidKinds := [.data, .pinned], laidTests := true, laidLooks := .later }
def LinkPureCardSaid : Prop := Claim7.holds Tryz.pinned (.plain (OpenSpec.ofChange linkPureSpec)) linkPureCard

/-- THE TIED CARD OF 'stemmalaw21.LinkCarries'. -/
def linkCarriesCard : Claim7 := { stood := { row := linkCarriesRow, standIns := [], harness := (true, "f81be197d9b1d07c212444302e174340233127ac1bea2cfd8d1ba8668fc489cd"), looks := false }, kinds := [], alts := [], laidByText := true, laidKinds := [.data, .pinned], laidTests := true, laidLooks := .later }
def LinkCarriesCardSaid : Prop := Claim7.holds Tryz.pinned (.plain (OpenSpec.ofChange linkCarriesSpec)) linkCarriesCard

/-- THE SECOND FORM's CARD OF 'stemmalaw21.LinkKeeps'. -/
def linkKeepsUptoCard : Claim7 := { stood := { row := linkKeepsUptoRow, standIns := [], harness := (true, "f81be197d9b1d07c212444302e174340233127ac1bea2cfd8d1ba8668fc489cd"), looks := false }, kinds := [], alts := [], laidByText := true, laidKinds := [.data, .pinned], laidTests := true, laidLooks := .later }
def LinkKeepsUptoCardSaid : Prop := Claim7.holds Tryz.pinned (.plain (OpenSpec.upto linkKeepsSpec)) linkKeepsUptoCard

/-- THE SECOND FORM's CARD OF 'stemmalaw21.LinkPure'. -/
def linkPureUptoCard : Claim7 := { stood := { row := linkPureUptoRow, standIns := [], harness := (true, "f81be197d9b1d07c212444302e174340233127ac1bea2cfd8d1ba8668fc489cd"), looks := false }, kinds := [], alts := [], laidByText := true, laidKinds := [.data, .pinned], laidTests := true, laidLooks := .later }
def LinkPureUptoCardSaid : Prop := Claim7.holds Tryz.pinned (.plain (OpenSpec.upto linkPureSpec)) linkPureUptoCard

/-- THE SECOND FORM's CARD OF 'stemmalaw21.LinkCarries'. -/
def linkCarriesUptoCard : Claim7 := { stood := { row := linkCarriesUptoRow, standIns := [], harness := (true, "f81be197d9b1d07c212444302e174340233127ac1bea2cfd8d1ba8668fc489cd"), looks := false }, kinds := [], alts := [], laidByText := true, laidKinds := [.data, .pinned], laidTests := true, laidLooks := .later }
def LinkCarriesUptoCardSaid : Prop := Claim7.holds Tryz.pinned (.plain (OpenSpec.upto linkCarriesSpec)) linkCarriesUptoCard
end Rows
end Go.Proofs.YtalmhjlkdhlbiaaGreatDoor
