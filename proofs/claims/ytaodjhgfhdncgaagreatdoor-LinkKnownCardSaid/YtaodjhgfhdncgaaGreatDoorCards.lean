/-
  DERIVED. GIVEN WITH THE SEED: THE CARDS: each row of YtaodjhgfhdncgaaGreatDoorRows.lean that lists a variable, with what it lists TIED to the program's text (the seventh form; the later family's looks); each row that meets fmt, with fmt's text TOLD by the authors' own Lean function (tested against real Go, not proved from fmt's source: count such statements apart). THE CARD IS WHAT COUNTS. Prove the row's statement (the work); the ties are given (YtaodjhgfhdncgaaGreatDoorTie.lean); close each card by the builder's one call (the guide's Derived/Test/ToyasCard.lean, 'card_holds'). Laid BY PROGRAM, IN A SANDBOX (cutbox-door.mjs). By AI agents, Wed Nov 11 2026. No macro, syntax, notation, axiom, sorry.
-/
import Derived.Test.YtaodjhgfhdncgaaGreatDoorRows
import GoSem.ClaimSeven
namespace Go.Proofs.YtaodjhgfhdncgaaGreatDoor
namespace Rows

/-- THE TIED CARD OF 'stemmalaw21.LinkKnown'. -/
def linkKnownCard : Claim7 := { stood := { row := linkKnownRow, standIns := [], harness := (true, "a1b94f3cc5d74cac123dc0234b3b666f5434ad7b1f5ea2d20d0f8b72bbda5c8e"), looks := false }, kinds := [], alts := [], laidByText := true, laidKinds := [.data, .pinned], laidTests := true, laidLooks := .later }
def LinkKnownCardSaid : Prop := Claim7.holds Tryz.pinned (.plain (OpenSpec.ofChange linkKnownSpec)) linkKnownCard

/-- THE SECOND FORM's CARD OF 'stemmalaw21.LinkKnown'. -/
def linkKnownUptoCard : Claim7 := { stood := { row := linkKnownUptoRow, standIns := [], harness := (true, "a1b94f3cc5d74cac123dc0234b3b666f5434ad7b1f5ea2d20d0f8b72bbda5c8e"), looks := false }, kinds := [], alts := [], laidByText := true, laidKinds := [.data, .pinned], laidTests := true, laidLooks := .later }
def LinkKnownUptoCardSaid : Prop := Claim7.holds Tryz.pinned (.plain (OpenSpec.upto linkKnownSpec)) linkKnownUptoCard
end Rows
end Go.Proofs.YtaodjhgfhdncgaaGreatDoor
