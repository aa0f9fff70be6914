/-
  DERIVED. GIVEN WITH THE SEED: THE CARDS: each row of YtnndgkcpacpleaaGreatDoorRows.lean that lists a variable, with what it lists TIED to the program's text (the seventh form; the later family's looks); each row that meets fmt, with fmt's text TOLD by the authors' own Lean function (tested against real Go, not proved from fmt's source: count such statements apart). THE CARD IS WHAT COUNTS. Prove the row's statement (the work); the ties are given (YtnndgkcpacpleaaGreatDoorTie.lean); close each card by the builder's one call (the guide's Derived/Test/ToyasCard.lean, 'card_holds'). Laid BY PROGRAM, IN A SANDBOX (cutbox-door.mjs). By AI agents, Wed Nov 11 2026. No macro, syntax, notation, axiom, sorry.
-/
import Derived.Test.YtnndgkcpacpleaaGreatDoorRows
import GoSem.ClaimSeven
namespace Go.Proofs.YtnndgkcpacpleaaGreatDoor
namespace Rows

/-- THE TIED CARD OF 'stemmalaw12.ReceiveTakes'. -/
def receiveTakesCard : Claim7 := { stood := { row := receiveTakesRow, standIns := [], harness := (true, "085b260ac8618dc5040f7a35c9b937a55a18d24de8d85aaa1b5b486d3cf228a3"), looks := false }, kinds := [], alts := [], laidByText := true, laidKinds := [.data, .pinned], laidTests := true, laidLooks := .later }
def ReceiveTakesCardSaid : Prop := Claim7.holds Tryz.pinned (.plain (OpenSpec.ofChange receiveTakesSpec)) receiveTakesCard

/-- THE TIED CARD OF 'stemmalaw12.ReceiveFollows'. -/
def receiveFollowsCard : Claim7 := { stood := { row := receiveFollowsRow, standIns := [], harness := (true, "085b260ac8618dc5040f7a35c9b937a55a18d24de8d85aaa1b5b486d3cf228a3"), looks := false }, kinds := [], alts := [], laidByText := true, laidKinds := [.data, .pinned], laidTests := true, laidLooks := .later }
def ReceiveFollowsCardSaid : Prop := Claim7.holds Tryz.pinned (.plain (OpenSpec.ofChange receiveFollowsSpec)) receiveFollowsCard

/-- THE SECOND FORM's CARD OF 'stemmalaw12.ReceiveTakes'. -/
def receiveTakesUptoCard : Claim7 := { stood := { row := receiveTakesUptoRow, standIns := [], harness := (true, "085b260ac8618dc5040f7a35c9b937a55a18d24de8d85aaa1b5b486d3cf228a3"), looks := false }, kinds := [], alts := [], laidByText := true, laidKinds := [.data, .pinned], laidTests := true, laidLooks := .later }
def ReceiveTakesUptoCardSaid : Prop := Claim7.holds Tryz.pinned (.plain (OpenSpec.upto receiveTakesSpec)) receiveTakesUptoCard

/-- THE SECOND FORM's CARD OF 'stemmalaw12.ReceiveFollows'. -/
def receiveFollowsUptoCard : Claim7 := { stood := { row := receiveFollowsUptoRow, standIns := [], harness := (true, "085b260ac8618dc5040f7a35c9b937a55a18d24de8d85aaa1b5b486d3cf228a3"), looks := false }, kinds := [], alts := [], laidByText := true, laidKinds := [.data, .pinned], laidTests := true, laidLooks := .later }
def ReceiveFollowsUptoCardSaid : Prop := Claim7.holds Tryz.pinned (.plain (OpenSpec.upto receiveFollowsSpec)) receiveFollowsUptoCard
end Rows
end Go.Proofs.YtnndgkcpacpleaaGreatDoor
