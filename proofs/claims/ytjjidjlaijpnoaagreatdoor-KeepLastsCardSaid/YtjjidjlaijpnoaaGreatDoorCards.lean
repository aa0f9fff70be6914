/-
  DERIVED. GIVEN WITH THE SEED: THE CARDS: each row of YtjjidjlaijpnoaaGreatDoorRows.lean that lists a variable, with what it lists TIED to the program's text (the seventh form; the later family's looks); each row that meets fmt, with fmt's text TOLD by the authors' own Lean function (tested against real Go, not proved from fmt's source: count such statements apart). THE CARD IS WHAT COUNTS. Prove the row's statement (the work); the ties are given (YtjjidjlaijpnoaaGreatDoorTie.lean); close each card by the builder's one call (the guide's Derived/Test/ToyasCard.lean, 'card_holds'). Laid BY PROGRAM, IN A SANDBOX (cutbox-door.mjs). By AI agents, Wed Nov 11 2026. No macro, syntax, notation, axiom, sorry.
-/
import Derived.Test.YtjjidjlaijpnoaaGreatDoorRows
import GoSem.ClaimSeven
namespace Go.Proofs.YtjjidjlaijpnoaaGreatDoor
namespace Rows

/-- THE TIED CARD OF 'stemmalaw16.KeepLasts'. -/
def keepLastsCard : Claim7 := { stood := { row := keepLastsRow, standIns := [], harness := (true, "a3ee3f919416bdc4e4ee060efe384c5325a0cc1bf5cbf7aa7c6251a6504183b5"), looks := false }, kinds := [], alts := [], laidByText := true, laidKinds := [.data, .pinned], laidTests := true, laidLooks := .later }
def KeepLastsCardSaid : Prop := Claim7.holds Tryz.pinned (.plain (OpenSpec.ofChange keepLastsSpec)) keepLastsCard

/-- THE SECOND FORM's CARD OF 'stemmalaw16.KeepLasts'. -/
def keepLastsUptoCard : Claim7 := { stood := { row := keepLastsUptoRow, standIns := [], harness := (true, "a3ee3f919416bdc4e4ee060efe384c5325a0cc1bf5cbf7aa7c6251a6504183b5"), looks := false }, kinds := [], alts := [], laidByText := true, laidKinds := [.data, .pinned], laidTests := true, laidLooks := .later }
def KeepLastsUptoCardSaid : Prop := Claim7.holds Tryz.pinned (.plain (OpenSpec.upto keepLastsSpec)) keepLastsUptoCard
end Rows
end Go.Proofs.YtjjidjlaijpnoaaGreatDoor
