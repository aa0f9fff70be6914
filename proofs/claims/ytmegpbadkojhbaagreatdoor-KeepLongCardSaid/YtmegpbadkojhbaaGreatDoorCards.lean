/-
  DERIVED. GIVEN WITH THE SEED: THE CARDS: each row of YtmegpbadkojhbaaGreatDoorRows.lean that lists a variable, with what it lists TIED to the program's text (the seventh form; the later family's looks); each row that meets fmt, with fmt's text TOLD by the authors' own Lean function (tested against real Go, not proved from fmt's source: count such statements apart). THE CARD IS WHAT COUNTS. Prove the row's statement (the work); the ties are given (YtmegpbadkojhbaaGreatDoorTie.lean); close each card by the builder's one call (the guide's Derived/Test/ToyasCard.lean, 'card_holds'). Laid BY PROGRAM, IN A SANDBOX (cutbox-door.mjs). By AI agents, Wed Nov 11 2026. No macro, syntax, notation, axiom, sorry.
-/
import Derived.Test.YtmegpbadkojhbaaGreatDoorRows
import GoSem.ClaimSeven
namespace Go.Proofs.YtmegpbadkojhbaaGreatDoor
namespace Rows

/-- THE TIED CARD OF 'stemmalaw16.KeepLong'. -/
def keepLongCard : Claim7 := { stood := { row := keepLongRow, standIns := [], harness := (true, "97c6c123a67e8b03eb715b777064ca5a0cb3e5845e2f4ba6ba6a133fe190bef9"), looks := false }, kinds := [], alts := [], laidByText := true, laidKinds := [.data, .pinned], laidTests := true, laidLooks := .later }
def KeepLongCardSaid : Prop := Claim7.holds Tryz.pinned (.plain (OpenSpec.ofChange keepLongSpec)) keepLongCard

/-- THE TIED CARD OF 'stemmalaw16.KeepKnown'. -/
def keepKnownCard : Claim7 := { stood := { row := keepKnownRow, standIns := [], harness := (true, "97c6c123a67e8b03eb715b777064ca5a0cb3e5845e2f4ba6ba6a133fe190bef9"), looks := false }, kinds := [], alts := [], laidByText := true, laidKinds := [.data, .pinned], laidTests := true, laidLooks := .later }
def KeepKnownCardSaid : Prop := Claim7.holds Tryz.pinned (.plain (OpenSpec.ofChange keepKnownSpec)) keepKnownCard

/-- THE TIED CARD OF 'stemmalaw16.KeepLasts'. -/
def keepLastsCard : Claim7 := { stood := { row := keepLastsRow, standIns := [], harness := (true, "97c6c123a67e8b03eb715b777064ca5a0cb3e5845e2f4ba6ba6a133fe190bef9"), looks := false }, kinds := [], alts := [], laidByText := true, laidKinds := [.data, .pinned], laidTests := true, laidLooks := .later }
def KeepLastsCardSaid : Prop := Claim7.holds Tryz.pinned (.plain (OpenSpec.ofChange keepLastsSpec)) keepLastsCard

/-- THE TIED CARD OF 'stemmalaw16.KeepSaves'. -/
def keepSavesCard : Claim7 := { stood := { row := keepSavesRow, standIns := [], harness := (true, "97c6c123a67e8b03eb715b777064ca5a0cb3e5845e2f4ba6ba6a133fe190bef9"), looks := false }, kinds := [], alts := [], laidByText := true, laidKinds := [.data, .pinned], laidTests := true, laidLooks := .later }
def KeepSavesCardSaid : Prop := Claim7.holds Tryz.pinned (.plain (OpenSpec.ofChange keepSavesSpec)) keepSavesCard

/-- THE SECOND FORM's CARD OF 'stemmalaw16.KeepLong'. -/
def keepLongUptoCard : Claim7 := { stood := { row := keepLongUptoRow, standIns := [], harness := (true, "97c6c123a67e8b03eb715b777064ca5a0cb3e5845e2f4ba6ba6a133fe190bef9"), looks := false }, kinds := [], alts := [], laidByText := true, laidKinds := [.data, .pinned], laidTests := true, laidLooks := .later }
def KeepLongUptoCardSaid : Prop := Claim7.holds Tryz.pinned (.plain (OpenSpec.upto keepLongSpec)) keepLongUptoCard

/-- THE SECOND FORM's CARD OF 'stemmalaw16.KeepKnown'. -/
def keepKnownUptoCard : Claim7 := { stood := { row := keepKnownUptoRow, standIns := [], harness := (true, "97c6c123a67e8b03eb715b777064ca5a0cb3e5845e2f4ba6ba6a133fe190bef9"), looks := false }, kinds := [], alts := [], laidByText := true, laidKinds := [.data, .pinned], laidTests := true, laidLooks := .later }
def KeepKnownUptoCardSaid : Prop := Claim7.holds Tryz.pinned (.plain (OpenSpec.upto keepKnownSpec)) keepKnownUptoCard

/-- THE SECOND FORM's CARD OF 'stemmalaw16.KeepLasts'. -/
def keepLastsUptoCard : Claim7 := { stood := { row := keepLastsUptoRow, standIns := [], harness := (true, "97c6c123a67e8b03eb715b777064ca5a0cb3e5845e2f4ba6ba6a133fe190bef9"), looks := false }, kinds := [], alts := [], laidByText := true, laidKinds := [.data, .pinned], laidTests := true, laidLooks := .later }
def KeepLastsUptoCardSaid : Prop := Claim7.holds Tryz.pinned (.plain (OpenSpec.upto keepLastsSpec)) keepLastsUptoCard

/-- THE SECOND FORM's CARD OF 'stemmalaw16.KeepSaves'. -/
def keepSavesUptoCard : Claim7 := { stood := { row := keepSavesUptoRow, standIns := [], harness := (true, "97c6c123a67e8b03eb715b777064ca5a0cb3e5845e2f4ba6ba6a133fe190bef9"), looks := false }, kinds := [], alts := [], laidByText := true, laidKinds := [.data, .pinned], laidTests := true, laidLooks := .later }
def KeepSavesUptoCardSaid : Prop := Claim7.holds Tryz.pinned (.plain (OpenSpec.upto keepSavesSpec)) keepSavesUptoCard
end Rows
end Go.Proofs.YtmegpbadkojhbaaGreatDoor
