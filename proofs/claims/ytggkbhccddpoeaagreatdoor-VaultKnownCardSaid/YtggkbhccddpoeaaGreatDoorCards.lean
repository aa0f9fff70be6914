/-
  DERIVED. GIVEN WITH THE SEED: THE CARDS: each row of YtggkbhccddpoeaaGreatDoorRows.lean that lists a variable, with what it lists TIED to the program's text (the seventh form; the later family's looks); each row that meets fmt, with fmt's text TOLD by the authors' own Lean function (tested against real Go, not proved from fmt's source: count such statements apart). THE CARD IS WHAT COUNTS. Prove the row's statement (the work); the ties are given (YtggkbhccddpoeaaGreatDoorTie.lean); close each card by the builder's one call (the guide's Derived/Test/ToyasCard.lean, 'card_holds'). Laid BY PROGRAM, IN A SANDBOX (cutbox-door.mjs). By AI agents, Wed Nov 11 2026. No macro, syntax, notation, axiom, sorry.
-/
import Derived.Test.YtggkbhccddpoeaaGreatDoorRows
import GoSem.ClaimSeven
namespace Go.Proofs.YtggkbhccddpoeaaGreatDoor
namespace Rows

/-- THE TIED CARD OF 'stemmalaw12.ReceiveKnown'. -/
def receiveKnownCard : Claim7 := { stood := { row := receiveKnownRow, standIns := [], harness := (true, "09a838e961efb434933eddcac62dd6afe14073d1eb493095dd7b6293a5a78ffc"), looks := false }, kinds := [], alts := [], laidByText := true, laidKinds := [.data, .pinned], laidTests := true, laidLooks := .later }
def ReceiveKnownCardSaid : Prop := Claim7.holds Tryz.pinned (.plain (OpenSpec.ofChange receiveKnownSpec)) receiveKnownCard

/-- THE TIED CARD OF 'stemmalaw10.VaultKnown'. -/
def vaultKnownCard : Claim7 := { stood := { row := vaultKnownRow, standIns := [], harness := (true, "09a838e961efb434933eddcac62dd6afe14073d1eb493095dd7b6293a5a78ffc"), looks := false }, kinds := [], alts := [], laidByText := true, laidKinds := [.data, .pinned], laidTests := true, laidLooks := .later }
def VaultKnownCardSaid : Prop := Claim7.holds Tryz.pinned (.plain (OpenSpec.ofChange vaultKnownSpec)) vaultKnownCard

/-- THE SECOND FORM's CARD OF 'stemmalaw12.ReceiveKnown'. -/
def receiveKnownUptoCard : Claim7 := { stood := { row := receiveKnownUptoRow, standIns := [], harness := (true, "09a838e961efb434933eddcac62dd6afe14073d1eb493095dd7b6293a5a78ffc"), looks := false }, kinds := [], alts := [], laidByText := true, laidKinds := [.data, .pinned], laidTests := true, laidLooks := .later }
def ReceiveKnownUptoCardSaid : Prop := Claim7.holds Tryz.pinned (.plain (OpenSpec.upto receiveKnownSpec)) receiveKnownUptoCard

/-- THE SECOND FORM's CARD OF 'stemmalaw10.VaultKnown'. -/
def vaultKnownUptoCard : Claim7 := { stood := { row := vaultKnownUptoRow, standIns := [], harness := (true, "09a838e961efb434933eddcac62dd6afe14073d1eb493095dd7b6293a5a78ffc"), looks := false }, kinds := [], alts := [], laidByText := true, laidKinds := [.data, .pinned], laidTests := true, laidLooks := .later }
def VaultKnownUptoCardSaid : Prop := Claim7.holds Tryz.pinned (.plain (OpenSpec.upto vaultKnownSpec)) vaultKnownUptoCard
end Rows
end Go.Proofs.YtggkbhccddpoeaaGreatDoor
