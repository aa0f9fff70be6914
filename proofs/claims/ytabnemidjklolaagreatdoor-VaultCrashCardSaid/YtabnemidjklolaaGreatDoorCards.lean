/-
  DERIVED. GIVEN WITH THE SEED: THE CARDS: each row of YtabnemidjklolaaGreatDoorRows.lean that lists a variable, with what it lists TIED to the program's text (the seventh form; the later family's looks); each row that meets fmt, with fmt's text TOLD by the authors' own Lean function (tested against real Go, not proved from fmt's source: count such statements apart). THE CARD IS WHAT COUNTS. Prove the row's statement (the work); the ties are given (YtabnemidjklolaaGreatDoorTie.lean); close each card by the builder's one call (the guide's Derived/Test/ToyasCard.lean, 'card_holds'). Laid BY PROGRAM, IN A SANDBOX (cutbox-door.mjs). By AI agents, Wed Nov 11 2026. No macro, syntax, notation, axiom, sorry.
-/
import Derived.Test.YtabnemidjklolaaGreatDoorRows
import GoSem.ClaimSeven
namespace Go.Proofs.YtabnemidjklolaaGreatDoor
namespace Rows

/-- THE TIED CARD OF 'stemmalaw10.VaultChain'. -/
def vaultChainCard : Claim7 := { stood := { row := vaultChainRow, standIns := [], harness := (true, "e8f9d28a6f5a9e09ff6336600712baf876d8c7f24a66fb90d8ef7126404eb8b3"), looks := false }, kinds := [], alts := [], laidByText := true, laidKinds := [.data, .pinned], laidTests := true, laidLooks := .later }
def VaultChainCardSaid : Prop := Claim7.holds Tryz.pinned (.plain (OpenSpec.ofChange vaultChainSpec)) vaultChainCard

/-- THE TIED CARD OF 'stemmalaw10.VaultParts'. -/
def vaultPartsCard : Claim7 := { stood := { row := vaultPartsRow, standIns := [], harness := (true, "e8f9d28a6f5a9e09ff6336600712baf876d8c7f24a66fb90d8ef7126404eb8b3"), looks := false }, kinds := [], alts := [], laidByText := true, laidKinds := [.data, .pinned], laidTests := true, laidLooks := .later }
def VaultPartsCardSaid : Prop := Claim7.holds Tryz.pinned (.plain (OpenSpec.ofChange vaultPartsSpec)) vaultPartsCard

/-- THE TIED CARD OF 'stemmalaw10.VaultFull'. -/
def vaultFullCard : Claim7 := { stood := { row := vaultFullRow, standIns := [], harness := (true, "e8f9d28a6f5a9e09ff6336600712baf876d8c7f24a66fb90d8ef7126404eb8b3"), looks := false }, kinds := [], alts := [], laidByText := true, laidKinds := [.data, .pinned], laidTests := true, laidLooks := .later }
def VaultFullCardSaid : Prop := Claim7.holds Tryz.pinned (.plain (OpenSpec.ofChange vaultFullSpec)) vaultFullCard

/-- THE TIED CARD OF 'stemmalaw10.VaultCrash'. -/
def vaultCrashCard : Claim7 := { stood := { row := vaultCrashRow, standIns := [], harness := (true, "e8f9d28a6f5a9e09ff6336600712baf876d8c7f24a66fb90d8ef7126404eb8b3"), looks := false }, kinds := [], alts := [], laidByText := true, laidKinds := [.data, .pinned], laidTests := true, laidLooks := .later }
def VaultCrashCardSaid : Prop := Claim7.holds Tryz.pinned (.plain (OpenSpec.ofChange vaultCrashSpec)) vaultCrashCard

/-- THE SECOND FORM's CARD OF 'stemmalaw10.VaultChain'. -/
def vaultChainUptoCard : Claim7 := { stood := { row := vaultChainUptoRow, standIns := [], harness := (true, "e8f9d28a6f5a9e09ff6336600712baf876d8c7f24a66fb90d8ef7126404eb8b3"), looks := false }, kinds := [], alts := [], laidByText := true, laidKinds := [.data, .pinned], laidTests := true, laidLooks := .later }
def VaultChainUptoCardSaid : Prop := Claim7.holds Tryz.pinned (.plain (OpenSpec.upto vaultChainSpec)) vaultChainUptoCard

/-- THE SECOND FORM's CARD OF 'stemmalaw10.VaultParts'. -/
def vaultPartsUptoCard : Claim7 := { stood := { row := vaultPartsUptoRow, standIns := [], harness := (true, "e8f9d28a6f5a9e09ff6336600712baf876d8c7f24a66fb90d8ef7126404eb8b3"), looks := false }, kinds := [], alts := [], laidByText := true, laidKinds := [.data, .pinned], laidTests := true, laidLooks := .later }
def VaultPartsUptoCardSaid : Prop := Claim7.holds Tryz.pinned (.plain (OpenSpec.upto vaultPartsSpec)) vaultPartsUptoCard

/-- THE SECOND FORM's CARD OF 'stemmalaw10.VaultFull'. -/
def vaultFullUptoCard : Claim7 := { stood := { row := vaultFullUptoRow, standIns := [], harness := (true, "e8f9d28a6f5a9e09ff6336600712baf876d8c7f24a66fb90d8ef7126404eb8b3"), looks := false }, kinds := [], alts := [], laidByText := true, laidKinds := [.data, .pinned], laidTests := true, laidLooks := .later }
def VaultFullUptoCardSaid : Prop := Claim7.holds Tryz.pinned (.plain (OpenSpec.upto vaultFullSpec)) vaultFullUptoCard

/-- THE SECOND FORM's CARD OF 'stemmalaw10.VaultCrash'. -/
def vaultCrashUptoCard : Claim7 := { stood := { row := vaultCrashUptoRow, standIns := [], harness := (true, "e8f9d28a6f5a9e09ff6336600712baf876d8c7f24a66fb90d8ef7126404eb8b3"), looks := false }, kinds := [], alts := [], laidByText := true, laidKinds := [.data, .pinned], laidTests := true, laidLooks := .later }
def VaultCrashUptoCardSaid : Prop := Claim7.holds Tryz.pinned (.plain (OpenSpec.upto vaultCrashSpec)) vaultCrashUptoCard
end Rows
end Go.Proofs.YtabnemidjklolaaGreatDoor
