/-
  DERIVED. GIVEN WITH THE SEED: THE CARDS: each row of YtmegpbadkojhbaaDoorRows.lean that lists a variable, with what it lists TIED to the program's text (the seventh form; the later family's looks); each row that meets fmt, with fmt's text TOLD by the authors' own Lean function (tested against real Go, not proved from fmt's source: count such statements apart). THE CARD IS WHAT COUNTS. Prove the row's statement (the work); the ties are given (YtmegpbadkojhbaaDoorTie.lean); close each card by the builder's one call (the guide's Derived/Test/ToyasCard.lean, 'card_holds'). Laid BY PROGRAM, IN A SANDBOX (cutbox-door.mjs). By AI agents, Wed Nov 11 2026. No macro, syntax, notation, axiom, sorry.
-/
import Derived.Test.YtmegpbadkojhbaaDoorRows
import GoSem.ClaimSeven
namespace Go.Proofs.YtmegpbadkojhbaaDoor
namespace Rows

/-- THE TIED CARD OF 'stemmalaw05.JournalNothing'. -/
def journalNothingCard : Claim7 := { stood := { row := journalNothingRow, standIns := [], harness := (true, "bf5e5aa78d46f879e29dc85ced64c48f33a431256ead41cc308230ff92c8b89d"), looks := true }, kinds := [], alts := [], laidByText := true, laidKinds := [.data, .pinned], laidTests := true, laidLooks := .later }
def JournalNothingCardSaid : Prop := Claim7.holds Tryd.pinned (.plain (OpenSpec.ofChange journalNothingSpec)) journalNothingCard

/-- THE TIED CARD OF 'stemmalaw05.JournalAll'. -/
def journalAllCard : Claim7 := { stood := { row := journalAllRow, standIns := [], harness := (true, "bf5e5aa78d46f879e29dc85ced64c48f33a431256ead41cc308230ff92c8b89d"), looks := true }, kinds := [], alts := [], laidByText := true, laidKinds := [.data, .pinned], laidTests := true, laidLooks := .later }
def JournalAllCardSaid : Prop := Claim7.holds Tryd.pinned (.plain (OpenSpec.ofChange journalAllSpec)) journalAllCard

/-- THE TIED CARD OF 'stemmalaw05.JournalTwice'. -/
def journalTwiceCard : Claim7 := { stood := { row := journalTwiceRow, standIns := [], harness := (true, "bf5e5aa78d46f879e29dc85ced64c48f33a431256ead41cc308230ff92c8b89d"), looks := true }, kinds := [], alts := [], laidByText := true, laidKinds := [.data, .pinned], laidTests := true, laidLooks := .later }
def JournalTwiceCardSaid : Prop := Claim7.holds Tryd.pinned (.plain (OpenSpec.ofChange journalTwiceSpec)) journalTwiceCard

/-- THE TIED CARD OF 'stemmalaw05.JournalKnown'. -/
def journalKnownCard : Claim7 := { stood := { row := journalKnownRow, standIns := [], harness := (true, "bf5e5aa78d46f879e29dc85ced64c48f33a431256ead41cc308230ff92c8b89d"), looks := true }, kinds := [], alts := [], laidByText := true, laidKinds := [.data, .pinned], laidTests := true, laidLooks := .later }
def JournalKnownCardSaid : Prop := Claim7.holds Tryd.pinned (.plain (OpenSpec.ofChange journalKnownSpec)) journalKnownCard

/-- THE SECOND FORM's CARD OF 'stemmalaw05.JournalNothing'. -/
def journalNothingUptoCard : Claim7 := { stood := { row := journalNothingUptoRow, standIns := [], harness := (true, "bf5e5aa78d46f879e29dc85ced64c48f33a431256ead41cc308230ff92c8b89d"), looks := true }, kinds := [], alts := [], laidByText := true, laidKinds := [.data, .pinned], laidTests := true, laidLooks := .later }
def JournalNothingUptoCardSaid : Prop := Claim7.holds Tryd.pinned (.plain (OpenSpec.upto journalNothingSpec)) journalNothingUptoCard

/-- THE SECOND FORM's CARD OF 'stemmalaw05.JournalAll'. -/
def journalAllUptoCard : Claim7 := { stood := { row := journalAllUptoRow, standIns := [], harness := (true, "bf5e5aa78d46f879e29dc85ced64c48f33a431256ead41cc308230ff92c8b89d"), looks := true }, kinds := [], alts := [], laidByText := true, laidKinds := [.data, .pinned], laidTests := true, laidLooks := .later }
def JournalAllUptoCardSaid : Prop := Claim7.holds Tryd.pinned (.plain (OpenSpec.upto journalAllSpec)) journalAllUptoCard

/-- THE SECOND FORM's CARD OF 'stemmalaw05.JournalTwice'. -/
def journalTwiceUptoCard : Claim7 := { stood := { row := journalTwiceUptoRow, standIns := [], harness := (true, "bf5e5aa78d46f879e29dc85ced64c48f33a431256ead41cc308230ff92c8b89d"), looks := true }, kinds := [], alts := [], laidByText := true, laidKinds := [.data, .pinned], laidTests := true, laidLooks := .later }
def JournalTwiceUptoCardSaid : Prop := Claim7.holds Tryd.pinned (.plain (OpenSpec.upto journalTwiceSpec)) journalTwiceUptoCard

/-- THE SECOND FORM's CARD OF 'stemmalaw05.JournalKnown'. -/
def journalKnownUptoCard : Claim7 := { stood := { row := journalKnownUptoRow, standIns := [], harness := (true, "bf5e5aa78d46f879e29dc85ced64c48f33a431256ead41cc308230ff92c8b89d"), looks := true }, kinds := [], alts := [], laidByText := true, laidKinds := [.data, .pinned], laidTests := true, laidLooks := .later }
def JournalKnownUptoCardSaid : Prop := Claim7.holds Tryd.pinned (.plain (OpenSpec.upto journalKnownSpec)) journalKnownUptoCard
end Rows
end Go.Proofs.YtmegpbadkojhbaaDoor
