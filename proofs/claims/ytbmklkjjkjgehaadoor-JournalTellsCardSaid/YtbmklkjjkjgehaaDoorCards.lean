/-
  DERIVED. GIVEN WITH THE SEED: THE CARDS: each row of YtbmklkjjkjgehaaDoorRows.lean that lists a variable, with what it lists TIED to the program's text (the seventh form; the later family's looks); each row that meets fmt, with fmt's text TOLD by the authors' own Lean function (tested against real Go, not proved from fmt's source: count such statements apart). THE CARD IS WHAT COUNTS. Prove the row's statement (the work); the ties are given (YtbmklkjjkjgehaaDoorTie.lean); close each card by the builder's one call (the guide's Derived/Test/ToyasCard.lean, 'card_holds'). Laid BY PROGRAM, IN A SANDBOX (cutbox-door.mjs). By AI agents, Wed Nov 11 2026. No macro, syntax, notation, axiom, sorry.
-/
import Derived.Test.YtbmklkjjkjgehaaDoorRows
import GoSem.ClaimSeven
namespace Go.Proofs.YtbmklkjjkjgehaaDoor
namespace Rows

/-- THE TIED CARD OF 'lumkeep.ShieldFar'. -/
def shieldFarCard : Claim7 := { stood := { row := shieldFarRow, standIns := [], harness := (true, "91350f1a105678c3ef36e031f2123b80157dd724b9d5f94a3ddcaad69dcd53b4"), looks := false }, kinds := [], alts := [], laidByText := true, laidKinds := [.data, .pinned], laidTests := true, laidLooks := .later }
def ShieldFarCardSaid : Prop := Claim7.holds Tryd.pinned (.plain (OpenSpec.ofChange shieldFarSpec)) shieldFarCard

/-- THE TIED CARD OF 'lumkeep.JournalBack'. -/
def journalBackCard : Claim7 := { stood := { row := journalBackRow, standIns := [], harness := (true, "91350f1a105678c3ef36e031f2123b80157dd724b9d5f94a3ddcaad69dcd53b4"), looks := false }, kinds := [], alts := [], laidByText := true, laidKinds := [.data, .pinned], laidTests := true, laidLooks := .later }
def JournalBackCardSaid : Prop := Claim7.holds Tryd.pinned (.plain (OpenSpec.ofChange journalBackSpec)) journalBackCard

/-- THE TIED CARD OF 'lumkeep.JournalTorn'. -/
def journalTornCard : Claim7 := { stood := { row := journalTornRow, standIns := [], harness := (true, "91350f1a105678c3ef36e031f2123b80157dd724b9d5f94a3ddcaad69dcd53b4"), looks := false }, kinds := [], alts := [], laidByText := true, laidKinds := [.data, .pinned], laidTests := true, laidLooks := .later }
def JournalTornCardSaid : Prop := Claim7.holds Tryd.pinned (.plain (OpenSpec.ofChange journalTornSpec)) journalTornCard

/-- THE TIED CARD OF 'lumkeep.JournalTells'. -/
def journalTellsCard : Claim7 := { stood := { row := journalTellsRow, standIns := [], harness := (true, "91350f1a105678c3ef36e031f2123b80157dd724b9d5f94a3ddcaad69dcd53b4"), looks := false }, kinds := [], alts := [], laidByText := true, laidKinds := [.data, .pinned], laidTests := true, laidLooks := .later }
def JournalTellsCardSaid : Prop := Claim7.holds Tryd.pinned (.plain (OpenSpec.ofChange journalTellsSpec)) journalTellsCard

/-- THE TIED CARD OF 'lumkeep.ShieldTells'. -/
def shieldTellsCard : Claim7 := { stood := { row := shieldTellsRow, standIns := [], harness := (true, "91350f1a105678c3ef36e031f2123b80157dd724b9d5f94a3ddcaad69dcd53b4"), looks := false }, kinds := [], alts := [], laidByText := true, laidKinds := [.data, .pinned], laidTests := true, laidLooks := .later }
def ShieldTellsCardSaid : Prop := Claim7.holds Tryd.pinned (.plain (OpenSpec.ofChange shieldTellsSpec)) shieldTellsCard

/-- THE SECOND FORM's CARD OF 'lumkeep.ShieldFar'. -/
def shieldFarUptoCard : Claim7 := { stood := { row := shieldFarUptoRow, standIns := [], harness := (true, "91350f1a105678c3ef36e031f2123b80157dd724b9d5f94a3ddcaad69dcd53b4"), looks := false }, kinds := [], alts := [], laidByText := true, laidKinds := [.data, .pinned], laidTests := true, laidLooks := .later }
def ShieldFarUptoCardSaid : Prop := Claim7.holds Tryd.pinned (.plain (OpenSpec.upto shieldFarSpec)) shieldFarUptoCard

/-- THE SECOND FORM's CARD OF 'lumkeep.JournalBack'. -/
def journalBackUptoCard : Claim7 := { stood := { row := journalBackUptoRow, standIns := [], harness := (true, "91350f1a105678c3ef36e031f2123b80157dd724b9d5f94a3ddcaad69dcd53b4"), looks := false }, kinds := [], alts := [], laidByText := true, laidKinds := [.data, .pinned], laidTests := true, laidLooks := .later }
def JournalBackUptoCardSaid : Prop := Claim7.holds Tryd.pinned (.plain (OpenSpec.upto journalBackSpec)) journalBackUptoCard

/-- THE SECOND FORM's CARD OF 'lumkeep.JournalTorn'. -/
def journalTornUptoCard : Claim7 := { stood := { row := journalTornUptoRow, standIns := [], harness := (true, "91350f1a105678c3ef36e031f2123b80157dd724b9d5f94a3ddcaad69dcd53b4"), looks := false }, kinds := [], alts := [], laidByText := true, laidKinds := [.data, .pinned], laidTests := true, laidLooks := .later }
def JournalTornUptoCardSaid : Prop := Claim7.holds Tryd.pinned (.plain (OpenSpec.upto journalTornSpec)) journalTornUptoCard

/-- THE SECOND FORM's CARD OF 'lumkeep.JournalTells'. -/
def journalTellsUptoCard : Claim7 := { stood := { row := journalTellsUptoRow, standIns := [], harness := (true, "91350f1a105678c3ef36e031f2123b80157dd724b9d5f94a3ddcaad69dcd53b4"), looks := false }, kinds := [], alts := [], laidByText := true, laidKinds := [.data, .pinned], laidTests := true, laidLooks := .later }
def JournalTellsUptoCardSaid : Prop := Claim7.holds Tryd.pinned (.plain (OpenSpec.upto journalTellsSpec)) journalTellsUptoCard

/-- THE SECOND FORM's CARD OF 'lumkeep.ShieldTells'. -/
def shieldTellsUptoCard : Claim7 := { stood := { row := shieldTellsUptoRow, standIns := [], harness := (true, "91350f1a105678c3ef36e031f2123b80157dd724b9d5f94a3ddcaad69dcd53b4"), looks := false }, kinds := [], alts := [], laidByText := true, laidKinds := [.data, .pinned], laidTests := true, laidLooks := .later }
def ShieldTellsUptoCardSaid : Prop := Claim7.holds Tryd.pinned (.plain (OpenSpec.upto shieldTellsSpec)) shieldTellsUptoCard
end Rows
end Go.Proofs.YtbmklkjjkjgehaaDoor
