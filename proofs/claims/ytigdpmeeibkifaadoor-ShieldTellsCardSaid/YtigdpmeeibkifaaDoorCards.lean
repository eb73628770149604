/-
  DERIVED. GIVEN WITH THE SEED: THE CARDS: each row of YtigdpmeeibkifaaDoorRows.lean that lists a variable, with what it lists TIED to the program's text (the seventh form; the later family's looks); each row that meets fmt, with fmt's text TOLD by the authors' own Lean function (tested against real Go, not proved from fmt's source: count such statements apart). THE CARD IS WHAT COUNTS. Prove the row's statement (the work); the ties are given (YtigdpmeeibkifaaDoorTie.lean); close each card by the builder's one call (the guide's Derived/Test/ToyasCard.lean, 'card_holds'). Laid BY PROGRAM, IN A SANDBOX (cutbox-door.mjs). By AI agents, Wed Nov 11 2026. No macro, syntax, notation, axiom, sorry.
-/
import Derived.Test.YtigdpmeeibkifaaDoorRows
import GoSem.ClaimSeven
namespace Go.Proofs.YtigdpmeeibkifaaDoor
namespace Rows

/-- THE TIED CARD OF 'lumkeep.ShieldFar'. -/
def shieldFarCard : Claim7 := { stood := { row := shieldFarRow, standIns := [], harness := (true, "12910df3a1abe4230b0811002a3b9c639904a0bc54647fa39ac3e396d493c845"), looks := false }, kinds := [], alts := [], laidByText := true, laidKinds := [.data, .pinned], laidTests := true, laidLooks := .later }
def ShieldFarCardSaid : Prop := Claim7.holds Tryd.pinned (.plain (OpenSpec.ofChange shieldFarSpec)) shieldFarCard

/-- THE TIED CARD OF 'lumkeep.ShieldTells'. -/
def shieldTellsCard : Claim7 := { stood := { row := shieldTellsRow, standIns := [], harness := (true, "12910df3a1abe4230b0811002a3b9c639904a0bc54647fa39ac3e396d493c845"), looks := false }, kinds := [], alts := [], laidByText := true, laidKinds := [.data, .pinned], laidTests := true, laidLooks := .later }
def ShieldTellsCardSaid : Prop := Claim7.holds Tryd.pinned (.plain (OpenSpec.ofChange shieldTellsSpec)) shieldTellsCard

/-- THE SECOND FORM's CARD OF 'lumkeep.ShieldFar'. -/
def shieldFarUptoCard : Claim7 := { stood := { row := shieldFarUptoRow, standIns := [], harness := (true, "12910df3a1abe4230b0811002a3b9c639904a0bc54647fa39ac3e396d493c845"), looks := false }, kinds := [], alts := [], laidByText := true, laidKinds := [.data, .pinned], laidTests := true, laidLooks := .later }
def ShieldFarUptoCardSaid : Prop := Claim7.holds Tryd.pinned (.plain (OpenSpec.upto shieldFarSpec)) shieldFarUptoCard

/-- THE SECOND FORM's CARD OF 'lumkeep.ShieldTells'. -/
def shieldTellsUptoCard : Claim7 := { stood := { row := shieldTellsUptoRow, standIns := [], harness := (true, "12910df3a1abe4230b0811002a3b9c639904a0bc54647fa39ac3e396d493c845"), looks := false }, kinds := [], alts := [], laidByText := true, laidKinds := [.data, .pinned], laidTests := true, laidLooks := .later }
def ShieldTellsUptoCardSaid : Prop := Claim7.holds Tryd.pinned (.plain (OpenSpec.upto shieldTellsSpec)) shieldTellsUptoCard
end Rows
end Go.Proofs.YtigdpmeeibkifaaDoor
