/-
  DERIVED. GIVEN WITH THE SEED: THE CARDS: each row of YtiokodjlijaddaaDoorRows.lean that lists a variable, with what it lists TIED to the program's text (the seventh form; the later family's looks); each row that meets fmt, with fmt's text TOLD by the authors' own Lean function (tested against real Go, not proved from fmt's source: count such statements apart). THE CARD IS WHAT COUNTS. Prove the row's statement (the work); the ties are given (YtiokodjlijaddaaDoorTie.lean); close each card by the builder's one call (the guide's Derived/Test/ToyasCard.lean, 'card_holds'). Laid BY PROGRAM, IN A SANDBOX (cutbox-door.mjs). By AI agents, Wed Nov 11 2026. No macro, syntax, notation, axiom, sorry.
-/
import Derived.Test.YtiokodjlijaddaaDoorRows
import GoSem.ClaimSeven
namespace Go.Proofs.YtiokodjlijaddaaDoor
namespace Rows

/-- THE TIED CARD OF 'lumkeep.IndexBack'. -/
def indexBackCard : Claim7 := { stood := { row := indexBackRow, standIns := [], harness := (true, "ebca598c87dad69570af82300e06ff3198fcc28f525d760dc5ea744b5f172d98"), looks := false }, kinds := [], alts := [], laidByText := true, laidKinds := [.data, .pinned], laidTests := true, laidLooks := .later }
def IndexBackCardSaid : Prop := Claim7.holds Tryd.pinned (.plain (OpenSpec.ofChange indexBackSpec)) indexBackCard

/-- THE TIED CARD OF 'lumkeep.NumOrder'. -/
def numOrderCard : Claim7 := { stood := { row := numOrderRow, standIns := [], harness := (true, "ebca598c87dad69570af82300e06ff3198fcc28f525d760dc5ea744b5f172d98"), looks := false }, kinds := [], alts := [], laidByText := true, laidKinds := [.data, .pinned], laidTests := true, laidLooks := .later }
def NumOrderCardSaid : Prop := Claim7.holds Tryd.pinned (.plain (OpenSpec.ofChange numOrderSpec)) numOrderCard

/-- THE TIED CARD OF 'lumkeep.NumFree'. -/
def numFreeCard : Claim7 := { stood := { row := numFreeRow, standIns := [], harness := (true, "ebca598c87dad69570af82300e06ff3198fcc28f525d760dc5ea744b5f172d98"), looks := false }, kinds := [], alts := [], laidByText := true, laidKinds := [.data, .pinned], laidTests := true, laidLooks := .later }
def NumFreeCardSaid : Prop := Claim7.holds Tryd.pinned (.plain (OpenSpec.ofChange numFreeSpec)) numFreeCard

/-- THE TIED CARD OF 'lumkeep.NumBack'. -/
def numBackCard : Claim7 := { stood := { row := numBackRow, standIns := [], harness := (true, "ebca598c87dad69570af82300e06ff3198fcc28f525d760dc5ea744b5f172d98"), looks := false }, kinds := [], alts := [], laidByText := true, laidKinds := [.data, .pinned], laidTests := true, laidLooks := .later }
def NumBackCardSaid : Prop := Claim7.holds Tryd.pinned (.plain (OpenSpec.ofChange numBackSpec)) numBackCard

/-- THE TIED CARD OF 'lumkeep.NumOne'. -/
def numOneCard : Claim7 := { stood := { row := numOneRow, standIns := [], harness := (true, "ebca598c87dad69570af82300e06ff3198fcc28f525d760dc5ea744b5f172d98"), looks := false }, kinds := [], alts := [], laidByText := true, laidKinds := [.data, .pinned], laidTests := true, laidLooks := .later }
def NumOneCardSaid : Prop := Claim7.holds Tryd.pinned (.plain (OpenSpec.ofChange numOneSpec)) numOneCard

/-- THE SECOND FORM's CARD OF 'lumkeep.IndexBack'. -/
def indexBackUptoCard : Claim7 := { stood := { row := indexBackUptoRow, standIns := [], harness := (true, "ebca598c87dad69570af82300e06ff3198fcc28f525d760dc5ea744b5f172d98"), looks := false }, kinds := [], alts := [], laidByText := true, laidKinds := [.data, .pinned], laidTests := true, laidLooks := .later }
def IndexBackUptoCardSaid : Prop := Claim7.holds Tryd.pinned (.plain (OpenSpec.upto indexBackSpec)) indexBackUptoCard

/-- THE SECOND FORM's CARD OF 'lumkeep.NumOrder'. -/
def numOrderUptoCard : Claim7 := { stood := { row := numOrderUptoRow, standIns := [], harness := (true, "ebca598c87dad69570af82300e06ff3198fcc28f525d760dc5ea744b5f172d98"), looks := false }, kinds := [], alts := [], laidByText := true, laidKinds := [.data, .pinned], laidTests := true, laidLooks := .later }
def NumOrderUptoCardSaid : Prop := Claim7.holds Tryd.pinned (.plain (OpenSpec.upto numOrderSpec)) numOrderUptoCard

/-- THE SECOND FORM's CARD OF 'lumkeep.NumFree'. -/
def numFreeUptoCard : Claim7 := { stood := { row := numFreeUptoRow, standIns := [], harness := (true, "ebca598c87dad69570af82300e06ff3198fcc28f525d760dc5ea744b5f172d98"), looks := false }, kinds := [], alts := [], laidByText := true, laidKinds := [.data, .pinned], laidTests := true, laidLooks := .later }
def NumFreeUptoCardSaid : Prop := Claim7.holds Tryd.pinned (.plain (OpenSpec.upto numFreeSpec)) numFreeUptoCard

/-- THE SECOND FORM's CARD OF 'lumkeep.NumBack'. -/
def numBackUptoCard : Claim7 := { stood := { row := numBackUptoRow, standIns := [], harness := (true, "ebca598c87dad69570af82300e06ff3198fcc28f525d760dc5ea744b5f172d98"), looks := false }, kinds := [], alts := [], laidByText := true, laidKinds := [.data, .pinned], laidTests := true, laidLooks := .later }
def NumBackUptoCardSaid : Prop := Claim7.holds Tryd.pinned (.plain (OpenSpec.upto numBackSpec)) numBackUptoCard

/-- THE SECOND FORM's CARD OF 'lumkeep.NumOne'. -/
def numOneUptoCard : Claim7 := { stood := { row := numOneUptoRow, standIns := [], harness := (true, "ebca598c87dad69570af82300e06ff3198fcc28f525d760dc5ea744b5f172d98"), looks := false }, kinds := [], alts := [], laidByText := true, laidKinds := [.data, .pinned], laidTests := true, laidLooks := .later }
def NumOneUptoCardSaid : Prop := Claim7.holds Tryd.pinned (.plain (OpenSpec.upto numOneSpec)) numOneUptoCard
end Rows
end Go.Proofs.YtiokodjlijaddaaDoor
