/-
  DERIVED. GIVEN WITH THE SEED: THE CARDS: each row of YtbfoonfbhebhfaaGreatDoorRows.lean that lists a variable, with what it lists TIED to the program's text (the seventh form; the later family's looks); each row that meets fmt, with fmt's text TOLD by the authors' own Lean function (tested against real Go, not proved from fmt's source: count such statements apart). THE CARD IS WHAT COUNTS. Prove the row's statement (the work); the ties are given (YtbfoonfbhebhfaaGreatDoorTie.lean); close each card by the builder's one call (the guide's Derived/Test/ToyasCard.lean, 'card_holds'). Laid BY PROGRAM, IN A SANDBOX (cutbox-door.mjs). By AI agents, Wed Nov 11 2026. No macro, syntax, notation, axiom, sorry.
-/
import Derived.Test.YtbfoonfbhebhfaaGreatDoorRows
import GoSem.ClaimSeven
namespace Go.Proofs.YtbfoonfbhebhfaaGreatDoor
namespace Rows

/-- THE TIED CARD OF 'lumkeep.WalkRoot'. -/
def walkRootCard : Claim7 := { stood := { row := walkRootRow, standIns := [], harness := (true, "de174377681a7f9d41998e701734831b8a6afb9de7498bbe8162b9392163562f"), looks := false }, kinds := [], alts := [], laidByText := true, laidKinds := [.data, .pinned], laidTests := true, laidLooks := .later }
def WalkRootCardSaid : Prop := Claim7.holds Tryz.pinned (.plain (OpenSpec.ofChange walkRootSpec)) walkRootCard

/-- THE TIED CARD OF 'lumkeep.WalkMore'. -/
def walkMoreCard : Claim7 := { stood := { row := walkMoreRow, standIns := [], harness := (true, "de174377681a7f9d41998e701734831b8a6afb9de7498bbe8162b9392163562f"), looks := false }, kinds := [], alts := [], laidByText := true, laidKinds := [.data, .pinned], laidTests := true, laidLooks := .later }
def WalkMoreCardSaid : Prop := Claim7.holds Tryz.pinned (.plain (OpenSpec.ofChange walkMoreSpec)) walkMoreCard

/-- THE TIED CARD OF 'lumkeep.WalkBack'. -/
def walkBackCard : Claim7 := { stood := { row := walkBackRow, standIns := [], harness := (true, "de174377681a7f9d41998e701734831b8a6afb9de7498bbe8162b9392163562f"), looks := false }, kinds := [], alts := [], laidByText := true, laidKinds := [.data, .pinned], laidTests := true, laidLooks := .later }
def WalkBackCardSaid : Prop := Claim7.holds Tryz.pinned (.plain (OpenSpec.ofChange walkBackSpec)) walkBackCard

/-- THE TIED CARD OF 'lumkeep.WalkPath'. -/
def walkPathCard : Claim7 := { stood := { row := walkPathRow, standIns := [], harness := (true, "de174377681a7f9d41998e701734831b8a6afb9de7498bbe8162b9392163562f"), looks := false }, kinds := [], alts := [], laidByText := true, laidKinds := [.data, .pinned], laidTests := true, laidLooks := .later }
def WalkPathCardSaid : Prop := Claim7.holds Tryz.pinned (.plain (OpenSpec.ofChange walkPathSpec)) walkPathCard

/-- THE TIED CARD OF 'lumkeep.WalkOnce'. -/
def walkOnceCard : Claim7 := { stood := { row := walkOnceRow, standIns := [], harness := (true, "de174377681a7f9d41998e701734831b8a6afb9de7498bbe8162b9392163562f"), looks := false }, kinds := [], alts := [], laidByText := true, laidKinds := [.data, .pinned], laidTests := true, laidLooks := .later }
def WalkOnceCardSaid : Prop := Claim7.holds Tryz.pinned (.plain (OpenSpec.ofChange walkOnceSpec)) walkOnceCard

/-- THE TIED CARD OF 'lumkeep.DeltaOwn'. -/
def deltaOwnCard : Claim7 := { stood := { row := deltaOwnRow, standIns := [], harness := (true, "de174377681a7f9d41998e701734831b8a6afb9de7498bbe8162b9392163562f"), looks := false }, kinds := [], alts := [], laidByText := true, laidKinds := [.data, .pinned], laidTests := true, laidLooks := .later }
def DeltaOwnCardSaid : Prop := Claim7.holds Tryz.pinned (.plain (OpenSpec.ofChange deltaOwnSpec)) deltaOwnCard

/-- THE TIED CARD OF 'lumkeep.FetchEnough'. -/
def fetchEnoughCard : Claim7 := { stood := { row := fetchEnoughRow, standIns := [], harness := (true, "de174377681a7f9d41998e701734831b8a6afb9de7498bbe8162b9392163562f"), looks := false }, kinds := [], alts := [], laidByText := true, laidKinds := [.data, .pinned], laidTests := true, laidLooks := .later }
def FetchEnoughCardSaid : Prop := Claim7.holds Tryz.pinned (.plain (OpenSpec.ofChange fetchEnoughSpec)) fetchEnoughCard

/-- THE TIED CARD OF 'lumkeep.FetchOwn'. -/
def fetchOwnCard : Claim7 := { stood := { row := fetchOwnRow, standIns := [], harness := (true, "de174377681a7f9d41998e701734831b8a6afb9de7498bbe8162b9392163562f"), looks := false }, kinds := [], alts := [], laidByText := true, laidKinds := [.data, .pinned], laidTests := true, laidLooks := .later }
def FetchOwnCardSaid : Prop := Claim7.holds Tryz.pinned (.plain (OpenSpec.ofChange fetchOwnSpec)) fetchOwnCard

/-- THE TIED CARD OF 'lumkeep.FetchFront'. -/
def fetchFrontCard : Claim7 := { stood := { row := fetchFrontRow, standIns := [], harness := (true, "de174377681a7f9d41998e701734831b8a6afb9de7498bbe8162b9392163562f"), looks := false }, kinds := [], alts := [], laidByText := true, laidKinds := [.data, .pinned], laidTests := true, laidLooks := .later }
def FetchFrontCardSaid : Prop := Claim7.holds Tryz.pinned (.plain (OpenSpec.ofChange fetchFrontSpec)) fetchFrontCard

/-- THE SECOND FORM's CARD OF 'lumkeep.WalkRoot'. -/
def walkRootUptoCard : Claim7 := { stood := { row := walkRootUptoRow, standIns := [], harness := (true, "de174377681a7f9d41998e701734831b8a6afb9de7498bbe8162b9392163562f"), looks := false }, kinds := [], alts := [], laidByText := true, laidKinds := [.data, .pinned], laidTests := true, laidLooks := .later }
def WalkRootUptoCardSaid : Prop := Claim7.holds Tryz.pinned (.plain (OpenSpec.upto walkRootSpec)) walkRootUptoCard

/-- THE SECOND FORM's CARD OF 'lumkeep.WalkMore'. -/
def walkMoreUptoCard : Claim7 := { stood := { row := walkMoreUptoRow, standIns := [], harness := (true, "de174377681a7f9d41998e701734831b8a6afb9de7498bbe8162b9392163562f"), looks := false }, kinds := [], alts := [], laidByText := true, laidKinds := [.data, .pinned], laidTests := true, laidLooks := .later }
def WalkMoreUptoCardSaid : Prop := Claim7.holds Tryz.pinned (.plain (OpenSpec.upto walkMoreSpec)) walkMoreUptoCard

/-- THE SECOND FORM's CARD OF 'lumkeep.WalkBack'. -/
def walkBackUptoCard : Claim7 := { stood := { row := walkBackUptoRow, standIns := [], harness := (true, "de174377681a7f9d41998e701734831b8a6afb9de7498bbe8162b9392163562f"), looks := false }, kinds := [], alts := [], laidByText := true, laidKinds := [.data, .pinned], laidTests := true, laidLooks := .later }
def WalkBackUptoCardSaid : Prop := Claim7.holds Tryz.pinned (.plain (OpenSpec.upto walkBackSpec)) walkBackUptoCard

/-- THE SECOND FORM's CARD OF 'lumkeep.WalkPath'. -/
def walkPathUptoCard : Claim7 := { stood := { row := walkPathUptoRow, standIns := [], harness := (true, "de174377681a7f9d41998e701734831b8a6afb9de7498bbe8162b9392163562f"), looks := false }, kinds := [], alts := [], laidByText := true, laidKinds := [.data, .pinned], laidTests := true, laidLooks := .later }
def WalkPathUptoCardSaid : Prop := Claim7.holds Tryz.pinned (.plain (OpenSpec.upto walkPathSpec)) walkPathUptoCard

/-- THE SECOND FORM's CARD OF 'lumkeep.WalkOnce'. -/
def walkOnceUptoCard : Claim7 := { stood := { row := walkOnceUptoRow, standIns := [], harness := (true, "de174377681a7f9d41998e701734831b8a6afb9de7498bbe8162b9392163562f"), looks := false }, kinds := [], alts := [], laidByText := true, laidKinds := [.data, .pinned], laidTests := true, laidLooks := .later }
def WalkOnceUptoCardSaid : Prop := Claim7.holds Tryz.pinned (.plain (OpenSpec.upto walkOnceSpec)) walkOnceUptoCard

/-- THE SECOND FORM's CARD OF 'lumkeep.DeltaOwn'. -/
def deltaOwnUptoCard : Claim7 := { stood := { row := deltaOwnUptoRow, standIns := [], harness := (true, "de174377681a7f9d41998e701734831b8a6afb9de7498bbe8162b9392163562f"), looks := false }, kinds := [], alts := [], laidByText := true, laidKinds := [.data, .pinned], laidTests := true, laidLooks := .later }
def DeltaOwnUptoCardSaid : Prop := Claim7.holds Tryz.pinned (.plain (OpenSpec.upto deltaOwnSpec)) deltaOwnUptoCard

/-- THE SECOND FORM's CARD OF 'lumkeep.FetchEnough'. -/
def fetchEnoughUptoCard : Claim7 := { stood := { row := fetchEnoughUptoRow, standIns := [], harness := (true, "de174377681a7f9d41998e701734831b8a6afb9de7498bbe8162b9392163562f"), looks := false }, kinds := [], alts := [], laidByText := true, laidKinds := [.data, .pinned], laidTests := true, laidLooks := .later }
def FetchEnoughUptoCardSaid : Prop := Claim7.holds Tryz.pinned (.plain (OpenSpec.upto fetchEnoughSpec)) fetchEnoughUptoCard

/-- THE SECOND FORM's CARD OF 'lumkeep.FetchOwn'. -/
def fetchOwnUptoCard : Claim7 := { stood := { row := fetchOwnUptoRow, standIns := [], harness := (true, "de174377681a7f9d41998e701734831b8a6afb9de7498bbe8162b9392163562f"), looks := false }, kinds := [], alts := [], laidByText := true, laidKinds := [.data, .pinned], laidTests := true, laidLooks := .later }
def FetchOwnUptoCardSaid : Prop := Claim7.holds Tryz.pinned (.plain (OpenSpec.upto fetchOwnSpec)) fetchOwnUptoCard

/-- THE SECOND FORM's CARD OF 'lumkeep.FetchFront'. -/
def fetchFrontUptoCard : Claim7 := { stood := { row := fetchFrontUptoRow, standIns := [], harness := (true, "de174377681a7f9d41998e701734831b8a6afb9de7498bbe8162b9392163562f"), looks := false }, kinds := [], alts := [], laidByText := true, laidKinds := [.data, .pinned], laidTests := true, laidLooks := .later }
def FetchFrontUptoCardSaid : Prop := Claim7.holds Tryz.pinned (.plain (OpenSpec.upto fetchFrontSpec)) fetchFrontUptoCard
end Rows
end Go.Proofs.YtbfoonfbhebhfaaGreatDoor
