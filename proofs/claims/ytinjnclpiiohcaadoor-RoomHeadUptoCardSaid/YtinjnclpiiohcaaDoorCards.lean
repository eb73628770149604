/-
  DERIVED. GIVEN WITH THE SEED: THE CARDS: each row of YtinjnclpiiohcaaDoorRows.lean that lists a variable, with what it lists TIED to the program's text (the seventh form; the later family's looks); each row that meets fmt, with fmt's text TOLD by the authors' own Lean function (tested against real Go, not proved from fmt's source: count such statements apart). THE CARD IS WHAT COUNTS. Prove the row's statement (the work); the ties are given (YtinjnclpiiohcaaDoorTie.lean); close each card by the builder's one call (the guide's Derived/Test/ToyasCard.lean, 'card_holds'). Laid BY PROGRAM, IN A SANDBOX (cutbox-door.mjs). By AI agents, Wed Nov 11 2026. No macro, syntax, notation, axiom, sorry.
-/
import Derived.Test.YtinjnclpiiohcaaDoorRows
import GoSem.ClaimSeven
namespace Go.Proofs.YtinjnclpiiohcaaDoor
namespace Rows

/-- THE TIED CARD OF 'lumkeep.IndexBack'. -/
def indexBackCard : Claim7 := { stood := { row := indexBackRow, standIns := [], harness := (true, "c7c8e5d2167b7aedd3fc6d85d2ea99b90c38fe7c2d5459d039291f046673cc63"), looks := false }, kinds := [], alts := [], laidByText := true, laidKinds := [.data, .pinned], laidTests := true, laidLooks := .later }
def IndexBackCardSaid : Prop := Claim7.holds Tryd.pinned (.plain (OpenSpec.ofChange indexBackSpec)) indexBackCard

/-- THE TIED CARD OF 'lumkeep.FetchTold'. -/
def fetchToldCard : Claim7 := { stood := { row := fetchToldRow, standIns := [], harness := (true, "c7c8e5d2167b7aedd3fc6d85d2ea99b90c38fe7c2d5459d039291f046673cc63"), looks := false }, kinds := [], alts := [], laidByText := true, laidKinds := [.data, .pinned], laidTests := true, laidLooks := .later }
def FetchToldCardSaid : Prop := Claim7.holds Tryd.pinned (.plain (OpenSpec.ofChange fetchToldSpec)) fetchToldCard

/-- THE TIED CARD OF 'lumkeep.LineBack'. -/
def lineBackCard : Claim7 := { stood := { row := lineBackRow, standIns := [], harness := (true, "c7c8e5d2167b7aedd3fc6d85d2ea99b90c38fe7c2d5459d039291f046673cc63"), looks := false }, kinds := [], alts := [], laidByText := true, laidKinds := [.data, .pinned], laidTests := true, laidLooks := .later }
def LineBackCardSaid : Prop := Claim7.holds Tryd.pinned (.plain (OpenSpec.ofChange lineBackSpec)) lineBackCard

/-- THE TIED CARD OF 'lumkeep.RoomHead'. -/
def roomHeadCard : Claim7 := { stood := { row := roomHeadRow, standIns := [], harness := (true, "c7c8e5d2167b7aedd3fc6d85d2ea99b90c38fe7c2d5459d039291f046673cc63"), looks := false }, kinds := [], alts := [], laidByText := true, laidKinds := [.data, .pinned], laidTests := true, laidLooks := .later }
def RoomHeadCardSaid : Prop := Claim7.holds Tryd.pinned (.plain (OpenSpec.ofChange roomHeadSpec)) roomHeadCard

/-- THE TIED CARD OF 'lumkeep.TreeOne'. -/
def treeOneCard : Claim7 := { stood := { row := treeOneRow, standIns := [], harness := (true, "c7c8e5d2167b7aedd3fc6d85d2ea99b90c38fe7c2d5459d039291f046673cc63"), looks := false }, kinds := [], alts := [], laidByText := true, laidKinds := [.data, .pinned], laidTests := true, laidLooks := .later }
def TreeOneCardSaid : Prop := Claim7.holds Tryd.pinned (.plain (OpenSpec.ofChange treeOneSpec)) treeOneCard

/-- THE TIED CARD OF 'lumkeep.TreeBack'. -/
def treeBackCard : Claim7 := { stood := { row := treeBackRow, standIns := [], harness := (true, "c7c8e5d2167b7aedd3fc6d85d2ea99b90c38fe7c2d5459d039291f046673cc63"), looks := false }, kinds := [], alts := [], laidByText := true, laidKinds := [.data, .pinned], laidTests := true, laidLooks := .later }
def TreeBackCardSaid : Prop := Claim7.holds Tryd.pinned (.plain (OpenSpec.ofChange treeBackSpec)) treeBackCard

/-- THE SECOND FORM's CARD OF 'lumkeep.IndexBack'. -/
def indexBackUptoCard : Claim7 := { stood := { row := indexBackUptoRow, standIns := [], harness := (true, "c7c8e5d2167b7aedd3fc6d85d2ea99b90c38fe7c2d5459d039291f046673cc63"), looks := false }, kinds := [], alts := [], laidByText := true, laidKinds := [.data, .pinned], laidTests := true, laidLooks := .later }
def IndexBackUptoCardSaid : Prop := Claim7.holds Tryd.pinned (.plain (OpenSpec.upto indexBackSpec)) indexBackUptoCard

/-- THE SECOND FORM's CARD OF 'lumkeep.FetchTold'. -/
def fetchToldUptoCard : Claim7 := { stood := { row := fetchToldUptoRow, standIns := [], harness := (true, "c7c8e5d2167b7aedd3fc6d85d2ea99b90c38fe7c2d5459d039291f046673cc63"), looks := false }, kinds := [], alts := [], laidByText := true, laidKinds := [.data, .pinned], laidTests := true, laidLooks := .later }
def FetchToldUptoCardSaid : Prop := Claim7.holds Tryd.pinned (.plain (OpenSpec.upto fetchToldSpec)) fetchToldUptoCard

/-- THE SECOND FORM's CARD OF 'lumkeep.LineBack'. -/
def lineBackUptoCard : Claim7 := { stood := { row := lineBackUptoRow, standIns := [], harness := (true, "c7c8e5d2167b7aedd3fc6d85d2ea99b90c38fe7c2d5459d039291f046673cc63"), looks := false }, kinds := [], alts := [], laidByText := true, laidKinds := [.data, .pinned], laidTests := true, laidLooks := .later }
def LineBackUptoCardSaid : Prop := Claim7.holds Tryd.pinned (.plain (OpenSpec.upto lineBackSpec)) lineBackUptoCard

/-- THE SECOND FORM's CARD OF 'lumkeep.RoomHead'. -/
def roomHeadUptoCard : Claim7 := { stood := { row := roomHeadUptoRow, standIns := [], harness := (true, "c7c8e5d2167b7aedd3fc6d85d2ea99b90c38fe7c2d5459d039291f046673cc63"), looks := false }, kinds := [], alts := [], laidByText := true, laidKinds := [.data, .pinned], laidTests := true, laidLooks := .later }
def RoomHeadUptoCardSaid : Prop := Claim7.holds Tryd.pinned (.plain (OpenSpec.upto roomHeadSpec)) roomHeadUptoCard

/-- THE SECOND FORM's CARD OF 'lumkeep.TreeOne'. -/
def treeOneUptoCard : Claim7 := { stood := { row := treeOneUptoRow, standIns := [], harness := (true, "c7c8e5d2167b7aedd3fc6d85d2ea99b90c38fe7c2d5459d039291f046673cc63"), looks := false }, kinds := [], alts := [], laidByText := true, laidKinds := [.data, .pinned], laidTests := true, laidLooks := .later }
def TreeOneUptoCardSaid : Prop := Claim7.holds Tryd.pinned (.plain (OpenSpec.upto treeOneSpec)) treeOneUptoCard

/-- THE SECOND FORM's CARD OF 'lumkeep.TreeBack'. -/
def treeBackUptoCard : Claim7 := { stood := { row := treeBackUptoRow, standIns := [], harness := (true, "c7c8e5d2167b7aedd3fc6d85d2ea99b90c38fe7c2d5459d039291f046673cc63"), looks := false }, kinds := [], alts := [], laidByText := true, laidKinds := [.data, .pinned], laidTests := true, laidLooks := .later }
def TreeBackUptoCardSaid : Prop := Claim7.holds Tryd.pinned (.plain (OpenSpec.upto treeBackSpec)) treeBackUptoCard
end Rows
end Go.Proofs.YtinjnclpiiohcaaDoor
