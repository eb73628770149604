/-
  DERIVED. GIVEN WITH THE SEED: THE CARDS: each row of YtpfmfigommmjiaaDoorRows.lean that lists a variable, with what it lists TIED to the program's text (the seventh form; the later family's looks); each row that meets fmt, with fmt's text TOLD by the authors' own Lean function (tested against real Go, not proved from fmt's source: count such statements apart). THE CARD IS WHAT COUNTS. Prove the row's statement (the work); the ties are given (YtpfmfigommmjiaaDoorTie.lean); close each card by the builder's one call (the guide's Derived/Test/ToyasCard.lean, 'card_holds'). Laid BY PROGRAM, IN A SANDBOX (cutbox-door.mjs). By AI agents, Wed Nov 11 2026. No macro, syntax, notation, axiom, sorry.
-/
import Derived.Test.YtpfmfigommmjiaaDoorRows
import GoSem.ClaimSeven
namespace Go.Proofs.YtpfmfigommmjiaaDoor
namespace Rows

/-- THE TIED CARD OF 'lumkeep.FetchTold'. -/
def fetchToldCard : Claim7 := { stood := { row := fetchToldRow, standIns := [], harness := (true, "fe5c224ee0cd8f853b849a8d7a69e39ddfbbefc9fa33348e3c7a7fd1a0a37975"), looks := false }, kinds := [], alts := [], laidByText := true, laidKinds := [.data, .pinned], laidTests := true, laidLooks := .later }
def FetchToldCardSaid : Prop := Claim7.holds Tryd.pinned (.plain (OpenSpec.ofChange fetchToldSpec)) fetchToldCard

/-- THE TIED CARD OF 'lumkeep.TreeOwn'. -/
def treeOwnCard : Claim7 := { stood := { row := treeOwnRow, standIns := [], harness := (true, "fe5c224ee0cd8f853b849a8d7a69e39ddfbbefc9fa33348e3c7a7fd1a0a37975"), looks := false }, kinds := [], alts := [], laidByText := true, laidKinds := [.data, .pinned], laidTests := true, laidLooks := .later }
def TreeOwnCardSaid : Prop := Claim7.holds Tryd.pinned (.plain (OpenSpec.ofChange treeOwnSpec)) treeOwnCard

/-- THE SECOND FORM's CARD OF 'lumkeep.FetchTold'. -/
def fetchToldUptoCard : Claim7 := { stood := { row := fetchToldUptoRow, standIns := [], harness := (true, "fe5c224ee0cd8f853b849a8d7a69e39ddfbbefc9fa33348e3c7a7fd1a0a37975"), looks := false }, kinds := [], alts := [], laidByText := true, laidKinds := [.data, .pinned], laidTests := true, laidLooks := .later }
def FetchToldUptoCardSaid : Prop := Claim7.holds Tryd.pinned (.plain (OpenSpec.upto fetchToldSpec)) fetchToldUptoCard

/-- THE SECOND FORM's CARD OF 'lumkeep.TreeOwn'. -/
def treeOwnUptoCard : Claim7 := { stood := { row := treeOwnUptoRow, standIns := [], harness := (true, "fe5c224ee0cd8f853b849a8d7a69e39ddfbbefc9fa33348e3c7a7fd1a0a37975"), looks := false }, kinds := [], alts := [], laidByText := true, laidKinds := [.data, .pinned], laidTests := true, laidLooks := .later }
def TreeOwnUptoCardSaid : Prop := Claim7.holds Tryd.pinned (.plain (OpenSpec.upto treeOwnSpec)) treeOwnUptoCard
end Rows
end Go.Proofs.YtpfmfigommmjiaaDoor
