/-
  DERIVED. GIVEN WITH THE SEED: THE CARDS: each row of YtbfhhnpoogmlnaaDoorRows.lean that lists a variable, with what it lists TIED to the program's text (the seventh form; the later family's looks); each row that meets fmt, with fmt's text TOLD by the authors' own Lean function (tested against real Go, not proved from fmt's source: count such statements apart). THE CARD IS WHAT COUNTS. Prove the row's statement (the work); the ties are given (YtbfhhnpoogmlnaaDoorTie.lean); close each card by the builder's one call (the guide's Derived/Test/ToyasCard.lean, 'card_holds'). Laid BY PROGRAM, IN A SANDBOX (cutbox-door.mjs). By AI agents, Wed Nov 11 2026. No macro, syntax, notation, axiom, sorry.
-/
import Derived.Test.YtbfhhnpoogmlnaaDoorRows
import GoSem.ClaimSeven
namespace Go.Proofs.YtbfhhnpoogmlnaaDoor
namespace Rows

/-- THE TIED CARD OF 'lumkeep.FetchTold'. -/
def fetchToldCard : Claim7 := { stood := { row := fetchToldRow, standIns := [], harness := (true, "c812ba09c892ac7efae7ff0a384b2917ec8221c87859d23e8a890abac37885fa"), looks := false }, kinds := [], alts := [], laidByText := true, laidKinds := [.data, .pinned], laidTests := true, laidLooks := .later }
def FetchToldCardSaid : Prop := Claim7.holds Tryd.pinned (.plain (OpenSpec.ofChange fetchToldSpec)) fetchToldCard

/-- THE TIED CARD OF 'lumkeep.GlobPlain'. -/
def globPlainCard : Claim7 := { stood := { row := globPlainRow, standIns := [], harness := (true, "c812ba09c892ac7efae7ff0a384b2917ec8221c87859d23e8a890abac37885fa"), looks := false }, kinds := [], alts := [], laidByText := true, laidKinds := [.data, .pinned], laidTests := true, laidLooks := .later }
def GlobPlainCardSaid : Prop := Claim7.holds Tryd.pinned (.plain (OpenSpec.ofChange globPlainSpec)) globPlainCard

/-- THE TIED CARD OF 'lumkeep.GlobBeneath'. -/
def globBeneathCard : Claim7 := { stood := { row := globBeneathRow, standIns := [], harness := (true, "c812ba09c892ac7efae7ff0a384b2917ec8221c87859d23e8a890abac37885fa"), looks := false }, kinds := [], alts := [], laidByText := true, laidKinds := [.data, .pinned], laidTests := true, laidLooks := .later }
def GlobBeneathCardSaid : Prop := Claim7.holds Tryd.pinned (.plain (OpenSpec.ofChange globBeneathSpec)) globBeneathCard

/-- THE TIED CARD OF 'lumkeep.GlobLast'. -/
def globLastCard : Claim7 := { stood := { row := globLastRow, standIns := [], harness := (true, "c812ba09c892ac7efae7ff0a384b2917ec8221c87859d23e8a890abac37885fa"), looks := false }, kinds := [], alts := [], laidByText := true, laidKinds := [.data, .pinned], laidTests := true, laidLooks := .later }
def GlobLastCardSaid : Prop := Claim7.holds Tryd.pinned (.plain (OpenSpec.ofChange globLastSpec)) globLastCard

/-- THE TIED CARD OF 'lumkeep.GlobSplits'. -/
def globSplitsCard : Claim7 := { stood := { row := globSplitsRow, standIns := [], harness := (true, "c812ba09c892ac7efae7ff0a384b2917ec8221c87859d23e8a890abac37885fa"), looks := false }, kinds := [], alts := [], laidByText := true, laidKinds := [.data, .pinned], laidTests := true, laidLooks := .later }
def GlobSplitsCardSaid : Prop := Claim7.holds Tryd.pinned (.plain (OpenSpec.ofChange globSplitsSpec)) globSplitsCard

/-- THE TIED CARD OF 'lumkeep.PressBack'. -/
def pressBackCard : Claim7 := { stood := { row := pressBackRow, standIns := [], harness := (true, "c812ba09c892ac7efae7ff0a384b2917ec8221c87859d23e8a890abac37885fa"), looks := false }, kinds := [], alts := [], laidByText := true, laidKinds := [.data, .pinned], laidTests := true, laidLooks := .later }
def PressBackCardSaid : Prop := Claim7.holds Tryd.pinned (.plain (OpenSpec.ofChange pressBackSpec)) pressBackCard

/-- THE TIED CARD OF 'lumkeep.PackTrue'. -/
def packTrueCard : Claim7 := { stood := { row := packTrueRow, standIns := [], harness := (true, "c812ba09c892ac7efae7ff0a384b2917ec8221c87859d23e8a890abac37885fa"), looks := false }, kinds := [], alts := [], laidByText := true, laidKinds := [.data, .pinned], laidTests := true, laidLooks := .later }
def PackTrueCardSaid : Prop := Claim7.holds Tryd.pinned (.plain (OpenSpec.ofChange packTrueSpec)) packTrueCard

/-- THE TIED CARD OF 'lumkeep.TreeOwn'. -/
def treeOwnCard : Claim7 := { stood := { row := treeOwnRow, standIns := [], harness := (true, "c812ba09c892ac7efae7ff0a384b2917ec8221c87859d23e8a890abac37885fa"), looks := false }, kinds := [], alts := [], laidByText := true, laidKinds := [.data, .pinned], laidTests := true, laidLooks := .later }
def TreeOwnCardSaid : Prop := Claim7.holds Tryd.pinned (.plain (OpenSpec.ofChange treeOwnSpec)) treeOwnCard

/-- THE TIED CARD OF 'lumkeep.PackTells'. -/
def packTellsCard : Claim7 := { stood := { row := packTellsRow, standIns := [], harness := (true, "c812ba09c892ac7efae7ff0a384b2917ec8221c87859d23e8a890abac37885fa"), looks := false }, kinds := [], alts := [], laidByText := true, laidKinds := [.data, .pinned], laidTests := true, laidLooks := .later }
def PackTellsCardSaid : Prop := Claim7.holds Tryd.pinned (.plain (OpenSpec.ofChange packTellsSpec)) packTellsCard

/-- THE TIED CARD OF 'lumkeep.PackBack'. -/
def packBackCard : Claim7 := { stood := { row := packBackRow, standIns := [], harness := (true, "c812ba09c892ac7efae7ff0a384b2917ec8221c87859d23e8a890abac37885fa"), looks := false }, kinds := [], alts := [], laidByText := true, laidKinds := [.data, .pinned], laidTests := true, laidLooks := .later }
def PackBackCardSaid : Prop := Claim7.holds Tryd.pinned (.plain (OpenSpec.ofChange packBackSpec)) packBackCard

/-- THE TIED CARD OF 'lumkeep.MoveBack'. -/
def moveBackCard : Claim7 := { stood := { row := moveBackRow, standIns := [], harness := (true, "c812ba09c892ac7efae7ff0a384b2917ec8221c87859d23e8a890abac37885fa"), looks := false }, kinds := [], alts := [], laidByText := true, laidKinds := [.data, .pinned], laidTests := true, laidLooks := .later }
def MoveBackCardSaid : Prop := Claim7.holds Tryd.pinned (.plain (OpenSpec.ofChange moveBackSpec)) moveBackCard

/-- THE SECOND FORM's CARD OF 'lumkeep.FetchTold'. -/
def fetchToldUptoCard : Claim7 := { stood := { row := fetchToldUptoRow, standIns := [], harness := (true, "c812ba09c892ac7efae7ff0a384b2917ec8221c87859d23e8a890abac37885fa"), looks := false }, kinds := [], alts := [], laidByText := true, laidKinds := [.data, .pinned], laidTests := true, laidLooks := .later }
def FetchToldUptoCardSaid : Prop := Claim7.holds Tryd.pinned (.plain (OpenSpec.upto fetchToldSpec)) fetchToldUptoCard

/-- THE SECOND FORM's CARD OF 'lumkeep.GlobPlain'. -/
def globPlainUptoCard : Claim7 := { stood := { row := globPlainUptoRow, standIns := [], harness := (true, "c812ba09c892ac7efae7ff0a384b2917ec8221c87859d23e8a890abac37885fa"), looks := false }, kinds := [], alts := [], laidByText := true, laidKinds := [.data, .pinned], laidTests := true, laidLooks := .later }
def GlobPlainUptoCardSaid : Prop := Claim7.holds Tryd.pinned (.plain (OpenSpec.upto globPlainSpec)) globPlainUptoCard

/-- THE SECOND FORM's CARD OF 'lumkeep.GlobBeneath'. -/
def globBeneathUptoCard : Claim7 := { stood := { row := globBeneathUptoRow, standIns := [], harness := (true, "c812ba09c892ac7efae7ff0a384b2917ec8221c87859d23e8a890abac37885fa"), looks := false }, kinds := [], alts := [], laidByText := true, laidKinds := [.data, .pinned], laidTests := true, laidLooks := .later }
def GlobBeneathUptoCardSaid : Prop := Claim7.holds Tryd.pinned (.plain (OpenSpec.upto globBeneathSpec)) globBeneathUptoCard

/-- THE SECOND FORM's CARD OF 'lumkeep.GlobLast'. -/
def globLastUptoCard : Claim7 := { stood := { row := globLastUptoRow, standIns := [], harness := (true, "c812ba09c892ac7efae7ff0a384b2917ec8221c87859d23e8a890abac37885fa"), looks := false }, kinds := [], alts := [], laidByText := true, laidKinds := [.data, .pinned], laidTests := true, laidLooks := .later }
def GlobLastUptoCardSaid : Prop := Claim7.holds Tryd.pinned (.plain (OpenSpec.upto globLastSpec)) globLastUptoCard

/-- THE SECOND FORM's CARD OF 'lumkeep.GlobSplits'. -/
def globSplitsUptoCard : Claim7 := { stood := { row := globSplitsUptoRow, standIns := [], harness := (true, "c812ba09c892ac7efae7ff0a384b2917ec8221c87859d23e8a890abac37885fa"), looks := false }, kinds := [], alts := [], laidByText := true, laidKinds := [.data, .pinned], laidTests := true, laidLooks := .later }
def GlobSplitsUptoCardSaid : Prop := Claim7.holds Tryd.pinned (.plain (OpenSpec.upto globSplitsSpec)) globSplitsUptoCard

/-- THE SECOND FORM's CARD OF 'lumkeep.PressBack'. -/
def pressBackUptoCard : Claim7 := { stood := { row := pressBackUptoRow, standIns := [], harness := (true, "c812ba09c892ac7efae7ff0a384b2917ec8221c87859d23e8a890abac37885fa"), looks := false }, kinds := [], alts := [], laidByText := true, laidKinds := [.data, .pinned], laidTests := true, laidLooks := .later }
def PressBackUptoCardSaid : Prop := Claim7.holds Tryd.pinned (.plain (OpenSpec.upto pressBackSpec)) pressBackUptoCard

/-- THE SECOND FORM's CARD OF 'lumkeep.PackTrue'. -/
def packTrueUptoCard : Claim7 := { stood := { row := packTrueUptoRow, standIns := [], harness := (true, "c812ba09c892ac7efae7ff0a384b2917ec8221c87859d23e8a890abac37885fa"), looks := false }, kinds := [], alts := [], laidByText := true, laidKinds := [.data, .pinned], laidTests := true, laidLooks := .later }
def PackTrueUptoCardSaid : Prop := Claim7.holds Tryd.pinned (.plain (OpenSpec.upto packTrueSpec)) packTrueUptoCard

/-- THE SECOND FORM's CARD OF 'lumkeep.TreeOwn'. -/
def treeOwnUptoCard : Claim7 := { stood := { row := treeOwnUptoRow, standIns := [], harness := (true, "c812ba09c892ac7efae7ff0a384b2917ec8221c87859d23e8a890abac37885fa"), looks := false }, kinds := [], alts := [], laidByText := true, laidKinds := [.data, .pinned], laidTests := true, laidLooks := .later }
def TreeOwnUptoCardSaid : Prop := Claim7.holds Tryd.pinned (.plain (OpenSpec.upto treeOwnSpec)) treeOwnUptoCard

/-- THE SECOND FORM's CARD OF 'lumkeep.PackTells'. -/
def packTellsUptoCard : Claim7 := { stood := { row := packTellsUptoRow, standIns := [], harness := (true, "c812ba09c892ac7efae7ff0a384b2917ec8221c87859d23e8a890abac37885fa"), looks := false }, kinds := [], alts := [], laidByText := true, laidKinds := [.data, .pinned], laidTests := true, laidLooks := .later }
def PackTellsUptoCardSaid : Prop := Claim7.holds Tryd.pinned (.plain (OpenSpec.upto packTellsSpec)) packTellsUptoCard

/-- THE SECOND FORM's CARD OF 'lumkeep.PackBack'. -/
def packBackUptoCard : Claim7 := { stood := { row := packBackUptoRow, standIns := [], harness := (true, "c812ba09c892ac7efae7ff0a384b2917ec8221c87859d23e8a890abac37885fa"), looks := false }, kinds := [], alts := [], laidByText := true, laidKinds := [.data, .pinned], laidTests := true, laidLooks := .later }
def PackBackUptoCardSaid : Prop := Claim7.holds Tryd.pinned (.plain (OpenSpec.upto packBackSpec)) packBackUptoCard

/-- THE SECOND FORM's CARD OF 'lumkeep.MoveBack'. -/
def moveBackUptoCard : Claim7 := { stood := { row := moveBackUptoRow, standIns := [], harness := (true, "c812ba09c892ac7efae7ff0a384b2917ec8221c87859d23e8a890abac37885fa"), looks := false }, kinds := [], alts := [], laidByText := true, laidKinds := [.data, .pinned], laidTests := true, laidLooks := .later }
def MoveBackUptoCardSaid : Prop := Claim7.holds Tryd.pinned (.plain (OpenSpec.upto moveBackSpec)) moveBackUptoCard
end Rows
end Go.Proofs.YtbfhhnpoogmlnaaDoor
