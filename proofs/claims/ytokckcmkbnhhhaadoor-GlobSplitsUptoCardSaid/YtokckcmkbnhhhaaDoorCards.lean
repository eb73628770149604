/-
  DERIVED. GIVEN WITH THE SEED: THE CARDS: each row of YtokckcmkbnhhhaaDoorRows.lean that lists a variable, with what it lists TIED to the program's text (the seventh form; the later family's looks); each row that meets fmt, with fmt's text TOLD by the authors' own Lean function (tested against real Go, not proved from fmt's source: count such statements apart). THE CARD IS WHAT COUNTS. Prove the row's statement (the work); the ties are given (YtokckcmkbnhhhaaDoorTie.lean); close each card by the builder's one call (the guide's Derived/Test/ToyasCard.lean, 'card_holds'). Laid BY PROGRAM, IN A SANDBOX (cutbox-door.mjs). By AI agents, Wed Nov 11 2026. No macro, syntax, notation, axiom, sorry.
-/
import Derived.Test.YtokckcmkbnhhhaaDoorRows
import GoSem.ClaimSeven
namespace Go.Proofs.YtokckcmkbnhhhaaDoor
namespace Rows

/-- THE TIED CARD OF 'lumkeep.LeaseAlone'. -/
def leaseAloneCard : Claim7 := { stood := { row := leaseAloneRow, standIns := [], harness := (true, "9fbcff59f3499627d2829dbb59c871e04e12d3093bd4bf2317546f661c910a86"), looks := false }, kinds := [], alts := [], laidByText := true, laidKinds := [.data, .pinned], laidTests := true, laidLooks := .later }
def LeaseAloneCardSaid : Prop := Claim7.holds Tryd.pinned (.plain (OpenSpec.ofChange leaseAloneSpec)) leaseAloneCard

/-- THE TIED CARD OF 'lumkeep.LeaseFence'. -/
def leaseFenceCard : Claim7 := { stood := { row := leaseFenceRow, standIns := [], harness := (true, "9fbcff59f3499627d2829dbb59c871e04e12d3093bd4bf2317546f661c910a86"), looks := false }, kinds := [], alts := [], laidByText := true, laidKinds := [.data, .pinned], laidTests := true, laidLooks := .later }
def LeaseFenceCardSaid : Prop := Claim7.holds Tryd.pinned (.plain (OpenSpec.ofChange leaseFenceSpec)) leaseFenceCard

/-- THE TIED CARD OF 'lumkeep.NamesOrder'. -/
def namesOrderCard : Claim7 := { stood := { row := namesOrderRow, standIns := [], harness := (true, "9fbcff59f3499627d2829dbb59c871e04e12d3093bd4bf2317546f661c910a86"), looks := false }, kinds := [], alts := [], laidByText := true, laidKinds := [.data, .pinned], laidTests := true, laidLooks := .later }
def NamesOrderCardSaid : Prop := Claim7.holds Tryd.pinned (.plain (OpenSpec.ofChange namesOrderSpec)) namesOrderCard

/-- THE TIED CARD OF 'lumkeep.NamesClean'. -/
def namesCleanCard : Claim7 := { stood := { row := namesCleanRow, standIns := [], harness := (true, "9fbcff59f3499627d2829dbb59c871e04e12d3093bd4bf2317546f661c910a86"), looks := false }, kinds := [], alts := [], laidByText := true, laidKinds := [.data, .pinned], laidTests := true, laidLooks := .later }
def NamesCleanCardSaid : Prop := Claim7.holds Tryd.pinned (.plain (OpenSpec.ofChange namesCleanSpec)) namesCleanCard

/-- THE TIED CARD OF 'lumkeep.NamesBack'. -/
def namesBackCard : Claim7 := { stood := { row := namesBackRow, standIns := [], harness := (true, "9fbcff59f3499627d2829dbb59c871e04e12d3093bd4bf2317546f661c910a86"), looks := false }, kinds := [], alts := [], laidByText := true, laidKinds := [.data, .pinned], laidTests := true, laidLooks := .later }
def NamesBackCardSaid : Prop := Claim7.holds Tryd.pinned (.plain (OpenSpec.ofChange namesBackSpec)) namesBackCard

/-- THE TIED CARD OF 'lumkeep.GlobPlain'. -/
def globPlainCard : Claim7 := { stood := { row := globPlainRow, standIns := [], harness := (true, "9fbcff59f3499627d2829dbb59c871e04e12d3093bd4bf2317546f661c910a86"), looks := false }, kinds := [], alts := [], laidByText := true, laidKinds := [.data, .pinned], laidTests := true, laidLooks := .later }
def GlobPlainCardSaid : Prop := Claim7.holds Tryd.pinned (.plain (OpenSpec.ofChange globPlainSpec)) globPlainCard

/-- THE TIED CARD OF 'lumkeep.DeltaMetric'. -/
def deltaMetricCard : Claim7 := { stood := { row := deltaMetricRow, standIns := [], harness := (true, "9fbcff59f3499627d2829dbb59c871e04e12d3093bd4bf2317546f661c910a86"), looks := false }, kinds := [], alts := [], laidByText := true, laidKinds := [.data, .pinned], laidTests := true, laidLooks := .later }
def DeltaMetricCardSaid : Prop := Claim7.holds Tryd.pinned (.plain (OpenSpec.ofChange deltaMetricSpec)) deltaMetricCard

/-- THE TIED CARD OF 'lumkeep.GlobBeneath'. -/
def globBeneathCard : Claim7 := { stood := { row := globBeneathRow, standIns := [], harness := (true, "9fbcff59f3499627d2829dbb59c871e04e12d3093bd4bf2317546f661c910a86"), looks := false }, kinds := [], alts := [], laidByText := true, laidKinds := [.data, .pinned], laidTests := true, laidLooks := .later }
def GlobBeneathCardSaid : Prop := Claim7.holds Tryd.pinned (.plain (OpenSpec.ofChange globBeneathSpec)) globBeneathCard

/-- THE TIED CARD OF 'lumkeep.GlobLast'. -/
def globLastCard : Claim7 := { stood := { row := globLastRow, standIns := [], harness := (true, "9fbcff59f3499627d2829dbb59c871e04e12d3093bd4bf2317546f661c910a86"), looks := false }, kinds := [], alts := [], laidByText := true, laidKinds := [.data, .pinned], laidTests := true, laidLooks := .later }
def GlobLastCardSaid : Prop := Claim7.holds Tryd.pinned (.plain (OpenSpec.ofChange globLastSpec)) globLastCard

/-- THE TIED CARD OF 'lumkeep.DeltaBack'. -/
def deltaBackCard : Claim7 := { stood := { row := deltaBackRow, standIns := [], harness := (true, "9fbcff59f3499627d2829dbb59c871e04e12d3093bd4bf2317546f661c910a86"), looks := false }, kinds := [], alts := [], laidByText := true, laidKinds := [.data, .pinned], laidTests := true, laidLooks := .later }
def DeltaBackCardSaid : Prop := Claim7.holds Tryd.pinned (.plain (OpenSpec.ofChange deltaBackSpec)) deltaBackCard

/-- THE TIED CARD OF 'lumkeep.DeltaJoins'. -/
def deltaJoinsCard : Claim7 := { stood := { row := deltaJoinsRow, standIns := [], harness := (true, "9fbcff59f3499627d2829dbb59c871e04e12d3093bd4bf2317546f661c910a86"), looks := false }, kinds := [], alts := [], laidByText := true, laidKinds := [.data, .pinned], laidTests := true, laidLooks := .later }
def DeltaJoinsCardSaid : Prop := Claim7.holds Tryd.pinned (.plain (OpenSpec.ofChange deltaJoinsSpec)) deltaJoinsCard

/-- THE TIED CARD OF 'lumkeep.GlobSplits'. -/
def globSplitsCard : Claim7 := { stood := { row := globSplitsRow, standIns := [], harness := (true, "9fbcff59f3499627d2829dbb59c871e04e12d3093bd4bf2317546f661c910a86"), looks := false }, kinds := [], alts := [], laidByText := true, laidKinds := [.data, .pinned], laidTests := true, laidLooks := .later }
def GlobSplitsCardSaid : Prop := Claim7.holds Tryd.pinned (.plain (OpenSpec.ofChange globSplitsSpec)) globSplitsCard

/-- THE SECOND FORM's CARD OF 'lumkeep.LeaseAlone'. -/
def leaseAloneUptoCard : Claim7 := { stood := { row := leaseAloneUptoRow, standIns := [], harness := (true, "9fbcff59f3499627d2829dbb59c871e04e12d3093bd4bf2317546f661c910a86"), looks := false }, kinds := [], alts := [], laidByText := true, laidKinds := [.data, .pinned], laidTests := true, laidLooks := .later }
def LeaseAloneUptoCardSaid : Prop := Claim7.holds Tryd.pinned (.plain (OpenSpec.upto leaseAloneSpec)) leaseAloneUptoCard

/-- THE SECOND FORM's CARD OF 'lumkeep.LeaseFence'. -/
def leaseFenceUptoCard : Claim7 := { stood := { row := leaseFenceUptoRow, standIns := [], harness := (true, "9fbcff59f3499627d2829dbb59c871e04e12d3093bd4bf2317546f661c910a86"), looks := false }, kinds := [], alts := [], laidByText := true, laidKinds := [.data, .pinned], laidTests := true, laidLooks := .later }
def LeaseFenceUptoCardSaid : Prop := Claim7.holds Tryd.pinned (.plain (OpenSpec.upto leaseFenceSpec)) leaseFenceUptoCard

/-- THE SECOND FORM's CARD OF 'lumkeep.NamesOrder'. -/
def namesOrderUptoCard : Claim7 := { stood := { row := namesOrderUptoRow, standIns := [], harness := (true, "9fbcff59f3499627d2829dbb59c871e04e12d3093bd4bf2317546f661c910a86"), looks := false }, kinds := [], alts := [], laidByText := true, laidKinds := [.data, .pinned], laidTests := true, laidLooks := .later }
def NamesOrderUptoCardSaid : Prop := Claim7.holds Tryd.pinned (.plain (OpenSpec.upto namesOrderSpec)) namesOrderUptoCard

/-- THE SECOND FORM's CARD OF 'lumkeep.NamesClean'. -/
def namesCleanUptoCard : Claim7 := { stood := { row := namesCleanUptoRow, standIns := [], harness := (true, "9fbcff59f3499627d2829dbb59c871e04e12d3093bd4bf2317546f661c910a86"), looks := false }, kinds := [], alts := [], laidByText := true, laidKinds := [.data, .pinned], laidTests := true, laidLooks := .later }
def NamesCleanUptoCardSaid : Prop := Claim7.holds Tryd.pinned (.plain (OpenSpec.upto namesCleanSpec)) namesCleanUptoCard

/-- THE SECOND FORM's CARD OF 'lumkeep.NamesBack'. -/
def namesBackUptoCard : Claim7 := { stood := { row := namesBackUptoRow, standIns := [], harness := (true, "9fbcff59f3499627d2829dbb59c871e04e12d3093bd4bf2317546f661c910a86"), looks := false }, kinds := [], alts := [], laidByText := true, laidKinds := [.data, .pinned], laidTests := true, laidLooks := .later }
def NamesBackUptoCardSaid : Prop := Claim7.holds Tryd.pinned (.plain (OpenSpec.upto namesBackSpec)) namesBackUptoCard

/-- THE SECOND FORM's CARD OF 'lumkeep.GlobPlain'. -/
def globPlainUptoCard : Claim7 := { stood := { row := globPlainUptoRow, standIns := [], harness := (true, "9fbcff59f3499627d2829dbb59c871e04e12d3093bd4bf2317546f661c910a86"), looks := false }, kinds := [], alts := [], laidByText := true, laidKinds := [.data, .pinned], laidTests := true, laidLooks := .later }
def GlobPlainUptoCardSaid : Prop := Claim7.holds Tryd.pinned (.plain (OpenSpec.upto globPlainSpec)) globPlainUptoCard

/-- THE SECOND FORM's CARD OF 'lumkeep.DeltaMetric'. -/
def deltaMetricUptoCard : Claim7 := { stood := { row := deltaMetricUptoRow, standIns := [], harness := (true, "9fbcff59f3499627d2829dbb59c871e04e12d3093bd4bf2317546f661c910a86"), looks := false }, kinds := [], alts := [], laidByText := true, laidKinds := [.data, .pinned], laidTests := true, laidLooks := .later }
def DeltaMetricUptoCardSaid : Prop := Claim7.holds Tryd.pinned (.plain (OpenSpec.upto deltaMetricSpec)) deltaMetricUptoCard

/-- THE SECOND FORM's CARD OF 'lumkeep.GlobBeneath'. -/
def globBeneathUptoCard : Claim7 := { stood := { row := globBeneathUptoRow, standIns := [], harness := (true, "9fbcff59f3499627d2829dbb59c871e04e12d3093bd4bf2317546f661c910a86"), looks := false }, kinds := [], alts := [], laidByText := true, laidKinds := [.data, .pinned], laidTests := true, laidLooks := .later }
def GlobBeneathUptoCardSaid : Prop := Claim7.holds Tryd.pinned (.plain (OpenSpec.upto globBeneathSpec)) globBeneathUptoCard

/-- THE SECOND FORM's CARD OF 'lumkeep.GlobLast'. -/
def globLastUptoCard : Claim7 := { stood := { row := globLastUptoRow, standIns := [], harness := (true, "9fbcff59f3499627d2829dbb59c871e04e12d3093bd4bf2317546f661c910a86"), looks := false }, kinds := [], alts := [], laidByText := true, laidKinds := [.data, .pinned], laidTests := true, laidLooks := .later }
def GlobLastUptoCardSaid : Prop := Claim7.holds Tryd.pinned (.plain (OpenSpec.upto globLastSpec)) globLastUptoCard

/-- THE SECOND FORM's CARD OF 'lumkeep.DeltaBack'. -/
def deltaBackUptoCard : Claim7 := { stood := { row := deltaBackUptoRow, standIns := [], harness := (true, "9fbcff59f3499627d2829dbb59c871e04e12d3093bd4bf2317546f661c910a86"), looks := false }, kinds := [], alts := [], laidByText := true, laidKinds := [.data, .pinned], laidTests := true, laidLooks := .later }
def DeltaBackUptoCardSaid : Prop := Claim7.holds Tryd.pinned (.plain (OpenSpec.upto deltaBackSpec)) deltaBackUptoCard

/-- THE SECOND FORM's CARD OF 'lumkeep.DeltaJoins'. -/
def deltaJoinsUptoCard : Claim7 := { stood := { row := deltaJoinsUptoRow, standIns := [], harness := (true, "9fbcff59f3499627d2829dbb59c871e04e12d3093bd4bf2317546f661c910a86"), looks := false }, kinds := [], alts := [], laidByText := true, laidKinds := [.data, .pinned], laidTests := true, laidLooks := .later }
def DeltaJoinsUptoCardSaid : Prop := Claim7.holds Tryd.pinned (.plain (OpenSpec.upto deltaJoinsSpec)) deltaJoinsUptoCard

/-- THE SECOND FORM's CARD OF 'lumkeep.GlobSplits'. -/
def globSplitsUptoCard : Claim7 := { stood := { row := globSplitsUptoRow, standIns := [], harness := (true, "9fbcff59f3499627d2829dbb59c871e04e12d3093bd4bf2317546f661c910a86"), looks := false }, kinds := [], alts := [], laidByText := true, laidKinds := [.data, .pinned], laidTests := true, laidLooks := .later }
def GlobSplitsUptoCardSaid : Prop := Claim7.holds Tryd.pinned (.plain (OpenSpec.upto globSplitsSpec)) globSplitsUptoCard
end Rows
end Go.Proofs.YtokckcmkbnhhhaaDoor
