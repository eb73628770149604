/-
  No cell of these rows narrows 'for every input' (looked for: loops, veiled, ifaces, maps, wideKeys, modest, calm, conditions, laid).
  DERIVED. THE GIVEN ROWS OF THIS SEAT. 10 by the template 'for every input the law returns true; each argument reads behind the call as it read before'; 0 by the template 'total and deterministic' (their statements: YtgoocmocdimnoaaTotals.lean).
  GIVEN WITH THE SEED: the statements are not yours to turn. If you find one false, say at which input.
  Laid BY PROGRAM, IN A SANDBOX (cutbox-rows.mjs): the forced cells as the released guide's own fill.sh prints them over the translation 6b3808608724ddaa… (all of the seat's roots in one cut). By AI agents, Wed Nov 11 2026. No macro, syntax, notation, axiom, sorry.
-/
import Derived.Test.YtgoocmocdimnoaaChecked
import GoSem.Claim
import GoSem.ClaimJoined
import GoSem.ClaimMapViews
import Derived.JoinedTies
import Derived.KernelRfl
namespace Go.Proofs.Ytgoocmocdimnoaa
/- THE CELL 'sum', in the pinned program and in every row, IS THE sha256 OF THE DUMP (.gsa) THAT YtgoocmocdimnoaaProg.lean LOADS. Nothing in Lean hashes anything: it is a label: what it is worth is what the hold of that sum in a sandbox is worth. -/
noncomputable def Try.pinned : Pinned := { name := "ytgoocmocdimnoaa", sum := "6b3808608724ddaa51ce2833b7533f89356d0f2798a541beadc299b66b29aaf7", checked := Try.checked }
namespace Rows
def none {H : Type} : Left H := { results := [], args := [] }

/-- 'lumkeep.GraphLeast': WHATEVER THE INPUT: true; the input reads as it did. -/
def graphLeastSpec : ChangeSpec := { name := "graphLeast", fn := fun _ => fun
  | [d1, d2, d3] => { results := [.lit (.bool true)], args := [d1, d2, d3] }
  | _ => none }
def graphLeastRow : OpenClaim := { program := "ytgoocmocdimnoaa", sum := "6b3808608724ddaa51ce2833b7533f89356d0f2798a541beadc299b66b29aaf7", func := "lumberroom/lumkeep.GraphLeast", spec := "graphLeast", unfollowed := true, recurses := true, apart := false }
def GraphLeastSaid : Prop := graphLeastRow.holds Try.pinned (OpenSpec.ofChange graphLeastSpec)

/-- ITS FALSE NEIGHBOUR: 'it returns false'. Refute it at one input. -/
def graphLeastWrong : ChangeSpec := { name := "graphLeast", fn := fun _ => fun
  | [d1, d2, d3] => { results := [.lit (.bool false)], args := [d1, d2, d3] }
  | _ => none }
def GraphLeastWrongFalsely : Prop := graphLeastRow.holds Try.pinned (OpenSpec.ofChange graphLeastWrong)

/-- 'lumkeep.GraphOrders': WHATEVER THE INPUT: true; the input reads as it did. -/
def graphOrdersSpec : ChangeSpec := { name := "graphOrders", fn := fun _ => fun
  | [d] => { results := [.lit (.bool true)], args := [d] }
  | _ => none }
def graphOrdersRow : OpenClaim := { program := "ytgoocmocdimnoaa", sum := "6b3808608724ddaa51ce2833b7533f89356d0f2798a541beadc299b66b29aaf7", func := "lumberroom/lumkeep.GraphOrders", spec := "graphOrders", apart := false }
def GraphOrdersSaid : Prop := graphOrdersRow.holds Try.pinned (OpenSpec.ofChange graphOrdersSpec)

/-- ITS FALSE NEIGHBOUR: 'it returns false'. Refute it at one input. -/
def graphOrdersWrong : ChangeSpec := { name := "graphOrders", fn := fun _ => fun
  | [d] => { results := [.lit (.bool false)], args := [d] }
  | _ => none }
def GraphOrdersWrongFalsely : Prop := graphOrdersRow.holds Try.pinned (OpenSpec.ofChange graphOrdersWrong)

/-- 'lumkeep.GraphJoins': WHATEVER THE INPUT: true; the input reads as it did. -/
def graphJoinsSpec : ChangeSpec := { name := "graphJoins", fn := fun _ => fun
  | [d1, d2, d3] => { results := [.lit (.bool true)], args := [d1, d2, d3] }
  | _ => none }
def graphJoinsRow : OpenClaim := { program := "ytgoocmocdimnoaa", sum := "6b3808608724ddaa51ce2833b7533f89356d0f2798a541beadc299b66b29aaf7", func := "lumberroom/lumkeep.GraphJoins", spec := "graphJoins", apart := false }
def GraphJoinsSaid : Prop := graphJoinsRow.holds Try.pinned (OpenSpec.ofChange graphJoinsSpec)

/-- ITS FALSE NEIGHBOUR: 'it returns false'. Refute it at one input. -/
def graphJoinsWrong : ChangeSpec := { name := "graphJoins", fn := fun _ => fun
  | [d1, d2, d3] => { results := [.lit (.bool false)], args := [d1, d2, d3] }
  | _ => none }
def GraphJoinsWrongFalsely : Prop := graphJoinsRow.holds Try.pinned (OpenSpec.ofChange graphJoinsWrong)

/-- 'lumkeep.SweepColours': WHATEVER THE INPUT: true; the input reads as it did. -/
def sweepColoursSpec : ChangeSpec := { name := "sweepColours", fn := fun _ => fun
  | [d] => { results := [.lit (.bool true)], args := [d] }
  | _ => none }
def sweepColoursRow : OpenClaim := { program := "ytgoocmocdimnoaa", sum := "6b3808608724ddaa51ce2833b7533f89356d0f2798a541beadc299b66b29aaf7", func := "lumberroom/lumkeep.SweepColours", spec := "sweepColours", unfollowed := true, recurses := true, apart := false }
def SweepColoursSaid : Prop := sweepColoursRow.holds Try.pinned (OpenSpec.ofChange sweepColoursSpec)

/-- ITS FALSE NEIGHBOUR: 'it returns false'. Refute it at one input. -/
def sweepColoursWrong : ChangeSpec := { name := "sweepColours", fn := fun _ => fun
  | [d] => { results := [.lit (.bool false)], args := [d] }
  | _ => none }
def SweepColoursWrongFalsely : Prop := sweepColoursRow.holds Try.pinned (OpenSpec.ofChange sweepColoursWrong)

/-- 'lumkeep.SweepSafe': WHATEVER THE INPUT: true; the input reads as it did. -/
def sweepSafeSpec : ChangeSpec := { name := "sweepSafe", fn := fun _ => fun
  | [d] => { results := [.lit (.bool true)], args := [d] }
  | _ => none }
def sweepSafeRow : OpenClaim := { program := "ytgoocmocdimnoaa", sum := "6b3808608724ddaa51ce2833b7533f89356d0f2798a541beadc299b66b29aaf7", func := "lumberroom/lumkeep.SweepSafe", spec := "sweepSafe", unfollowed := true, recurses := true, apart := false }
def SweepSafeSaid : Prop := sweepSafeRow.holds Try.pinned (OpenSpec.ofChange sweepSafeSpec)

/-- ITS FALSE NEIGHBOUR: 'it returns false'. Refute it at one input. -/
def sweepSafeWrong : ChangeSpec := { name := "sweepSafe", fn := fun _ => fun
  | [d] => { results := [.lit (.bool false)], args := [d] }
  | _ => none }
def SweepSafeWrongFalsely : Prop := sweepSafeRow.holds Try.pinned (OpenSpec.ofChange sweepSafeWrong)

/-- 'lumkeep.SweepClean': WHATEVER THE INPUT: true; the input reads as it did. -/
def sweepCleanSpec : ChangeSpec := { name := "sweepClean", fn := fun _ => fun
  | [d] => { results := [.lit (.bool true)], args := [d] }
  | _ => none }
def sweepCleanRow : OpenClaim := { program := "ytgoocmocdimnoaa", sum := "6b3808608724ddaa51ce2833b7533f89356d0f2798a541beadc299b66b29aaf7", func := "lumberroom/lumkeep.SweepClean", spec := "sweepClean", unfollowed := true, recurses := true, apart := false }
def SweepCleanSaid : Prop := sweepCleanRow.holds Try.pinned (OpenSpec.ofChange sweepCleanSpec)

/-- ITS FALSE NEIGHBOUR: 'it returns false'. Refute it at one input. -/
def sweepCleanWrong : ChangeSpec := { name := "sweepClean", fn := fun _ => fun
  | [d] => { results := [.lit (.bool false)], args := [d] }
  | _ => none }
def SweepCleanWrongFalsely : Prop := sweepCleanRow.holds Try.pinned (OpenSpec.ofChange sweepCleanWrong)

/-- 'lumkeep.SweepEnds': WHATEVER THE INPUT: true; the input reads as it did. -/
def sweepEndsSpec : ChangeSpec := { name := "sweepEnds", fn := fun _ => fun
  | [d] => { results := [.lit (.bool true)], args := [d] }
  | _ => none }
def sweepEndsRow : OpenClaim := { program := "ytgoocmocdimnoaa", sum := "6b3808608724ddaa51ce2833b7533f89356d0f2798a541beadc299b66b29aaf7", func := "lumberroom/lumkeep.SweepEnds", spec := "sweepEnds", unfollowed := true, recurses := true, apart := false }
def SweepEndsSaid : Prop := sweepEndsRow.holds Try.pinned (OpenSpec.ofChange sweepEndsSpec)

/-- ITS FALSE NEIGHBOUR: 'it returns false'. Refute it at one input. -/
def sweepEndsWrong : ChangeSpec := { name := "sweepEnds", fn := fun _ => fun
  | [d] => { results := [.lit (.bool false)], args := [d] }
  | _ => none }
def SweepEndsWrongFalsely : Prop := sweepEndsRow.holds Try.pinned (OpenSpec.ofChange sweepEndsWrong)

/-- 'lumkeep.WasteRanks': WHATEVER THE INPUT: true; the input reads as it did. -/
def wasteRanksSpec : ChangeSpec := { name := "wasteRanks", fn := fun _ => fun
  | [d1, d2, d3] => { results := [.lit (.bool true)], args := [d1, d2, d3] }
  | _ => none }
def wasteRanksRow : OpenClaim := { program := "ytgoocmocdimnoaa", sum := "6b3808608724ddaa51ce2833b7533f89356d0f2798a541beadc299b66b29aaf7", func := "lumberroom/lumkeep.WasteRanks", spec := "wasteRanks", unfollowed := true, recurses := true, apart := false }
def WasteRanksSaid : Prop := wasteRanksRow.holds Try.pinned (OpenSpec.ofChange wasteRanksSpec)

/-- ITS FALSE NEIGHBOUR: 'it returns false'. Refute it at one input. -/
def wasteRanksWrong : ChangeSpec := { name := "wasteRanks", fn := fun _ => fun
  | [d1, d2, d3] => { results := [.lit (.bool false)], args := [d1, d2, d3] }
  | _ => none }
def WasteRanksWrongFalsely : Prop := wasteRanksRow.holds Try.pinned (OpenSpec.ofChange wasteRanksWrong)

/-- 'lumkeep.WasteEnds': WHATEVER THE INPUT: true; the input reads as it did. -/
def wasteEndsSpec : ChangeSpec := { name := "wasteEnds", fn := fun _ => fun
  | [d] => { results := [.lit (.bool true)], args := [d] }
  | _ => none }
def wasteEndsRow : OpenClaim := { program := "ytgoocmocdimnoaa", sum := "6b3808608724ddaa51ce2833b7533f89356d0f2798a541beadc299b66b29aaf7", func := "lumberroom/lumkeep.WasteEnds", spec := "wasteEnds", inPlace := ["math.Float64bits", "math.Float64frombits"], unfollowed := true, recurses := true, apart := false }
def WasteEndsSaid : Prop := wasteEndsRow.holds Try.pinned (OpenSpec.ofChange wasteEndsSpec)

/-- ITS FALSE NEIGHBOUR: 'it returns false'. Refute it at one input. -/
def wasteEndsWrong : ChangeSpec := { name := "wasteEnds", fn := fun _ => fun
  | [d] => { results := [.lit (.bool false)], args := [d] }
  | _ => none }
def WasteEndsWrongFalsely : Prop := wasteEndsRow.holds Try.pinned (OpenSpec.ofChange wasteEndsWrong)

/-- 'lumkeep.GraphOwn': WHATEVER THE INPUT: true; the input reads as it did. -/
def graphOwnSpec : ChangeSpec := { name := "graphOwn", fn := fun _ => fun
  | [d1, d2] => { results := [.lit (.bool true)], args := [d1, d2] }
  | _ => none }
def graphOwnRow : OpenClaim := { program := "ytgoocmocdimnoaa", sum := "6b3808608724ddaa51ce2833b7533f89356d0f2798a541beadc299b66b29aaf7", func := "lumberroom/lumkeep.GraphOwn", spec := "graphOwn", unfollowed := true, recurses := true, apart := false }
def GraphOwnSaid : Prop := graphOwnRow.holds Try.pinned (OpenSpec.ofChange graphOwnSpec)

/-- ITS FALSE NEIGHBOUR: 'it returns false'. Refute it at one input. -/
def graphOwnWrong : ChangeSpec := { name := "graphOwn", fn := fun _ => fun
  | [d1, d2] => { results := [.lit (.bool false)], args := [d1, d2] }
  | _ => none }
def GraphOwnWrongFalsely : Prop := graphOwnRow.holds Try.pinned (OpenSpec.ofChange graphOwnWrong)

/- THE SECOND FORM. 'bulk': how many values and letters a reading holds, each counted each time it is reached (what is shared counts as often as it is met; a slice's spare places count too). A statement '..UptoSaid' is the law's where the arguments, and the package variables that the reading takes, are together of bulk at most 1048576: NARROWER than '..Said'. Prove '..Said' where nothing that the law and all that it calls make is longer than what came in: it says more and counts as full. Else prove '..UptoSaid'. A law counts once. -/
mutual
def uptoBulk {H : Type} : DataW H → Nat
  | .lit (.string bytes) => bytes.length + 1
  | .lit _ => 1
  | .nil => 1
  | .ptr d => uptoBulk d + 1
  | .slice elems spare => uptoBulkAll elems + uptoBulkAll spare + 1
  | .agg parts => uptoBulkAll parts + 1
  | .iface _ d => uptoBulk d + 1
  | .map entries => uptoBulkEntries entries + 1
  | .held _ => 1
def uptoBulkAll {H : Type} : List (DataW H) → Nat
  | [] => 0
  | d :: r => uptoBulk d + uptoBulkAll r
def uptoBulkEntries {H : Type} : List (Lit × DataW H) → Nat
  | [] => 0
  | x :: r => uptoBulkEntry x + uptoBulkEntries r
def uptoBulkEntry {H : Type} : Lit × DataW H → Nat
  | (.string bytes, d) => bytes.length + uptoBulk d + 1
  | (_, d) => uptoBulk d + 1
 end
def uptoSmall : (H : Type) → List (DataW H) → Bool := fun _ ds => decide (uptoBulkAll ds ≤ 1048576)
def OpenSpec.upto (s : _root_.Go.ChangeSpec) : _root_.Go.OpenSpec := { _root_.Go.OpenSpec.ofChange s with cond := some uptoSmall }

/-- 'lumkeep.GraphLeast', WHERE WHAT IT READS IS OF BULK AT MOST 1048576: true; the input reads as it did. -/
def graphLeastUptoRow : OpenClaim := { program := "ytgoocmocdimnoaa", sum := "6b3808608724ddaa51ce2833b7533f89356d0f2798a541beadc299b66b29aaf7", func := "lumberroom/lumkeep.GraphLeast", spec := "graphLeast", unfollowed := true, recurses := true, apart := false, narrowed := true }
def GraphLeastUptoSaid : Prop := graphLeastUptoRow.holds Try.pinned (OpenSpec.upto graphLeastSpec)

/-- 'lumkeep.GraphOrders', WHERE WHAT IT READS IS OF BULK AT MOST 1048576: true; the input reads as it did. -/
def graphOrdersUptoRow : OpenClaim := { program := "ytgoocmocdimnoaa", sum := "6b3808608724ddaa51ce2833b7533f89356d0f2798a541beadc299b66b29aaf7", func := "lumberroom/lumkeep.GraphOrders", spec := "graphOrders", apart := false, narrowed := true }
def GraphOrdersUptoSaid : Prop := graphOrdersUptoRow.holds Try.pinned (OpenSpec.upto graphOrdersSpec)

/-- 'lumkeep.GraphJoins', WHERE WHAT IT READS IS OF BULK AT MOST 1048576: true; the input reads as it did. -/
def graphJoinsUptoRow : OpenClaim := { program := "ytgoocmocdimnoaa", sum := "6b3808608724ddaa51ce2833b7533f89356d0f2798a541beadc299b66b29aaf7", func := "lumberroom/lumkeep.GraphJoins", spec := "graphJoins", apart := false, narrowed := true }
def GraphJoinsUptoSaid : Prop := graphJoinsUptoRow.holds Try.pinned (OpenSpec.upto graphJoinsSpec)

/-- 'lumkeep.SweepColours', WHERE WHAT IT READS IS OF BULK AT MOST 1048576: true; the input reads as it did. -/
def sweepColoursUptoRow : OpenClaim := { program := "ytgoocmocdimnoaa", sum := "6b3808608724ddaa51ce2833b7533f89356d0f2798a541beadc299b66b29aaf7", func := "lumberroom/lumkeep.SweepColours", spec := "sweepColours", unfollowed := true, recurses := true, apart := false, narrowed := true }
def SweepColoursUptoSaid : Prop := sweepColoursUptoRow.holds Try.pinned (OpenSpec.upto sweepColoursSpec)

/-- 'lumkeep.SweepSafe', WHERE WHAT IT READS IS OF BULK AT MOST 1048576: true; the input reads as it did. -/
def sweepSafeUptoRow : OpenClaim := { program := "ytgoocmocdimnoaa", sum := "6b3808608724ddaa51ce2833b7533f89356d0f2798a541beadc299b66b29aaf7", func := "lumberroom/lumkeep.SweepSafe", spec := "sweepSafe", unfollowed := true, recurses := true, apart := false, narrowed := true }
def SweepSafeUptoSaid : Prop := sweepSafeUptoRow.holds Try.pinned (OpenSpec.upto sweepSafeSpec)

/-- 'lumkeep.SweepClean', WHERE WHAT IT READS IS OF BULK AT MOST 1048576: true; the input reads as it did. -/
def sweepCleanUptoRow : OpenClaim := { program := "ytgoocmocdimnoaa", sum := "6b3808608724ddaa51ce2833b7533f89356d0f2798a541beadc299b66b29aaf7", func := "lumberroom/lumkeep.SweepClean", spec := "sweepClean", unfollowed := true, recurses := true, apart := false, narrowed := true }
def SweepCleanUptoSaid : Prop := sweepCleanUptoRow.holds Try.pinned (OpenSpec.upto sweepCleanSpec)

/-- 'lumkeep.SweepEnds', WHERE WHAT IT READS IS OF BULK AT MOST 1048576: true; the input reads as it did. -/
def sweepEndsUptoRow : OpenClaim := { program := "ytgoocmocdimnoaa", sum := "6b3808608724ddaa51ce2833b7533f89356d0f2798a541beadc299b66b29aaf7", func := "lumberroom/lumkeep.SweepEnds", spec := "sweepEnds", unfollowed := true, recurses := true, apart := false, narrowed := true }
def SweepEndsUptoSaid : Prop := sweepEndsUptoRow.holds Try.pinned (OpenSpec.upto sweepEndsSpec)

/-- 'lumkeep.WasteRanks', WHERE WHAT IT READS IS OF BULK AT MOST 1048576: true; the input reads as it did. -/
def wasteRanksUptoRow : OpenClaim := { program := "ytgoocmocdimnoaa", sum := "6b3808608724ddaa51ce2833b7533f89356d0f2798a541beadc299b66b29aaf7", func := "lumberroom/lumkeep.WasteRanks", spec := "wasteRanks", unfollowed := true, recurses := true, apart := false, narrowed := true }
def WasteRanksUptoSaid : Prop := wasteRanksUptoRow.holds Try.pinned (OpenSpec.upto wasteRanksSpec)

/-- 'lumkeep.WasteEnds', WHERE WHAT IT READS IS OF BULK AT MOST 1048576: true; the input reads as it did. -/
def wasteEndsUptoRow : OpenClaim := { program := "ytgoocmocdimnoaa", sum := "6b3808608724ddaa51ce2833b7533f89356d0f2798a541beadc299b66b29aaf7", func := "lumberroom/lumkeep.WasteEnds", spec := "wasteEnds", inPlace := ["math.Float64bits", "math.Float64frombits"], unfollowed := true, recurses := true, apart := false, narrowed := true }
def WasteEndsUptoSaid : Prop := wasteEndsUptoRow.holds Try.pinned (OpenSpec.upto wasteEndsSpec)

/-- 'lumkeep.GraphOwn', WHERE WHAT IT READS IS OF BULK AT MOST 1048576: true; the input reads as it did. -/
def graphOwnUptoRow : OpenClaim := { program := "ytgoocmocdimnoaa", sum := "6b3808608724ddaa51ce2833b7533f89356d0f2798a541beadc299b66b29aaf7", func := "lumberroom/lumkeep.GraphOwn", spec := "graphOwn", unfollowed := true, recurses := true, apart := false, narrowed := true }
def GraphOwnUptoSaid : Prop := graphOwnUptoRow.holds Try.pinned (OpenSpec.upto graphOwnSpec)

end Rows
end Go.Proofs.Ytgoocmocdimnoaa
