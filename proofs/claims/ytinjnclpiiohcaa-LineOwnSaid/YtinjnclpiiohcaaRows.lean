/-
  No cell of these rows narrows 'for every input' (looked for: loops, veiled, ifaces, maps, wideKeys, modest, calm, conditions, laid).
  DERIVED. THE GIVEN ROWS OF THIS SEAT. 6 by the template 'for every input the law returns true; each argument reads behind the call as it read before'; 0 by the template 'total and deterministic' (their statements: YtinjnclpiiohcaaTotals.lean).
  GIVEN WITH THE SEED: the statements are not yours to turn. If you find one false, say at which input.
  Laid BY PROGRAM, IN A SANDBOX (cutbox-rows.mjs): the forced cells as the released guide's own fill.sh prints them over the translation d238eda0cdb71b9a… (all of the seat's roots in one cut). By AI agents, Wed Nov 11 2026. No macro, syntax, notation, axiom, sorry.
-/
import Derived.Test.YtinjnclpiiohcaaChecked
import GoSem.Claim
import GoSem.ClaimJoined
import GoSem.ClaimMapViews
import Derived.JoinedTies
import Derived.KernelRfl
namespace Go.Proofs.Ytinjnclpiiohcaa
/- THE CELL 'sum', in the pinned program and in every row, IS THE sha256 OF THE DUMP (.gsa) THAT YtinjnclpiiohcaaProg.lean LOADS. Nothing in Lean hashes anything: it is a label: what it is worth is what the hold of that sum in a sandbox is worth. -/
noncomputable def Try.pinned : Pinned := { name := "ytinjnclpiiohcaa", sum := "d238eda0cdb71b9a2222be70b23069d018805e0affa15ea5a7b30396256e5141", checked := Try.checked }
namespace Rows
def none {H : Type} : Left H := { results := [], args := [] }

/-- 'lumkeep.LineOwn': WHATEVER THE INPUT: true; the input reads as it did. -/
def lineOwnSpec : ChangeSpec := { name := "lineOwn", fn := fun _ => fun
  | [d1, d2, d3] => { results := [.lit (.bool true)], args := [d1, d2, d3] }
  | _ => none }
def lineOwnRow : OpenClaim := { program := "ytinjnclpiiohcaa", sum := "d238eda0cdb71b9a2222be70b23069d018805e0affa15ea5a7b30396256e5141", func := "lumberroom/lumkeep.LineOwn", spec := "lineOwn", inPlace := ["slices.overlaps[lumberroom/api.Packet]"], unfollowed := true, recurses := true, apart := false }
def LineOwnSaid : Prop := lineOwnRow.holds Try.pinned (OpenSpec.ofChange lineOwnSpec)

/-- ITS FALSE NEIGHBOUR: 'it returns false'. Refute it at one input. -/
def lineOwnWrong : ChangeSpec := { name := "lineOwn", fn := fun _ => fun
  | [d1, d2, d3] => { results := [.lit (.bool false)], args := [d1, d2, d3] }
  | _ => none }
def LineOwnWrongFalsely : Prop := lineOwnRow.holds Try.pinned (OpenSpec.ofChange lineOwnWrong)

/-- 'lumkeep.LineFront': WHATEVER THE INPUT: true; the input reads as it did. -/
def lineFrontSpec : ChangeSpec := { name := "lineFront", fn := fun _ => fun
  | [d1, d2] => { results := [.lit (.bool true)], args := [d1, d2] }
  | _ => none }
def lineFrontRow : OpenClaim := { program := "ytinjnclpiiohcaa", sum := "d238eda0cdb71b9a2222be70b23069d018805e0affa15ea5a7b30396256e5141", func := "lumberroom/lumkeep.LineFront", spec := "lineFront", inPlace := ["slices.overlaps[lumberroom/api.Packet]"], unfollowed := true, recurses := true, apart := false }
def LineFrontSaid : Prop := lineFrontRow.holds Try.pinned (OpenSpec.ofChange lineFrontSpec)

/-- ITS FALSE NEIGHBOUR: 'it returns false'. Refute it at one input. -/
def lineFrontWrong : ChangeSpec := { name := "lineFront", fn := fun _ => fun
  | [d1, d2] => { results := [.lit (.bool false)], args := [d1, d2] }
  | _ => none }
def LineFrontWrongFalsely : Prop := lineFrontRow.holds Try.pinned (OpenSpec.ofChange lineFrontWrong)

/-- 'lumkeep.LineAll': WHATEVER THE INPUT: true; the input reads as it did. -/
def lineAllSpec : ChangeSpec := { name := "lineAll", fn := fun _ => fun
  | [d1, d2] => { results := [.lit (.bool true)], args := [d1, d2] }
  | _ => none }
def lineAllRow : OpenClaim := { program := "ytinjnclpiiohcaa", sum := "d238eda0cdb71b9a2222be70b23069d018805e0affa15ea5a7b30396256e5141", func := "lumberroom/lumkeep.LineAll", spec := "lineAll", inPlace := ["slices.overlaps[lumberroom/api.Packet]"], unfollowed := true, recurses := true, apart := false }
def LineAllSaid : Prop := lineAllRow.holds Try.pinned (OpenSpec.ofChange lineAllSpec)

/-- ITS FALSE NEIGHBOUR: 'it returns false'. Refute it at one input. -/
def lineAllWrong : ChangeSpec := { name := "lineAll", fn := fun _ => fun
  | [d1, d2] => { results := [.lit (.bool false)], args := [d1, d2] }
  | _ => none }
def LineAllWrongFalsely : Prop := lineAllRow.holds Try.pinned (OpenSpec.ofChange lineAllWrong)

/-- 'lumkeep.IndexLattice': WHATEVER THE INPUT: true; the input reads as it did. -/
def indexLatticeSpec : ChangeSpec := { name := "indexLattice", fn := fun _ => fun
  | [d1, d2, d3] => { results := [.lit (.bool true)], args := [d1, d2, d3] }
  | _ => none }
def indexLatticeRow : OpenClaim := { program := "ytinjnclpiiohcaa", sum := "d238eda0cdb71b9a2222be70b23069d018805e0affa15ea5a7b30396256e5141", func := "lumberroom/lumkeep.IndexLattice", spec := "indexLattice", inPlace := ["internal/bytealg.Compare"], unfollowed := true, recurses := true, apart := false }
def IndexLatticeSaid : Prop := indexLatticeRow.holds Try.pinned (OpenSpec.ofChange indexLatticeSpec)

/-- ITS FALSE NEIGHBOUR: 'it returns false'. Refute it at one input. -/
def indexLatticeWrong : ChangeSpec := { name := "indexLattice", fn := fun _ => fun
  | [d1, d2, d3] => { results := [.lit (.bool false)], args := [d1, d2, d3] }
  | _ => none }
def IndexLatticeWrongFalsely : Prop := indexLatticeRow.holds Try.pinned (OpenSpec.ofChange indexLatticeWrong)

/-- 'lumkeep.IndexOwn': WHATEVER THE INPUT: true; the input reads as it did. -/
def indexOwnSpec : ChangeSpec := { name := "indexOwn", fn := fun _ => fun
  | [d1, d2, d3] => { results := [.lit (.bool true)], args := [d1, d2, d3] }
  | _ => none }
def indexOwnRow : OpenClaim := { program := "ytinjnclpiiohcaa", sum := "d238eda0cdb71b9a2222be70b23069d018805e0affa15ea5a7b30396256e5141", func := "lumberroom/lumkeep.IndexOwn", spec := "indexOwn", inPlace := ["internal/bytealg.Compare"], unfollowed := true, recurses := true, apart := false }
def IndexOwnSaid : Prop := indexOwnRow.holds Try.pinned (OpenSpec.ofChange indexOwnSpec)

/-- ITS FALSE NEIGHBOUR: 'it returns false'. Refute it at one input. -/
def indexOwnWrong : ChangeSpec := { name := "indexOwn", fn := fun _ => fun
  | [d1, d2, d3] => { results := [.lit (.bool false)], args := [d1, d2, d3] }
  | _ => none }
def IndexOwnWrongFalsely : Prop := indexOwnRow.holds Try.pinned (OpenSpec.ofChange indexOwnWrong)

/-- 'lumkeep.IndexBuild': WHATEVER THE INPUT: true; the input reads as it did. -/
def indexBuildSpec : ChangeSpec := { name := "indexBuild", fn := fun _ => fun
  | [d1, d2, d3] => { results := [.lit (.bool true)], args := [d1, d2, d3] }
  | _ => none }
def indexBuildRow : OpenClaim := { program := "ytinjnclpiiohcaa", sum := "d238eda0cdb71b9a2222be70b23069d018805e0affa15ea5a7b30396256e5141", func := "lumberroom/lumkeep.IndexBuild", spec := "indexBuild", inPlace := ["internal/bytealg.Compare"], unfollowed := true, recurses := true, apart := false }
def IndexBuildSaid : Prop := indexBuildRow.holds Try.pinned (OpenSpec.ofChange indexBuildSpec)

/-- ITS FALSE NEIGHBOUR: 'it returns false'. Refute it at one input. -/
def indexBuildWrong : ChangeSpec := { name := "indexBuild", fn := fun _ => fun
  | [d1, d2, d3] => { results := [.lit (.bool false)], args := [d1, d2, d3] }
  | _ => none }
def IndexBuildWrongFalsely : Prop := indexBuildRow.holds Try.pinned (OpenSpec.ofChange indexBuildWrong)

/- THE SECOND FORM. 'bulk': how many values and letters a reading holds, each counted each time it is reached (what is shared counts as often as it is met; a slice's spare places count too). A statement '..UptoSaid' is the law's where the arguments, and the package variables that the reading takes, are together of bulk at most 1048576: NARROWER than '..Said'. Prove '..Said' where nothing that the law and all that it calls make is longer than what came in: it says more and counts as full. Else prove '..UptoSaid'. A law counts once. -/
mutual
def uptoBulk {H : Type} : DataW H → Nat
  | .lit (.string bytes) => bytes.length + 1
  | .lit _ => 1
  | .nil => 1
  | .ptr d => uptoBulk d + 1
  | .slice elems spare => uptoBulkAll elems + uptoBulkAll spare + 1
  | .agg parts => uptoBulkAll parts + 1
  | .iface _ d => uptoBulk d + 1
  | .map entries => uptoBulkEntries entries + 1
  | .held _ => 1
def uptoBulkAll {H : Type} : List (DataW H) → Nat
  | [] => 0
  | d :: r => uptoBulk d + uptoBulkAll r
def uptoBulkEntries {H : Type} : List (Lit × DataW H) → Nat
  | [] => 0
  | x :: r => uptoBulkEntry x + uptoBulkEntries r
def uptoBulkEntry {H : Type} : Lit × DataW H → Nat
  | (.string bytes, d) => bytes.length + uptoBulk d + 1
  | (_, d) => uptoBulk d + 1
 end
def uptoSmall : (H : Type) → List (DataW H) → Bool := fun _ ds => decide (uptoBulkAll ds ≤ 1048576)
def OpenSpec.upto (s : _root_.Go.ChangeSpec) : _root_.Go.OpenSpec := { _root_.Go.OpenSpec.ofChange s with cond := some uptoSmall }

/-- 'lumkeep.LineOwn', WHERE WHAT IT READS IS OF BULK AT MOST 1048576: true; the input reads as it did. -/
def lineOwnUptoRow : OpenClaim := { program := "ytinjnclpiiohcaa", sum := "d238eda0cdb71b9a2222be70b23069d018805e0affa15ea5a7b30396256e5141", func := "lumberroom/lumkeep.LineOwn", spec := "lineOwn", inPlace := ["slices.overlaps[lumberroom/api.Packet]"], unfollowed := true, recurses := true, apart := false, narrowed := true }
def LineOwnUptoSaid : Prop := lineOwnUptoRow.holds Try.pinned (OpenSpec.upto lineOwnSpec)

/-- 'lumkeep.LineFront', WHERE WHAT IT READS IS OF BULK AT MOST 1048576: true; the input reads as it did. -/
def lineFrontUptoRow : OpenClaim := { program := "ytinjnclpiiohcaa", sum := "d238eda0cdb71b9a2222be70b23069d018805e0affa15ea5a7b30396256e5141", func := "lumberroom/lumkeep.LineFront", spec := "lineFront", inPlace := ["slices.overlaps[lumberroom/api.Packet]"], unfollowed := true, recurses := true, apart := false, narrowed := true }
def LineFrontUptoSaid : Prop := lineFrontUptoRow.holds Try.pinned (OpenSpec.upto lineFrontSpec)

/-- 'lumkeep.LineAll', WHERE WHAT IT READS IS OF BULK AT MOST 1048576: true; the input reads as it did. -/
def lineAllUptoRow : OpenClaim := { program := "ytinjnclpiiohcaa", sum := "d238eda0cdb71b9a2222be70b23069d018805e0affa15ea5a7b30396256e5141", func := "lumberroom/lumkeep.LineAll", spec := "lineAll", inPlace := ["slices.overlaps[lumberroom/api.Packet]"], unfollowed := true, recurses := true, apart := false, narrowed := true }
def LineAllUptoSaid : Prop := lineAllUptoRow.holds Try.pinned (OpenSpec.upto lineAllSpec)

/-- 'lumkeep.IndexLattice', WHERE WHAT IT READS IS OF BULK AT MOST 1048576: true; the input reads as it did. -/
def indexLatticeUptoRow : OpenClaim := { program := "ytinjnclpiiohcaa", sum := "d238eda0cdb71b9a2222be70b23069d018805e0affa15ea5a7b30396256e5141", func := "lumberroom/lumkeep.IndexLattice", spec := "indexLattice", inPlace := ["internal/bytealg.Compare"], unfollowed := true, recurses := true, apart := false, narrowed := true }
def IndexLatticeUptoSaid : Prop := indexLatticeUptoRow.holds Try.pinned (OpenSpec.upto indexLatticeSpec)

/-- 'lumkeep.IndexOwn', WHERE WHAT IT READS IS OF BULK AT MOST 1048576: true; the input reads as it did. -/
def indexOwnUptoRow : OpenClaim := { program := "ytinjnclpiiohcaa", sum := "d238eda0cdb71b9a2222be70b23069d018805e0affa15ea5a7b30396256e5141", func := "lumberroom/lumkeep.IndexOwn", spec := "indexOwn", inPlace := ["internal/bytealg.Compare"], unfollowed := true, recurses := true, apart := false, narrowed := true }
def IndexOwnUptoSaid : Prop := indexOwnUptoRow.holds Try.pinned (OpenSpec.upto indexOwnSpec)

/-- 'lumkeep.IndexBuild', WHERE WHAT IT READS IS OF BULK AT MOST 1048576: true; the input reads as it did. -/
def indexBuildUptoRow : OpenClaim := { program := "ytinjnclpiiohcaa", sum := "d238eda0cdb71b9a2222be70b23069d018805e0affa15ea5a7b30396256e5141", func := "lumberroom/lumkeep.IndexBuild", spec := "indexBuild", inPlace := ["internal/bytealg.Compare"], unfollowed := true, recurses := true, apart := false, narrowed := true }
def IndexBuildUptoSaid : Prop := indexBuildUptoRow.holds Try.pinned (OpenSpec.upto indexBuildSpec)

end Rows
end Go.Proofs.Ytinjnclpiiohcaa
