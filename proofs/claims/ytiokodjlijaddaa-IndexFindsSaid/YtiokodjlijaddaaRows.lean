/-
  No cell of these rows narrows 'for every input' (looked for: loops, veiled, ifaces, maps, wideKeys, modest, calm, conditions, laid).
  DERIVED. THE GIVEN ROWS OF THIS SEAT. 5 by the template 'for every input the law returns true; each argument reads behind the call as it read before'; 0 by the template 'total and deterministic' (their statements: YtiokodjlijaddaaTotals.lean).
  GIVEN WITH THE SEED: the statements are not yours to turn. If you find one false, say at which input.
  Laid BY PROGRAM, IN A SANDBOX (cutbox-rows.mjs): the forced cells as the released guide's own fill.sh prints them over the translation c565003a379278a9… (all of the seat's roots in one cut). By AI agents, Wed Nov 11 2026. No macro, syntax, notation, axiom, sorry.
-/
import Derived.Test.YtiokodjlijaddaaChecked
import GoSem.Claim
import GoSem.ClaimJoined
import GoSem.ClaimMapViews
import Derived.JoinedTies
import Derived.KernelRfl
namespace Go.Proofs.Ytiokodjlijaddaa
/- THE CELL 'sum', in the pinned program and in every row, IS THE sha256 OF THE DUMP (.gsa) THAT YtiokodjlijaddaaProg.lean LOADS. Nothing in Lean hashes anything: it is a label: what it is worth is what the hold of that sum in a sandbox is worth. -/
noncomputable def Try.pinned : Pinned := { name := "ytiokodjlijaddaa", sum := "c565003a379278a912b000f80e8495cf829a55ce38382158210403bc2dc2a8a0", checked := Try.checked }
namespace Rows
def none {H : Type} : Left H := { results := [], args := [] }

/-- 'lumkeep.NumFloatOrder': WHATEVER THE INPUT: true; the input reads as it did. -/
def numFloatOrderSpec : ChangeSpec := { name := "numFloatOrder", fn := fun _ => fun
  | [d1, d2] => { results := [.lit (.bool true)], args := [d1, d2] }
  | _ => none }
def numFloatOrderRow : OpenClaim := { program := "ytiokodjlijaddaa", sum := "c565003a379278a912b000f80e8495cf829a55ce38382158210403bc2dc2a8a0", func := "lumberroom/lumkeep.NumFloatOrder", spec := "numFloatOrder", inPlace := ["math.Float64bits", "math.Float64frombits"], named := ["encoding/binary.BigEndian"], apart := false }
def NumFloatOrderSaid : Prop := numFloatOrderRow.holds Try.pinned (OpenSpec.ofChange numFloatOrderSpec)

/-- ITS FALSE NEIGHBOUR: 'it returns false'. Refute it at one input. -/
def numFloatOrderWrong : ChangeSpec := { name := "numFloatOrder", fn := fun _ => fun
  | [d1, d2] => { results := [.lit (.bool false)], args := [d1, d2] }
  | _ => none }
def NumFloatOrderWrongFalsely : Prop := numFloatOrderRow.holds Try.pinned (OpenSpec.ofChange numFloatOrderWrong)

/-- 'lumkeep.IndexFinds': WHATEVER THE INPUT: true; the input reads as it did. -/
def indexFindsSpec : ChangeSpec := { name := "indexFinds", fn := fun _ => fun
  | [d1, d2, d3] => { results := [.lit (.bool true)], args := [d1, d2, d3] }
  | _ => none }
def indexFindsRow : OpenClaim := { program := "ytiokodjlijaddaa", sum := "c565003a379278a912b000f80e8495cf829a55ce38382158210403bc2dc2a8a0", func := "lumberroom/lumkeep.IndexFinds", spec := "indexFinds", inPlace := ["internal/bytealg.Compare"], unfollowed := true, recurses := true, apart := false }
def IndexFindsSaid : Prop := indexFindsRow.holds Try.pinned (OpenSpec.ofChange indexFindsSpec)

/-- ITS FALSE NEIGHBOUR: 'it returns false'. Refute it at one input. -/
def indexFindsWrong : ChangeSpec := { name := "indexFinds", fn := fun _ => fun
  | [d1, d2, d3] => { results := [.lit (.bool false)], args := [d1, d2, d3] }
  | _ => none }
def IndexFindsWrongFalsely : Prop := indexFindsRow.holds Try.pinned (OpenSpec.ofChange indexFindsWrong)

/-- 'lumkeep.IndexLattice': WHATEVER THE INPUT: true; the input reads as it did. -/
def indexLatticeSpec : ChangeSpec := { name := "indexLattice", fn := fun _ => fun
  | [d1, d2, d3] => { results := [.lit (.bool true)], args := [d1, d2, d3] }
  | _ => none }
def indexLatticeRow : OpenClaim := { program := "ytiokodjlijaddaa", sum := "c565003a379278a912b000f80e8495cf829a55ce38382158210403bc2dc2a8a0", func := "lumberroom/lumkeep.IndexLattice", spec := "indexLattice", inPlace := ["internal/bytealg.Compare"], unfollowed := true, recurses := true, apart := false }
def IndexLatticeSaid : Prop := indexLatticeRow.holds Try.pinned (OpenSpec.ofChange indexLatticeSpec)

/-- ITS FALSE NEIGHBOUR: 'it returns false'. Refute it at one input. -/
def indexLatticeWrong : ChangeSpec := { name := "indexLattice", fn := fun _ => fun
  | [d1, d2, d3] => { results := [.lit (.bool false)], args := [d1, d2, d3] }
  | _ => none }
def IndexLatticeWrongFalsely : Prop := indexLatticeRow.holds Try.pinned (OpenSpec.ofChange indexLatticeWrong)

/-- 'lumkeep.IndexOwn': WHATEVER THE INPUT: true; the input reads as it did. -/
def indexOwnSpec : ChangeSpec := { name := "indexOwn", fn := fun _ => fun
  | [d1, d2, d3] => { results := [.lit (.bool true)], args := [d1, d2, d3] }
  | _ => none }
def indexOwnRow : OpenClaim := { program := "ytiokodjlijaddaa", sum := "c565003a379278a912b000f80e8495cf829a55ce38382158210403bc2dc2a8a0", func := "lumberroom/lumkeep.IndexOwn", spec := "indexOwn", inPlace := ["internal/bytealg.Compare"], unfollowed := true, recurses := true, apart := false }
def IndexOwnSaid : Prop := indexOwnRow.holds Try.pinned (OpenSpec.ofChange indexOwnSpec)

/-- ITS FALSE NEIGHBOUR: 'it returns false'. Refute it at one input. -/
def indexOwnWrong : ChangeSpec := { name := "indexOwn", fn := fun _ => fun
  | [d1, d2, d3] => { results := [.lit (.bool false)], args := [d1, d2, d3] }
  | _ => none }
def IndexOwnWrongFalsely : Prop := indexOwnRow.holds Try.pinned (OpenSpec.ofChange indexOwnWrong)

/-- 'lumkeep.IndexBuild': WHATEVER THE INPUT: true; the input reads as it did. -/
def indexBuildSpec : ChangeSpec := { name := "indexBuild", fn := fun _ => fun
  | [d1, d2, d3] => { results := [.lit (.bool true)], args := [d1, d2, d3] }
  | _ => none }
def indexBuildRow : OpenClaim := { program := "ytiokodjlijaddaa", sum := "c565003a379278a912b000f80e8495cf829a55ce38382158210403bc2dc2a8a0", func := "lumberroom/lumkeep.IndexBuild", spec := "indexBuild", inPlace := ["internal/bytealg.Compare"], unfollowed := true, recurses := true, apart := false }
def IndexBuildSaid : Prop := indexBuildRow.holds Try.pinned (OpenSpec.ofChange indexBuildSpec)

/-- ITS FALSE NEIGHBOUR: 'it returns false'. Refute it at one input. -/
def indexBuildWrong : ChangeSpec := { name := "indexBuild", fn := fun _ => fun
  | [d1, d2, d3] => { results := [.lit (.bool false)], args := [d1, d2, d3] }
  | _ => none }
def IndexBuildWrongFalsely : Prop := indexBuildRow.holds Try.pinned (OpenSpec.ofChange indexBuildWrong)

/- THE SECOND FORM. 'bulk': how many values and letters a reading holds, each counted each time it is reached (what is shared counts as often as it is met; a slice's spare places count too). A statement '..UptoSaid' is the law's where the arguments, and the package variables that the reading takes, are together of bulk at most 1048576: NARROWER than '..Said'. Prove '..Said' where nothing that the law and all that it calls make is longer than what came in: it says more and counts as full. Else prove '..UptoSaid'. A law counts once. -/
mutual
def uptoBulk {H : Type} : DataW H → Nat
  | .lit (.string bytes) => bytes.length + 1
  | .lit _ => 1
  | .nil => 1
  | .ptr d => uptoBulk d + 1
  | .slice elems spare => uptoBulkAll elems + uptoBulkAll spare + 1
  | .agg parts => uptoBulkAll parts + 1
  | .iface _ d => uptoBulk d + 1
  | .map entries => uptoBulkEntries entries + 1
  | .held _ => 1
def uptoBulkAll {H : Type} : List (DataW H) → Nat
  | [] => 0
  | d :: r => uptoBulk d + uptoBulkAll r
def uptoBulkEntries {H : Type} : List (Lit × DataW H) → Nat
  | [] => 0
  | x :: r => uptoBulkEntry x + uptoBulkEntries r
def uptoBulkEntry {H : Type} : Lit × DataW H → Nat
  | (.string bytes, d) => bytes.length + uptoBulk d + 1
  | (_, d) => uptoBulk d + 1
 end
def uptoSmall : (H : Type) → List (DataW H) → Bool := fun _ ds => decide (uptoBulkAll ds ≤ 1048576)
def OpenSpec.upto (s : _root_.Go.ChangeSpec) : _root_.Go.OpenSpec := { _root_.Go.OpenSpec.ofChange s with cond := some uptoSmall }

/-- 'lumkeep.NumFloatOrder', WHERE WHAT IT READS IS OF BULK AT MOST 1048576: true; the input reads as it did. -/
def numFloatOrderUptoRow : OpenClaim := { program := "ytiokodjlijaddaa", sum := "c565003a379278a912b000f80e8495cf829a55ce38382158210403bc2dc2a8a0", func := "lumberroom/lumkeep.NumFloatOrder", spec := "numFloatOrder", inPlace := ["math.Float64bits", "math.Float64frombits"], named := ["encoding/binary.BigEndian"], apart := false, narrowed := true }
def NumFloatOrderUptoSaid : Prop := numFloatOrderUptoRow.holds Try.pinned (OpenSpec.upto numFloatOrderSpec)

/-- 'lumkeep.IndexFinds', WHERE WHAT IT READS IS OF BULK AT MOST 1048576: true; the input reads as it did. -/
def indexFindsUptoRow : OpenClaim := { program := "ytiokodjlijaddaa", sum := "c565003a379278a912b000f80e8495cf829a55ce38382158210403bc2dc2a8a0", func := "lumberroom/lumkeep.IndexFinds", spec := "indexFinds", inPlace := ["internal/bytealg.Compare"], unfollowed := true, recurses := true, apart := false, narrowed := true }
def IndexFindsUptoSaid : Prop := indexFindsUptoRow.holds Try.pinned (OpenSpec.upto indexFindsSpec)

/-- 'lumkeep.IndexLattice', WHERE WHAT IT READS IS OF BULK AT MOST 1048576: true; the input reads as it did. -/
def indexLatticeUptoRow : OpenClaim := { program := "ytiokodjlijaddaa", sum := "c565003a379278a912b000f80e8495cf829a55ce38382158210403bc2dc2a8a0", func := "lumberroom/lumkeep.IndexLattice", spec := "indexLattice", inPlace := ["internal/bytealg.Compare"], unfollowed := true, recurses := true, apart := false, narrowed := true }
def IndexLatticeUptoSaid : Prop := indexLatticeUptoRow.holds Try.pinned (OpenSpec.upto indexLatticeSpec)

/-- 'lumkeep.IndexOwn', WHERE WHAT IT READS IS OF BULK AT MOST 1048576: true; the input reads as it did. -/
def indexOwnUptoRow : OpenClaim := { program := "ytiokodjlijaddaa", sum := "c565003a379278a912b000f80e8495cf829a55ce38382158210403bc2dc2a8a0", func := "lumberroom/lumkeep.IndexOwn", spec := "indexOwn", inPlace := ["internal/bytealg.Compare"], unfollowed := true, recurses := true, apart := false, narrowed := true }
def IndexOwnUptoSaid : Prop := indexOwnUptoRow.holds Try.pinned (OpenSpec.upto indexOwnSpec)

/-- 'lumkeep.IndexBuild', WHERE WHAT IT READS IS OF BULK AT MOST 1048576: true; the input reads as it did. -/
def indexBuildUptoRow : OpenClaim := { program := "ytiokodjlijaddaa", sum := "c565003a379278a912b000f80e8495cf829a55ce38382158210403bc2dc2a8a0", func := "lumberroom/lumkeep.IndexBuild", spec := "indexBuild", inPlace := ["internal/bytealg.Compare"], unfollowed := true, recurses := true, apart := false, narrowed := true }
def IndexBuildUptoSaid : Prop := indexBuildUptoRow.holds Try.pinned (OpenSpec.upto indexBuildSpec)

end Rows
end Go.Proofs.Ytiokodjlijaddaa
