/-
  No cell of these rows narrows 'for every input' (looked for: loops, veiled, ifaces, maps, wideKeys, modest, calm, conditions, laid).
  DERIVED. THE GIVEN ROWS OF THIS SEAT. 11 by the template 'for every input the law returns true; each argument reads behind the call as it read before'; 0 by the template 'total and deterministic' (their statements: YtcocdlhjfbpkfaaTotals.lean).
  GIVEN WITH THE SEED: the statements are not yours to turn. If you find one false, say at which input.
  Laid BY PROGRAM, IN A SANDBOX (cutbox-rows.mjs): the forced cells as the released guide's own fill.sh prints them over the translation 2464ac6e5a0da223… (all of the seat's roots in one cut). By AI agents, Wed Nov 11 2026. No macro, syntax, notation, axiom, sorry.
-/
import Derived.Test.YtcocdlhjfbpkfaaChecked
import GoSem.Claim
import GoSem.ClaimJoined
import GoSem.ClaimMapViews
import Derived.JoinedTies
import Derived.KernelRfl
namespace Go.Proofs.Ytcocdlhjfbpkfaa
/- THE CELL 'sum', in the pinned program and in every row, IS THE sha256 OF THE DUMP (.gsa) THAT YtcocdlhjfbpkfaaProg.lean LOADS. Nothing in Lean hashes anything: it is a label: what it is worth is what the hold of that sum in a sandbox is worth. -/
noncomputable def Try.pinned : Pinned := { name := "ytcocdlhjfbpkfaa", sum := "2464ac6e5a0da22318a05e4fccd033f0b142403608acc36ec51f84d429f7c73f", checked := Try.checked }
namespace Rows
def none {H : Type} : Left H := { results := [], args := [] }

/-- 'lumkeep.RollLinear': WHATEVER THE INPUT: true; the input reads as it did. -/
def rollLinearSpec : ChangeSpec := { name := "rollLinear", fn := fun _ => fun
  | [d1, d2] => { results := [.lit (.bool true)], args := [d1, d2] }
  | _ => none }
def rollLinearRow : OpenClaim := { program := "ytcocdlhjfbpkfaa", sum := "2464ac6e5a0da22318a05e4fccd033f0b142403608acc36ec51f84d429f7c73f", func := "lumberroom/lumkeep.RollLinear", spec := "rollLinear", apart := false }
def RollLinearSaid : Prop := rollLinearRow.holds Try.pinned (OpenSpec.ofChange rollLinearSpec)

/-- ITS FALSE NEIGHBOUR: 'it returns false'. Refute it at one input. -/
def rollLinearWrong : ChangeSpec := { name := "rollLinear", fn := fun _ => fun
  | [d1, d2] => { results := [.lit (.bool false)], args := [d1, d2] }
  | _ => none }
def RollLinearWrongFalsely : Prop := rollLinearRow.holds Try.pinned (OpenSpec.ofChange rollLinearWrong)

/-- 'lumkeep.MixBack': WHATEVER THE INPUT: true; the input reads as it did. -/
def mixBackSpec : ChangeSpec := { name := "mixBack", fn := fun _ => fun
  | [d1, d2] => { results := [.lit (.bool true)], args := [d1, d2] }
  | _ => none }
def mixBackRow : OpenClaim := { program := "ytcocdlhjfbpkfaa", sum := "2464ac6e5a0da22318a05e4fccd033f0b142403608acc36ec51f84d429f7c73f", func := "lumberroom/lumkeep.MixBack", spec := "mixBack", apart := false }
def MixBackSaid : Prop := mixBackRow.holds Try.pinned (OpenSpec.ofChange mixBackSpec)

/-- ITS FALSE NEIGHBOUR: 'it returns false'. Refute it at one input. -/
def mixBackWrong : ChangeSpec := { name := "mixBack", fn := fun _ => fun
  | [d1, d2] => { results := [.lit (.bool false)], args := [d1, d2] }
  | _ => none }
def MixBackWrongFalsely : Prop := mixBackRow.holds Try.pinned (OpenSpec.ofChange mixBackWrong)

/-- 'lumkeep.RollField': WHATEVER THE INPUT: true; the input reads as it did. -/
def rollFieldSpec : ChangeSpec := { name := "rollField", fn := fun _ => fun
  | [d1, d2, d3] => { results := [.lit (.bool true)], args := [d1, d2, d3] }
  | _ => none }
def rollFieldRow : OpenClaim := { program := "ytcocdlhjfbpkfaa", sum := "2464ac6e5a0da22318a05e4fccd033f0b142403608acc36ec51f84d429f7c73f", func := "lumberroom/lumkeep.RollField", spec := "rollField", apart := false }
def RollFieldSaid : Prop := rollFieldRow.holds Try.pinned (OpenSpec.ofChange rollFieldSpec)

/-- ITS FALSE NEIGHBOUR: 'it returns false'. Refute it at one input. -/
def rollFieldWrong : ChangeSpec := { name := "rollField", fn := fun _ => fun
  | [d1, d2, d3] => { results := [.lit (.bool false)], args := [d1, d2, d3] }
  | _ => none }
def RollFieldWrongFalsely : Prop := rollFieldRow.holds Try.pinned (OpenSpec.ofChange rollFieldWrong)

/-- 'lumkeep.RollFrobenius': WHATEVER THE INPUT: true; the input reads as it did. -/
def rollFrobeniusSpec : ChangeSpec := { name := "rollFrobenius", fn := fun _ => fun
  | [d1, d2] => { results := [.lit (.bool true)], args := [d1, d2] }
  | _ => none }
def rollFrobeniusRow : OpenClaim := { program := "ytcocdlhjfbpkfaa", sum := "2464ac6e5a0da22318a05e4fccd033f0b142403608acc36ec51f84d429f7c73f", func := "lumberroom/lumkeep.RollFrobenius", spec := "rollFrobenius", unfollowed := true, recurses := true, apart := false }
def RollFrobeniusSaid : Prop := rollFrobeniusRow.holds Try.pinned (OpenSpec.ofChange rollFrobeniusSpec)

/-- ITS FALSE NEIGHBOUR: 'it returns false'. Refute it at one input. -/
def rollFrobeniusWrong : ChangeSpec := { name := "rollFrobenius", fn := fun _ => fun
  | [d1, d2] => { results := [.lit (.bool false)], args := [d1, d2] }
  | _ => none }
def RollFrobeniusWrongFalsely : Prop := rollFrobeniusRow.holds Try.pinned (OpenSpec.ofChange rollFrobeniusWrong)

/-- 'lumkeep.FieldRoots': WHATEVER THE INPUT: true; the input reads as it did. -/
def fieldRootsSpec : ChangeSpec := { name := "fieldRoots", fn := fun _ => fun
  | [d1, d2, d3] => { results := [.lit (.bool true)], args := [d1, d2, d3] }
  | _ => none }
def fieldRootsRow : OpenClaim := { program := "ytcocdlhjfbpkfaa", sum := "2464ac6e5a0da22318a05e4fccd033f0b142403608acc36ec51f84d429f7c73f", func := "lumberroom/lumkeep.FieldRoots", spec := "fieldRoots", apart := false }
def FieldRootsSaid : Prop := fieldRootsRow.holds Try.pinned (OpenSpec.ofChange fieldRootsSpec)

/-- ITS FALSE NEIGHBOUR: 'it returns false'. Refute it at one input. -/
def fieldRootsWrong : ChangeSpec := { name := "fieldRoots", fn := fun _ => fun
  | [d1, d2, d3] => { results := [.lit (.bool false)], args := [d1, d2, d3] }
  | _ => none }
def FieldRootsWrongFalsely : Prop := fieldRootsRow.holds Try.pinned (OpenSpec.ofChange fieldRootsWrong)

/-- 'lumkeep.FieldAxioms': WHATEVER THE INPUT: true; the input reads as it did. -/
def fieldAxiomsSpec : ChangeSpec := { name := "fieldAxioms", fn := fun _ => fun
  | [d1, d2, d3] => { results := [.lit (.bool true)], args := [d1, d2, d3] }
  | _ => none }
def fieldAxiomsRow : OpenClaim := { program := "ytcocdlhjfbpkfaa", sum := "2464ac6e5a0da22318a05e4fccd033f0b142403608acc36ec51f84d429f7c73f", func := "lumberroom/lumkeep.FieldAxioms", spec := "fieldAxioms", apart := false }
def FieldAxiomsSaid : Prop := fieldAxiomsRow.holds Try.pinned (OpenSpec.ofChange fieldAxiomsSpec)

/-- ITS FALSE NEIGHBOUR: 'it returns false'. Refute it at one input. -/
def fieldAxiomsWrong : ChangeSpec := { name := "fieldAxioms", fn := fun _ => fun
  | [d1, d2, d3] => { results := [.lit (.bool false)], args := [d1, d2, d3] }
  | _ => none }
def FieldAxiomsWrongFalsely : Prop := fieldAxiomsRow.holds Try.pinned (OpenSpec.ofChange fieldAxiomsWrong)

/-- 'lumkeep.FieldPowers': WHATEVER THE INPUT: true; the input reads as it did. -/
def fieldPowersSpec : ChangeSpec := { name := "fieldPowers", fn := fun _ => fun
  | [d1, d2, d3, d4] => { results := [.lit (.bool true)], args := [d1, d2, d3, d4] }
  | _ => none }
def fieldPowersRow : OpenClaim := { program := "ytcocdlhjfbpkfaa", sum := "2464ac6e5a0da22318a05e4fccd033f0b142403608acc36ec51f84d429f7c73f", func := "lumberroom/lumkeep.FieldPowers", spec := "fieldPowers", apart := false }
def FieldPowersSaid : Prop := fieldPowersRow.holds Try.pinned (OpenSpec.ofChange fieldPowersSpec)

/-- ITS FALSE NEIGHBOUR: 'it returns false'. Refute it at one input. -/
def fieldPowersWrong : ChangeSpec := { name := "fieldPowers", fn := fun _ => fun
  | [d1, d2, d3, d4] => { results := [.lit (.bool false)], args := [d1, d2, d3, d4] }
  | _ => none }
def FieldPowersWrongFalsely : Prop := fieldPowersRow.holds Try.pinned (OpenSpec.ofChange fieldPowersWrong)

/-- 'lumkeep.FieldCycle': WHATEVER THE INPUT: true; the input reads as it did. -/
def fieldCycleSpec : ChangeSpec := { name := "fieldCycle", fn := fun _ => fun
  | [d] => { results := [.lit (.bool true)], args := [d] }
  | _ => none }
def fieldCycleRow : OpenClaim := { program := "ytcocdlhjfbpkfaa", sum := "2464ac6e5a0da22318a05e4fccd033f0b142403608acc36ec51f84d429f7c73f", func := "lumberroom/lumkeep.FieldCycle", spec := "fieldCycle", apart := false }
def FieldCycleSaid : Prop := fieldCycleRow.holds Try.pinned (OpenSpec.ofChange fieldCycleSpec)

/-- ITS FALSE NEIGHBOUR: 'it returns false'. Refute it at one input. -/
def fieldCycleWrong : ChangeSpec := { name := "fieldCycle", fn := fun _ => fun
  | [d] => { results := [.lit (.bool false)], args := [d] }
  | _ => none }
def FieldCycleWrongFalsely : Prop := fieldCycleRow.holds Try.pinned (OpenSpec.ofChange fieldCycleWrong)

/-- 'lumkeep.RollForgets': WHATEVER THE INPUT: true; the input reads as it did. -/
def rollForgetsSpec : ChangeSpec := { name := "rollForgets", fn := fun _ => fun
  | [d1, d2] => { results := [.lit (.bool true)], args := [d1, d2] }
  | _ => none }
def rollForgetsRow : OpenClaim := { program := "ytcocdlhjfbpkfaa", sum := "2464ac6e5a0da22318a05e4fccd033f0b142403608acc36ec51f84d429f7c73f", func := "lumberroom/lumkeep.RollForgets", spec := "rollForgets", apart := false }
def RollForgetsSaid : Prop := rollForgetsRow.holds Try.pinned (OpenSpec.ofChange rollForgetsSpec)

/-- ITS FALSE NEIGHBOUR: 'it returns false'. Refute it at one input. -/
def rollForgetsWrong : ChangeSpec := { name := "rollForgets", fn := fun _ => fun
  | [d1, d2] => { results := [.lit (.bool false)], args := [d1, d2] }
  | _ => none }
def RollForgetsWrongFalsely : Prop := rollForgetsRow.holds Try.pinned (OpenSpec.ofChange rollForgetsWrong)

/-- 'lumkeep.MixApart': WHATEVER THE INPUT: true; the input reads as it did. -/
def mixApartSpec : ChangeSpec := { name := "mixApart", fn := fun _ => fun
  | [d1, d2, d3] => { results := [.lit (.bool true)], args := [d1, d2, d3] }
  | _ => none }
def mixApartRow : OpenClaim := { program := "ytcocdlhjfbpkfaa", sum := "2464ac6e5a0da22318a05e4fccd033f0b142403608acc36ec51f84d429f7c73f", func := "lumberroom/lumkeep.MixApart", spec := "mixApart", named := ["encoding/binary.LittleEndian", "encoding/binary.BigEndian"], apart := false }
def MixApartSaid : Prop := mixApartRow.holds Try.pinned (OpenSpec.ofChange mixApartSpec)

/-- ITS FALSE NEIGHBOUR: 'it returns false'. Refute it at one input. -/
def mixApartWrong : ChangeSpec := { name := "mixApart", fn := fun _ => fun
  | [d1, d2, d3] => { results := [.lit (.bool false)], args := [d1, d2, d3] }
  | _ => none }
def MixApartWrongFalsely : Prop := mixApartRow.holds Try.pinned (OpenSpec.ofChange mixApartWrong)

/-- 'lumkeep.MixChain': WHATEVER THE INPUT: true; the input reads as it did. -/
def mixChainSpec : ChangeSpec := { name := "mixChain", fn := fun _ => fun
  | [d1, d2, d3] => { results := [.lit (.bool true)], args := [d1, d2, d3] }
  | _ => none }
def mixChainRow : OpenClaim := { program := "ytcocdlhjfbpkfaa", sum := "2464ac6e5a0da22318a05e4fccd033f0b142403608acc36ec51f84d429f7c73f", func := "lumberroom/lumkeep.MixChain", spec := "mixChain", inPlace := ["internal/abi.NoEscape", "internal/bytealg.MakeNoZero"], named := ["encoding/binary.LittleEndian"], apart := false }
def MixChainSaid : Prop := mixChainRow.holds Try.pinned (OpenSpec.ofChange mixChainSpec)

/-- ITS FALSE NEIGHBOUR: 'it returns false'. Refute it at one input. -/
def mixChainWrong : ChangeSpec := { name := "mixChain", fn := fun _ => fun
  | [d1, d2, d3] => { results := [.lit (.bool false)], args := [d1, d2, d3] }
  | _ => none }
def MixChainWrongFalsely : Prop := mixChainRow.holds Try.pinned (OpenSpec.ofChange mixChainWrong)

/- THE SECOND FORM. 'bulk': how many values and letters a reading holds, each counted each time it is reached (what is shared counts as often as it is met; a slice's spare places count too). A statement '..UptoSaid' is the law's where the arguments, and the package variables that the reading takes, are together of bulk at most 1048576: NARROWER than '..Said'. Prove '..Said' where nothing that the law and all that it calls make is longer than what came in: it says more and counts as full. Else prove '..UptoSaid'. A law counts once. -/
mutual
def uptoBulk {H : Type} : DataW H → Nat
  | .lit (.string bytes) => bytes.length + 1
  | .lit _ => 1
  | .nil => 1
  | .ptr d => uptoBulk d + 1
  | .slice elems spare => uptoBulkAll elems + uptoBulkAll spare + 1
  | .agg parts => uptoBulkAll parts + 1
  | .iface _ d => uptoBulk d + 1
  | .map entries => uptoBulkEntries entries + 1
  | .held _ => 1
def uptoBulkAll {H : Type} : List (DataW H) → Nat
  | [] => 0
  | d :: r => uptoBulk d + uptoBulkAll r
def uptoBulkEntries {H : Type} : List (Lit × DataW H) → Nat
  | [] => 0
  | x :: r => uptoBulkEntry x + uptoBulkEntries r
def uptoBulkEntry {H : Type} : Lit × DataW H → Nat
  | (.string bytes, d) => bytes.length + uptoBulk d + 1
  | (_, d) => uptoBulk d + 1
 end
def uptoSmall : (H : Type) → List (DataW H) → Bool := fun _ ds => decide (uptoBulkAll ds ≤ 1048576)
def OpenSpec.upto (s : _root_.Go.ChangeSpec) : _root_.Go.OpenSpec := { _root_.Go.OpenSpec.ofChange s with cond := some uptoSmall }

/-- 'lumkeep.RollLinear', WHERE WHAT IT READS IS OF BULK AT MOST 1048576: true; the input reads as it did. -/
def rollLinearUptoRow : OpenClaim := { program := "ytcocdlhjfbpkfaa", sum := "2464ac6e5a0da22318a05e4fccd033f0b142403608acc36ec51f84d429f7c73f", func := "lumberroom/lumkeep.RollLinear", spec := "rollLinear", apart := false, narrowed := true }
def RollLinearUptoSaid : Prop := rollLinearUptoRow.holds Try.pinned (OpenSpec.upto rollLinearSpec)

/-- 'lumkeep.MixBack', WHERE WHAT IT READS IS OF BULK AT MOST 1048576: true; the input reads as it did. -/
def mixBackUptoRow : OpenClaim := { program := "ytcocdlhjfbpkfaa", sum := "2464ac6e5a0da22318a05e4fccd033f0b142403608acc36ec51f84d429f7c73f", func := "lumberroom/lumkeep.MixBack", spec := "mixBack", apart := false, narrowed := true }
def MixBackUptoSaid : Prop := mixBackUptoRow.holds Try.pinned (OpenSpec.upto mixBackSpec)

/-- 'lumkeep.RollField', WHERE WHAT IT READS IS OF BULK AT MOST 1048576: true; the input reads as it did. -/
def rollFieldUptoRow : OpenClaim := { program := "ytcocdlhjfbpkfaa", sum := "2464ac6e5a0da22318a05e4fccd033f0b142403608acc36ec51f84d429f7c73f", func := "lumberroom/lumkeep.RollField", spec := "rollField", apart := false, narrowed := true }
def RollFieldUptoSaid : Prop := rollFieldUptoRow.holds Try.pinned (OpenSpec.upto rollFieldSpec)

/-- 'lumkeep.RollFrobenius', WHERE WHAT IT READS IS OF BULK AT MOST 1048576: true; the input reads as it did. -/
def rollFrobeniusUptoRow : OpenClaim := { program := "ytcocdlhjfbpkfaa", sum := "2464ac6e5a0da22318a05e4fccd033f0b142403608acc36ec51f84d429f7c73f", func := "lumberroom/lumkeep.RollFrobenius", spec := "rollFrobenius", unfollowed := true, recurses := true, apart := false, narrowed := true }
def RollFrobeniusUptoSaid : Prop := rollFrobeniusUptoRow.holds Try.pinned (OpenSpec.upto rollFrobeniusSpec)

/-- 'lumkeep.FieldRoots', WHERE WHAT IT READS IS OF BULK AT MOST 1048576: true; the input reads as it did. -/
def fieldRootsUptoRow : OpenClaim := { program := "ytcocdlhjfbpkfaa", sum := "2464ac6e5a0da22318a05e4fccd033f0b142403608acc36ec51f84d429f7c73f", func := "lumberroom/lumkeep.FieldRoots", spec := "fieldRoots", apart := false, narrowed := true }
def FieldRootsUptoSaid : Prop := fieldRootsUptoRow.holds Try.pinned (OpenSpec.upto fieldRootsSpec)

/-- 'lumkeep.FieldAxioms', WHERE WHAT IT READS IS OF BULK AT MOST 1048576: true; the input reads as it did. -/
def fieldAxiomsUptoRow : OpenClaim := { program := "ytcocdlhjfbpkfaa", sum := "2464ac6e5a0da22318a05e4fccd033f0b142403608acc36ec51f84d429f7c73f", func := "lumberroom/lumkeep.FieldAxioms", spec := "fieldAxioms", apart := false, narrowed := true }
def FieldAxiomsUptoSaid : Prop := fieldAxiomsUptoRow.holds Try.pinned (OpenSpec.upto fieldAxiomsSpec)

/-- 'lumkeep.FieldPowers', WHERE WHAT IT READS IS OF BULK AT MOST 1048576: true; the input reads as it did. -/
def fieldPowersUptoRow : OpenClaim := { program := "ytcocdlhjfbpkfaa", sum := "2464ac6e5a0da22318a05e4fccd033f0b142403608acc36ec51f84d429f7c73f", func := "lumberroom/lumkeep.FieldPowers", spec := "fieldPowers", apart := false, narrowed := true }
def FieldPowersUptoSaid : Prop := fieldPowersUptoRow.holds Try.pinned (OpenSpec.upto fieldPowersSpec)

/-- 'lumkeep.FieldCycle', WHERE WHAT IT READS IS OF BULK AT MOST 1048576: true; the input reads as it did. -/
def fieldCycleUptoRow : OpenClaim := { program := "ytcocdlhjfbpkfaa", sum := "2464ac6e5a0da22318a05e4fccd033f0b142403608acc36ec51f84d429f7c73f", func := "lumberroom/lumkeep.FieldCycle", spec := "fieldCycle", apart := false, narrowed := true }
def FieldCycleUptoSaid : Prop := fieldCycleUptoRow.holds Try.pinned (OpenSpec.upto fieldCycleSpec)

/-- 'lumkeep.RollForgets', WHERE WHAT IT READS IS OF BULK AT MOST 1048576: true; the input reads as it did. -/
def rollForgetsUptoRow : OpenClaim := { program := "ytcocdlhjfbpkfaa", sum := "2464ac6e5a0da22318a05e4fccd033f0b142403608acc36ec51f84d429f7c73f", func := "lumberroom/lumkeep.RollForgets", spec := "rollForgets", apart := false, narrowed := true }
def RollForgetsUptoSaid : Prop := rollForgetsUptoRow.holds Try.pinned (OpenSpec.upto rollForgetsSpec)

/-- 'lumkeep.MixApart', WHERE WHAT IT READS IS OF BULK AT MOST 1048576: true; the input reads as it did. -/
def mixApartUptoRow : OpenClaim := { program := "ytcocdlhjfbpkfaa", sum := "2464ac6e5a0da22318a05e4fccd033f0b142403608acc36ec51f84d429f7c73f", func := "lumberroom/lumkeep.MixApart", spec := "mixApart", named := ["encoding/binary.LittleEndian", "encoding/binary.BigEndian"], apart := false, narrowed := true }
def MixApartUptoSaid : Prop := mixApartUptoRow.holds Try.pinned (OpenSpec.upto mixApartSpec)

/-- 'lumkeep.MixChain', WHERE WHAT IT READS IS OF BULK AT MOST 1048576: true; the input reads as it did. -/
def mixChainUptoRow : OpenClaim := { program := "ytcocdlhjfbpkfaa", sum := "2464ac6e5a0da22318a05e4fccd033f0b142403608acc36ec51f84d429f7c73f", func := "lumberroom/lumkeep.MixChain", spec := "mixChain", inPlace := ["internal/abi.NoEscape", "internal/bytealg.MakeNoZero"], named := ["encoding/binary.LittleEndian"], apart := false, narrowed := true }
def MixChainUptoSaid : Prop := mixChainUptoRow.holds Try.pinned (OpenSpec.upto mixChainSpec)

end Rows
end Go.Proofs.Ytcocdlhjfbpkfaa
