/-
  No cell of these rows narrows 'for every input' (looked for: loops, veiled, ifaces, maps, wideKeys, modest, calm, conditions, laid).
  DERIVED. THE GIVEN ROWS OF THIS SEAT. 6 by the template 'for every input the law returns true; each argument reads behind the call as it read before'; 0 by the template 'total and deterministic' (their statements: YtaipojclfpgaaaaTotals.lean).
  GIVEN WITH THE SEED: the statements are not yours to turn. If you find one false, say at which input.
  Laid BY PROGRAM, IN A SANDBOX (cutbox-rows.mjs): the forced cells as the released guide's own fill.sh prints them over the translation 677c0801ca1763f2… (all of the seat's roots in one cut). By AI agents, Wed Nov 11 2026. No macro, syntax, notation, axiom, sorry.
-/
import Derived.Test.YtaipojclfpgaaaaChecked
import GoSem.Claim
import GoSem.ClaimJoined
import GoSem.ClaimMapViews
import Derived.JoinedTies
import Derived.KernelRfl
namespace Go.Proofs.Ytaipojclfpgaaaa
/- THE CELL 'sum', in the pinned program and in every row, IS THE sha256 OF THE DUMP (.gsa) THAT YtaipojclfpgaaaaProg.lean LOADS. Nothing in Lean hashes anything: it is a label: what it is worth is what the hold of that sum in a sandbox is worth. -/
noncomputable def Try.pinned : Pinned := { name := "ytaipojclfpgaaaa", sum := "677c0801ca1763f23efab3aaa6c7ba3da6ecc4f35aa1e1900ae1d5b812153d54", checked := Try.checked }
namespace Rows
def none {H : Type} : Left H := { results := [], args := [] }

/-- 'lumkeep.HuffFull': WHATEVER THE INPUT: true; the input reads as it did. -/
def huffFullSpec : ChangeSpec := { name := "huffFull", fn := fun _ => fun
  | [d] => { results := [.lit (.bool true)], args := [d] }
  | _ => none }
def huffFullRow : OpenClaim := { program := "ytaipojclfpgaaaa", sum := "677c0801ca1763f23efab3aaa6c7ba3da6ecc4f35aa1e1900ae1d5b812153d54", func := "lumberroom/lumkeep.HuffFull", spec := "huffFull", unfollowed := true, recurses := true, plainKeys := false, apart := false }
def HuffFullSaid : Prop := huffFullRow.holds Try.pinned (OpenSpec.ofChange huffFullSpec)

/-- ITS FALSE NEIGHBOUR: 'it returns false'. Refute it at one input. -/
def huffFullWrong : ChangeSpec := { name := "huffFull", fn := fun _ => fun
  | [d] => { results := [.lit (.bool false)], args := [d] }
  | _ => none }
def HuffFullWrongFalsely : Prop := huffFullRow.holds Try.pinned (OpenSpec.ofChange huffFullWrong)

/-- 'lumkeep.HuffLeast': WHATEVER THE INPUT: true; the input reads as it did. -/
def huffLeastSpec : ChangeSpec := { name := "huffLeast", fn := fun _ => fun
  | [d1, d2] => { results := [.lit (.bool true)], args := [d1, d2] }
  | _ => none }
def huffLeastRow : OpenClaim := { program := "ytaipojclfpgaaaa", sum := "677c0801ca1763f23efab3aaa6c7ba3da6ecc4f35aa1e1900ae1d5b812153d54", func := "lumberroom/lumkeep.HuffLeast", spec := "huffLeast", unfollowed := true, recurses := true, plainKeys := false, apart := false }
def HuffLeastSaid : Prop := huffLeastRow.holds Try.pinned (OpenSpec.ofChange huffLeastSpec)

/-- ITS FALSE NEIGHBOUR: 'it returns false'. Refute it at one input. -/
def huffLeastWrong : ChangeSpec := { name := "huffLeast", fn := fun _ => fun
  | [d1, d2] => { results := [.lit (.bool false)], args := [d1, d2] }
  | _ => none }
def HuffLeastWrongFalsely : Prop := huffLeastRow.holds Try.pinned (OpenSpec.ofChange huffLeastWrong)

/-- 'lumkeep.ShieldAny': WHATEVER THE INPUT: true; the input reads as it did. -/
def shieldAnySpec : ChangeSpec := { name := "shieldAny", fn := fun _ => fun
  | [d1, d2, d3] => { results := [.lit (.bool true)], args := [d1, d2, d3] }
  | _ => none }
def shieldAnyRow : OpenClaim := { program := "ytaipojclfpgaaaa", sum := "677c0801ca1763f23efab3aaa6c7ba3da6ecc4f35aa1e1900ae1d5b812153d54", func := "lumberroom/lumkeep.ShieldAny", spec := "shieldAny", plainKeys := false, apart := false }
def ShieldAnySaid : Prop := shieldAnyRow.holds Try.pinned (OpenSpec.ofChange shieldAnySpec)

/-- ITS FALSE NEIGHBOUR: 'it returns false'. Refute it at one input. -/
def shieldAnyWrong : ChangeSpec := { name := "shieldAny", fn := fun _ => fun
  | [d1, d2, d3] => { results := [.lit (.bool false)], args := [d1, d2, d3] }
  | _ => none }
def ShieldAnyWrongFalsely : Prop := shieldAnyRow.holds Try.pinned (OpenSpec.ofChange shieldAnyWrong)

/-- 'lumkeep.ShieldOwn': WHATEVER THE INPUT: true; the input reads as it did. -/
def shieldOwnSpec : ChangeSpec := { name := "shieldOwn", fn := fun _ => fun
  | [d1, d2, d3] => { results := [.lit (.bool true)], args := [d1, d2, d3] }
  | _ => none }
def shieldOwnRow : OpenClaim := { program := "ytaipojclfpgaaaa", sum := "677c0801ca1763f23efab3aaa6c7ba3da6ecc4f35aa1e1900ae1d5b812153d54", func := "lumberroom/lumkeep.ShieldOwn", spec := "shieldOwn", plainKeys := false, apart := false }
def ShieldOwnSaid : Prop := shieldOwnRow.holds Try.pinned (OpenSpec.ofChange shieldOwnSpec)

/-- ITS FALSE NEIGHBOUR: 'it returns false'. Refute it at one input. -/
def shieldOwnWrong : ChangeSpec := { name := "shieldOwn", fn := fun _ => fun
  | [d1, d2, d3] => { results := [.lit (.bool false)], args := [d1, d2, d3] }
  | _ => none }
def ShieldOwnWrongFalsely : Prop := shieldOwnRow.holds Try.pinned (OpenSpec.ofChange shieldOwnWrong)

/-- 'lumkeep.PressBound': WHATEVER THE INPUT: true; the input reads as it did. -/
def pressBoundSpec : ChangeSpec := { name := "pressBound", fn := fun _ => fun
  | [d] => { results := [.lit (.bool true)], args := [d] }
  | _ => none }
def pressBoundRow : OpenClaim := { program := "ytaipojclfpgaaaa", sum := "677c0801ca1763f23efab3aaa6c7ba3da6ecc4f35aa1e1900ae1d5b812153d54", func := "lumberroom/lumkeep.PressBound", spec := "pressBound", unfollowed := true, recurses := true, plainKeys := false, apart := false }
def PressBoundSaid : Prop := pressBoundRow.holds Try.pinned (OpenSpec.ofChange pressBoundSpec)

/-- ITS FALSE NEIGHBOUR: 'it returns false'. Refute it at one input. -/
def pressBoundWrong : ChangeSpec := { name := "pressBound", fn := fun _ => fun
  | [d] => { results := [.lit (.bool false)], args := [d] }
  | _ => none }
def PressBoundWrongFalsely : Prop := pressBoundRow.holds Try.pinned (OpenSpec.ofChange pressBoundWrong)

/-- 'lumkeep.LzOwn': WHATEVER THE INPUT: true; the input reads as it did. -/
def lzOwnSpec : ChangeSpec := { name := "lzOwn", fn := fun _ => fun
  | [d1, d2] => { results := [.lit (.bool true)], args := [d1, d2] }
  | _ => none }
def lzOwnRow : OpenClaim := { program := "ytaipojclfpgaaaa", sum := "677c0801ca1763f23efab3aaa6c7ba3da6ecc4f35aa1e1900ae1d5b812153d54", func := "lumberroom/lumkeep.LzOwn", spec := "lzOwn", unfollowed := true, recurses := true, plainKeys := false, apart := false }
def LzOwnSaid : Prop := lzOwnRow.holds Try.pinned (OpenSpec.ofChange lzOwnSpec)

/-- ITS FALSE NEIGHBOUR: 'it returns false'. Refute it at one input. -/
def lzOwnWrong : ChangeSpec := { name := "lzOwn", fn := fun _ => fun
  | [d1, d2] => { results := [.lit (.bool false)], args := [d1, d2] }
  | _ => none }
def LzOwnWrongFalsely : Prop := lzOwnRow.holds Try.pinned (OpenSpec.ofChange lzOwnWrong)

/- THE SECOND FORM. 'bulk': how many values and letters a reading holds, each counted each time it is reached (what is shared counts as often as it is met; a slice's spare places count too). A statement '..UptoSaid' is the law's where the arguments, and the package variables that the reading takes, are together of bulk at most 1048576: NARROWER than '..Said'. Prove '..Said' where nothing that the law and all that it calls make is longer than what came in: it says more and counts as full. Else prove '..UptoSaid'. A law counts once. -/
mutual
def uptoBulk {H : Type} : DataW H → Nat
  | .lit (.string bytes) => bytes.length + 1
  | .lit _ => 1
  | .nil => 1
  | .ptr d => uptoBulk d + 1
  | .slice elems spare => uptoBulkAll elems + uptoBulkAll spare + 1
  | .agg parts => uptoBulkAll parts + 1
  | .iface _ d => uptoBulk d + 1
  | .map entries => uptoBulkEntries entries + 1
  | .held _ => 1
def uptoBulkAll {H : Type} : List (DataW H) → Nat
  | [] => 0
  | d :: r => uptoBulk d + uptoBulkAll r
def uptoBulkEntries {H : Type} : List (Lit × DataW H) → Nat
  | [] => 0
  | x :: r => uptoBulkEntry x + uptoBulkEntries r
def uptoBulkEntry {H : Type} : Lit × DataW H → Nat
  | (.string bytes, d) => bytes.length + uptoBulk d + 1
  | (_, d) => uptoBulk d + 1
 end
def uptoSmall : (H : Type) → List (DataW H) → Bool := fun _ ds => decide (uptoBulkAll ds ≤ 1048576)
def OpenSpec.upto (s : _root_.Go.ChangeSpec) : _root_.Go.OpenSpec := { _root_.Go.OpenSpec.ofChange s with cond := some uptoSmall }

/-- 'lumkeep.HuffFull', WHERE WHAT IT READS IS OF BULK AT MOST 1048576: true; the input reads as it did. -/
def huffFullUptoRow : OpenClaim := { program := "ytaipojclfpgaaaa", sum := "677c0801ca1763f23efab3aaa6c7ba3da6ecc4f35aa1e1900ae1d5b812153d54", func := "lumberroom/lumkeep.HuffFull", spec := "huffFull", unfollowed := true, recurses := true, plainKeys := false, apart := false, narrowed := true }
def HuffFullUptoSaid : Prop := huffFullUptoRow.holds Try.pinned (OpenSpec.upto huffFullSpec)

/-- 'lumkeep.HuffLeast', WHERE WHAT IT READS IS OF BULK AT MOST 1048576: true; the input reads as it did. -/
def huffLeastUptoRow : OpenClaim := { program := "ytaipojclfpgaaaa", sum := "677c0801ca1763f23efab3aaa6c7ba3da6ecc4f35aa1e1900ae1d5b812153d54", func := "lumberroom/lumkeep.HuffLeast", spec := "huffLeast", unfollowed := true, recurses := true, plainKeys := false, apart := false, narrowed := true }
def HuffLeastUptoSaid : Prop := huffLeastUptoRow.holds Try.pinned (OpenSpec.upto huffLeastSpec)

/-- 'lumkeep.ShieldAny', WHERE WHAT IT READS IS OF BULK AT MOST 1048576: true; the input reads as it did. -/
def shieldAnyUptoRow : OpenClaim := { program := "ytaipojclfpgaaaa", sum := "677c0801ca1763f23efab3aaa6c7ba3da6ecc4f35aa1e1900ae1d5b812153d54", func := "lumberroom/lumkeep.ShieldAny", spec := "shieldAny", plainKeys := false, apart := false, narrowed := true }
def ShieldAnyUptoSaid : Prop := shieldAnyUptoRow.holds Try.pinned (OpenSpec.upto shieldAnySpec)

/-- 'lumkeep.ShieldOwn', WHERE WHAT IT READS IS OF BULK AT MOST 1048576: true; the input reads as it did. -/
def shieldOwnUptoRow : OpenClaim := { program := "ytaipojclfpgaaaa", sum := "677c0801ca1763f23efab3aaa6c7ba3da6ecc4f35aa1e1900ae1d5b812153d54", func := "lumberroom/lumkeep.ShieldOwn", spec := "shieldOwn", plainKeys := false, apart := false, narrowed := true }
def ShieldOwnUptoSaid : Prop := shieldOwnUptoRow.holds Try.pinned (OpenSpec.upto shieldOwnSpec)

/-- 'lumkeep.PressBound', WHERE WHAT IT READS IS OF BULK AT MOST 1048576: true; the input reads as it did. -/
def pressBoundUptoRow : OpenClaim := { program := "ytaipojclfpgaaaa", sum := "677c0801ca1763f23efab3aaa6c7ba3da6ecc4f35aa1e1900ae1d5b812153d54", func := "lumberroom/lumkeep.PressBound", spec := "pressBound", unfollowed := true, recurses := true, plainKeys := false, apart := false, narrowed := true }
def PressBoundUptoSaid : Prop := pressBoundUptoRow.holds Try.pinned (OpenSpec.upto pressBoundSpec)

/-- 'lumkeep.LzOwn', WHERE WHAT IT READS IS OF BULK AT MOST 1048576: true; the input reads as it did. -/
def lzOwnUptoRow : OpenClaim := { program := "ytaipojclfpgaaaa", sum := "677c0801ca1763f23efab3aaa6c7ba3da6ecc4f35aa1e1900ae1d5b812153d54", func := "lumberroom/lumkeep.LzOwn", spec := "lzOwn", unfollowed := true, recurses := true, plainKeys := false, apart := false, narrowed := true }
def LzOwnUptoSaid : Prop := lzOwnUptoRow.holds Try.pinned (OpenSpec.upto lzOwnSpec)

end Rows
end Go.Proofs.Ytaipojclfpgaaaa
