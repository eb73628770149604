/-
  No cell of these rows narrows 'for every input' (looked for: loops, veiled, ifaces, maps, wideKeys, modest, calm, conditions, laid).
  DERIVED. THE GIVEN ROWS OF THIS SEAT. 11 by the template 'for every input the law returns true; each argument reads behind the call as it read before'; 0 by the template 'total and deterministic' (their statements: YthfjonicolhjnaaTotals.lean).
  GIVEN WITH THE SEED: the statements are not yours to turn. If you find one false, say at which input.
  Laid BY PROGRAM, IN A SANDBOX (cutbox-rows.mjs): the forced cells as the released guide's own fill.sh prints them over the translation dfdf86c8e5b76706… (all of the seat's roots in one cut). By AI agents, Wed Nov 11 2026. No macro, syntax, notation, axiom, sorry.
-/
import Derived.Test.YthfjonicolhjnaaChecked
import GoSem.Claim
import GoSem.ClaimJoined
import GoSem.ClaimMapViews
import Derived.JoinedTies
import Derived.KernelRfl
namespace Go.Proofs.Ythfjonicolhjnaa
/- THE CELL 'sum', in the pinned program and in every row, IS THE sha256 OF THE DUMP (.gsa) THAT YthfjonicolhjnaaProg.lean LOADS. Nothing in Lean hashes anything: it is a label: what it is worth is what the hold of that sum in a sandbox is worth. -/
noncomputable def Try.pinned : Pinned := { name := "ythfjonicolhjnaa", sum := "dfdf86c8e5b76706b47fd2474e2718ce426f0dc3ec2a063a12156583cb4bea45", checked := Try.checked }
namespace Rows
def none {H : Type} : Left H := { results := [], args := [] }

/-- 'lumkeep.BloomNever': WHATEVER THE INPUT: true; the input reads as it did. -/
def bloomNeverSpec : ChangeSpec := { name := "bloomNever", fn := fun _ => fun
  | [d1, d2] => { results := [.lit (.bool true)], args := [d1, d2] }
  | _ => none }
def bloomNeverRow : OpenClaim := { program := "ythfjonicolhjnaa", sum := "dfdf86c8e5b76706b47fd2474e2718ce426f0dc3ec2a063a12156583cb4bea45", func := "lumberroom/lumkeep.BloomNever", spec := "bloomNever", named := ["encoding/binary.BigEndian"], plainKeys := false, apart := false }
def BloomNeverSaid : Prop := bloomNeverRow.holds Try.pinned (OpenSpec.ofChange bloomNeverSpec)

/-- ITS FALSE NEIGHBOUR: 'it returns false'. Refute it at one input. -/
def bloomNeverWrong : ChangeSpec := { name := "bloomNever", fn := fun _ => fun
  | [d1, d2] => { results := [.lit (.bool false)], args := [d1, d2] }
  | _ => none }
def BloomNeverWrongFalsely : Prop := bloomNeverRow.holds Try.pinned (OpenSpec.ofChange bloomNeverWrong)

/-- 'lumkeep.BloomJoins': WHATEVER THE INPUT: true; the input reads as it did. -/
def bloomJoinsSpec : ChangeSpec := { name := "bloomJoins", fn := fun _ => fun
  | [d1, d2, d3, d4] => { results := [.lit (.bool true)], args := [d1, d2, d3, d4] }
  | _ => none }
def bloomJoinsRow : OpenClaim := { program := "ythfjonicolhjnaa", sum := "dfdf86c8e5b76706b47fd2474e2718ce426f0dc3ec2a063a12156583cb4bea45", func := "lumberroom/lumkeep.BloomJoins", spec := "bloomJoins", named := ["encoding/binary.BigEndian"], plainKeys := false, apart := false }
def BloomJoinsSaid : Prop := bloomJoinsRow.holds Try.pinned (OpenSpec.ofChange bloomJoinsSpec)

/-- ITS FALSE NEIGHBOUR: 'it returns false'. Refute it at one input. -/
def bloomJoinsWrong : ChangeSpec := { name := "bloomJoins", fn := fun _ => fun
  | [d1, d2, d3, d4] => { results := [.lit (.bool false)], args := [d1, d2, d3, d4] }
  | _ => none }
def BloomJoinsWrongFalsely : Prop := bloomJoinsRow.holds Try.pinned (OpenSpec.ofChange bloomJoinsWrong)

/-- 'lumkeep.CivilEra': WHATEVER THE INPUT: true; the input reads as it did. -/
def civilEraSpec : ChangeSpec := { name := "civilEra", fn := fun _ => fun
  | [d] => { results := [.lit (.bool true)], args := [d] }
  | _ => none }
def civilEraRow : OpenClaim := { program := "ythfjonicolhjnaa", sum := "dfdf86c8e5b76706b47fd2474e2718ce426f0dc3ec2a063a12156583cb4bea45", func := "lumberroom/lumkeep.CivilEra", spec := "civilEra", plainKeys := false, apart := false }
def CivilEraSaid : Prop := civilEraRow.holds Try.pinned (OpenSpec.ofChange civilEraSpec)

/-- ITS FALSE NEIGHBOUR: 'it returns false'. Refute it at one input. -/
def civilEraWrong : ChangeSpec := { name := "civilEra", fn := fun _ => fun
  | [d] => { results := [.lit (.bool false)], args := [d] }
  | _ => none }
def CivilEraWrongFalsely : Prop := civilEraRow.holds Try.pinned (OpenSpec.ofChange civilEraWrong)

/-- 'lumkeep.CivilBack': WHATEVER THE INPUT: true; the input reads as it did. -/
def civilBackSpec : ChangeSpec := { name := "civilBack", fn := fun _ => fun
  | [d1, d2, d3, d4] => { results := [.lit (.bool true)], args := [d1, d2, d3, d4] }
  | _ => none }
def civilBackRow : OpenClaim := { program := "ythfjonicolhjnaa", sum := "dfdf86c8e5b76706b47fd2474e2718ce426f0dc3ec2a063a12156583cb4bea45", func := "lumberroom/lumkeep.CivilBack", spec := "civilBack", plainKeys := false, apart := false }
def CivilBackSaid : Prop := civilBackRow.holds Try.pinned (OpenSpec.ofChange civilBackSpec)

/-- ITS FALSE NEIGHBOUR: 'it returns false'. Refute it at one input. -/
def civilBackWrong : ChangeSpec := { name := "civilBack", fn := fun _ => fun
  | [d1, d2, d3, d4] => { results := [.lit (.bool false)], args := [d1, d2, d3, d4] }
  | _ => none }
def CivilBackWrongFalsely : Prop := civilBackRow.holds Try.pinned (OpenSpec.ofChange civilBackWrong)

/-- 'lumkeep.BloomFew': WHATEVER THE INPUT: true; the input reads as it did. -/
def bloomFewSpec : ChangeSpec := { name := "bloomFew", fn := fun _ => fun
  | [d] => { results := [.lit (.bool true)], args := [d] }
  | _ => none }
def bloomFewRow : OpenClaim := { program := "ythfjonicolhjnaa", sum := "dfdf86c8e5b76706b47fd2474e2718ce426f0dc3ec2a063a12156583cb4bea45", func := "lumberroom/lumkeep.BloomFew", spec := "bloomFew", named := ["encoding/binary.BigEndian"], plainKeys := false, apart := false }
def BloomFewSaid : Prop := bloomFewRow.holds Try.pinned (OpenSpec.ofChange bloomFewSpec)

/-- ITS FALSE NEIGHBOUR: 'it returns false'. Refute it at one input. -/
def bloomFewWrong : ChangeSpec := { name := "bloomFew", fn := fun _ => fun
  | [d] => { results := [.lit (.bool false)], args := [d] }
  | _ => none }
def BloomFewWrongFalsely : Prop := bloomFewRow.holds Try.pinned (OpenSpec.ofChange bloomFewWrong)

/-- 'lumkeep.CivilNext': WHATEVER THE INPUT: true; the input reads as it did. -/
def civilNextSpec : ChangeSpec := { name := "civilNext", fn := fun _ => fun
  | [d] => { results := [.lit (.bool true)], args := [d] }
  | _ => none }
def civilNextRow : OpenClaim := { program := "ythfjonicolhjnaa", sum := "dfdf86c8e5b76706b47fd2474e2718ce426f0dc3ec2a063a12156583cb4bea45", func := "lumberroom/lumkeep.CivilNext", spec := "civilNext", plainKeys := false, apart := false }
def CivilNextSaid : Prop := civilNextRow.holds Try.pinned (OpenSpec.ofChange civilNextSpec)

/-- ITS FALSE NEIGHBOUR: 'it returns false'. Refute it at one input. -/
def civilNextWrong : ChangeSpec := { name := "civilNext", fn := fun _ => fun
  | [d] => { results := [.lit (.bool false)], args := [d] }
  | _ => none }
def CivilNextWrongFalsely : Prop := civilNextRow.holds Try.pinned (OpenSpec.ofChange civilNextWrong)

/-- 'lumkeep.CivilWeek': WHATEVER THE INPUT: true; the input reads as it did. -/
def civilWeekSpec : ChangeSpec := { name := "civilWeek", fn := fun _ => fun
  | [d1, d2] => { results := [.lit (.bool true)], args := [d1, d2] }
  | _ => none }
def civilWeekRow : OpenClaim := { program := "ythfjonicolhjnaa", sum := "dfdf86c8e5b76706b47fd2474e2718ce426f0dc3ec2a063a12156583cb4bea45", func := "lumberroom/lumkeep.CivilWeek", spec := "civilWeek", plainKeys := false, apart := false }
def CivilWeekSaid : Prop := civilWeekRow.holds Try.pinned (OpenSpec.ofChange civilWeekSpec)

/-- ITS FALSE NEIGHBOUR: 'it returns false'. Refute it at one input. -/
def civilWeekWrong : ChangeSpec := { name := "civilWeek", fn := fun _ => fun
  | [d1, d2] => { results := [.lit (.bool false)], args := [d1, d2] }
  | _ => none }
def CivilWeekWrongFalsely : Prop := civilWeekRow.holds Try.pinned (OpenSpec.ofChange civilWeekWrong)

/-- 'lumkeep.KeepMore': WHATEVER THE INPUT: true; the input reads as it did. -/
def keepMoreSpec : ChangeSpec := { name := "keepMore", fn := fun _ => fun
  | [d1, d2, d3] => { results := [.lit (.bool true)], args := [d1, d2, d3] }
  | _ => none }
def keepMoreRow : OpenClaim := { program := "ythfjonicolhjnaa", sum := "dfdf86c8e5b76706b47fd2474e2718ce426f0dc3ec2a063a12156583cb4bea45", func := "lumberroom/lumkeep.KeepMore", spec := "keepMore", unfollowed := true, recurses := true, plainKeys := false, apart := false }
def KeepMoreSaid : Prop := keepMoreRow.holds Try.pinned (OpenSpec.ofChange keepMoreSpec)

/-- ITS FALSE NEIGHBOUR: 'it returns false'. Refute it at one input. -/
def keepMoreWrong : ChangeSpec := { name := "keepMore", fn := fun _ => fun
  | [d1, d2, d3] => { results := [.lit (.bool false)], args := [d1, d2, d3] }
  | _ => none }
def KeepMoreWrongFalsely : Prop := keepMoreRow.holds Try.pinned (OpenSpec.ofChange keepMoreWrong)

/-- 'lumkeep.KeepAgain': WHATEVER THE INPUT: true; the input reads as it did. -/
def keepAgainSpec : ChangeSpec := { name := "keepAgain", fn := fun _ => fun
  | [d1, d2] => { results := [.lit (.bool true)], args := [d1, d2] }
  | _ => none }
def keepAgainRow : OpenClaim := { program := "ythfjonicolhjnaa", sum := "dfdf86c8e5b76706b47fd2474e2718ce426f0dc3ec2a063a12156583cb4bea45", func := "lumberroom/lumkeep.KeepAgain", spec := "keepAgain", unfollowed := true, recurses := true, plainKeys := false, apart := false }
def KeepAgainSaid : Prop := keepAgainRow.holds Try.pinned (OpenSpec.ofChange keepAgainSpec)

/-- ITS FALSE NEIGHBOUR: 'it returns false'. Refute it at one input. -/
def keepAgainWrong : ChangeSpec := { name := "keepAgain", fn := fun _ => fun
  | [d1, d2] => { results := [.lit (.bool false)], args := [d1, d2] }
  | _ => none }
def KeepAgainWrongFalsely : Prop := keepAgainRow.holds Try.pinned (OpenSpec.ofChange keepAgainWrong)

/-- 'lumkeep.KeepFew': WHATEVER THE INPUT: true; the input reads as it did. -/
def keepFewSpec : ChangeSpec := { name := "keepFew", fn := fun _ => fun
  | [d1, d2] => { results := [.lit (.bool true)], args := [d1, d2] }
  | _ => none }
def keepFewRow : OpenClaim := { program := "ythfjonicolhjnaa", sum := "dfdf86c8e5b76706b47fd2474e2718ce426f0dc3ec2a063a12156583cb4bea45", func := "lumberroom/lumkeep.KeepFew", spec := "keepFew", unfollowed := true, recurses := true, plainKeys := false, apart := false }
def KeepFewSaid : Prop := keepFewRow.holds Try.pinned (OpenSpec.ofChange keepFewSpec)

/-- ITS FALSE NEIGHBOUR: 'it returns false'. Refute it at one input. -/
def keepFewWrong : ChangeSpec := { name := "keepFew", fn := fun _ => fun
  | [d1, d2] => { results := [.lit (.bool false)], args := [d1, d2] }
  | _ => none }
def KeepFewWrongFalsely : Prop := keepFewRow.holds Try.pinned (OpenSpec.ofChange keepFewWrong)

/-- 'lumkeep.KeepYears': WHATEVER THE INPUT: true; the input reads as it did. -/
def keepYearsSpec : ChangeSpec := { name := "keepYears", fn := fun _ => fun
  | [d1, d2] => { results := [.lit (.bool true)], args := [d1, d2] }
  | _ => none }
def keepYearsRow : OpenClaim := { program := "ythfjonicolhjnaa", sum := "dfdf86c8e5b76706b47fd2474e2718ce426f0dc3ec2a063a12156583cb4bea45", func := "lumberroom/lumkeep.KeepYears", spec := "keepYears", unfollowed := true, recurses := true, plainKeys := false, apart := false }
def KeepYearsSaid : Prop := keepYearsRow.holds Try.pinned (OpenSpec.ofChange keepYearsSpec)

/-- ITS FALSE NEIGHBOUR: 'it returns false'. Refute it at one input. -/
def keepYearsWrong : ChangeSpec := { name := "keepYears", fn := fun _ => fun
  | [d1, d2] => { results := [.lit (.bool false)], args := [d1, d2] }
  | _ => none }
def KeepYearsWrongFalsely : Prop := keepYearsRow.holds Try.pinned (OpenSpec.ofChange keepYearsWrong)

/- THE SECOND FORM. 'bulk': how many values and letters a reading holds, each counted each time it is reached (what is shared counts as often as it is met; a slice's spare places count too). A statement '..UptoSaid' is the law's where the arguments, and the package variables that the reading takes, are together of bulk at most 1048576: NARROWER than '..Said'. Prove '..Said' where nothing that the law and all that it calls make is longer than what came in: it says more and counts as full. Else prove '..UptoSaid'. A law counts once. -/
mutual
def uptoBulk {H : Type} : DataW H → Nat
  | .lit (.string bytes) => bytes.length + 1
  | .lit _ => 1
  | .nil => 1
  | .ptr d => uptoBulk d + 1
  | .slice elems spare => uptoBulkAll elems + uptoBulkAll spare + 1
  | .agg parts => uptoBulkAll parts + 1
  | .iface _ d => uptoBulk d + 1
  | .map entries => uptoBulkEntries entries + 1
  | .held _ => 1
def uptoBulkAll {H : Type} : List (DataW H) → Nat
  | [] => 0
  | d :: r => uptoBulk d + uptoBulkAll r
def uptoBulkEntries {H : Type} : List (Lit × DataW H) → Nat
  | [] => 0
  | x :: r => uptoBulkEntry x + uptoBulkEntries r
def uptoBulkEntry {H : Type} : Lit × DataW H → Nat
  | (.string bytes, d) => bytes.length + uptoBulk d + 1
  | (_, d) => uptoBulk d + 1
 end
def uptoSmall : (H : Type) → List (DataW H) → Bool := fun _ ds => decide (uptoBulkAll ds ≤ 1048576)
def OpenSpec.upto (s : _root_.Go.ChangeSpec) : _root_.Go.OpenSpec := { _root_.Go.OpenSpec.ofChange s with cond := some uptoSmall }

/-- 'lumkeep.BloomNever', WHERE WHAT IT READS IS OF BULK AT MOST 1048576: true; the input reads as it did. -/
def bloomNeverUptoRow : OpenClaim := { program := "ythfjonicolhjnaa", sum := "dfdf86c8e5b76706b47fd2474e2718ce426f0dc3ec2a063a12156583cb4bea45", func := "lumberroom/lumkeep.BloomNever", spec := "bloomNever", named := ["encoding/binary.BigEndian"], plainKeys := false, apart := false, narrowed := true }
def BloomNeverUptoSaid : Prop := bloomNeverUptoRow.holds Try.pinned (OpenSpec.upto bloomNeverSpec)

/-- 'lumkeep.BloomJoins', WHERE WHAT IT READS IS OF BULK AT MOST 1048576: true; the input reads as it did. -/
def bloomJoinsUptoRow : OpenClaim := { program := "ythfjonicolhjnaa", sum := "dfdf86c8e5b76706b47fd2474e2718ce426f0dc3ec2a063a12156583cb4bea45", func := "lumberroom/lumkeep.BloomJoins", spec := "bloomJoins", named := ["encoding/binary.BigEndian"], plainKeys := false, apart := false, narrowed := true }
def BloomJoinsUptoSaid : Prop := bloomJoinsUptoRow.holds Try.pinned (OpenSpec.upto bloomJoinsSpec)

/-- 'lumkeep.CivilEra', WHERE WHAT IT READS IS OF BULK AT MOST 1048576: true; the input reads as it did. -/
def civilEraUptoRow : OpenClaim := { program := "ythfjonicolhjnaa", sum := "dfdf86c8e5b76706b47fd2474e2718ce426f0dc3ec2a063a12156583cb4bea45", func := "lumberroom/lumkeep.CivilEra", spec := "civilEra", plainKeys := false, apart := false, narrowed := true }
def CivilEraUptoSaid : Prop := civilEraUptoRow.holds Try.pinned (OpenSpec.upto civilEraSpec)

/-- 'lumkeep.CivilBack', WHERE WHAT IT READS IS OF BULK AT MOST 1048576: true; the input reads as it did. -/
def civilBackUptoRow : OpenClaim := { program := "ythfjonicolhjnaa", sum := "dfdf86c8e5b76706b47fd2474e2718ce426f0dc3ec2a063a12156583cb4bea45", func := "lumberroom/lumkeep.CivilBack", spec := "civilBack", plainKeys := false, apart := false, narrowed := true }
def CivilBackUptoSaid : Prop := civilBackUptoRow.holds Try.pinned (OpenSpec.upto civilBackSpec)

/-- 'lumkeep.BloomFew', WHERE WHAT IT READS IS OF BULK AT MOST 1048576: true; the input reads as it did. -/
def bloomFewUptoRow : OpenClaim := { program := "ythfjonicolhjnaa", sum := "dfdf86c8e5b76706b47fd2474e2718ce426f0dc3ec2a063a12156583cb4bea45", func := "lumberroom/lumkeep.BloomFew", spec := "bloomFew", named := ["encoding/binary.BigEndian"], plainKeys := false, apart := false, narrowed := true }
def BloomFewUptoSaid : Prop := bloomFewUptoRow.holds Try.pinned (OpenSpec.upto bloomFewSpec)

/-- 'lumkeep.CivilNext', WHERE WHAT IT READS IS OF BULK AT MOST 1048576: true; the input reads as it did. -/
def civilNextUptoRow : OpenClaim := { program := "ythfjonicolhjnaa", sum := "dfdf86c8e5b76706b47fd2474e2718ce426f0dc3ec2a063a12156583cb4bea45", func := "lumberroom/lumkeep.CivilNext", spec := "civilNext", plainKeys := false, apart := false, narrowed := true }
def CivilNextUptoSaid : Prop := civilNextUptoRow.holds Try.pinned (OpenSpec.upto civilNextSpec)

/-- 'lumkeep.CivilWeek', WHERE WHAT IT READS IS OF BULK AT MOST 1048576: true; the input reads as it did. -/
def civilWeekUptoRow : OpenClaim := { program := "ythfjonicolhjnaa", sum := "dfdf86c8e5b76706b47fd2474e2718ce426f0dc3ec2a063a12156583cb4bea45", func := "lumberroom/lumkeep.CivilWeek", spec := "civilWeek", plainKeys := false, apart := false, narrowed := true }
def CivilWeekUptoSaid : Prop := civilWeekUptoRow.holds Try.pinned (OpenSpec.upto civilWeekSpec)

/-- 'lumkeep.KeepMore', WHERE WHAT IT READS IS OF BULK AT MOST 1048576: true; the input reads as it did. -/
def keepMoreUptoRow : OpenClaim := { program := "ythfjonicolhjnaa", sum := "dfdf86c8e5b76706b47fd2474e2718ce426f0dc3ec2a063a12156583cb4bea45", func := "lumberroom/lumkeep.KeepMore", spec := "keepMore", unfollowed := true, recurses := true, plainKeys := false, apart := false, narrowed := true }
def KeepMoreUptoSaid : Prop := keepMoreUptoRow.holds Try.pinned (OpenSpec.upto keepMoreSpec)

/-- 'lumkeep.KeepAgain', WHERE WHAT IT READS IS OF BULK AT MOST 1048576: true; the input reads as it did. -/
def keepAgainUptoRow : OpenClaim := { program := "ythfjonicolhjnaa", sum := "dfdf86c8e5b76706b47fd2474e2718ce426f0dc3ec2a063a12156583cb4bea45", func := "lumberroom/lumkeep.KeepAgain", spec := "keepAgain", unfollowed := true, recurses := true, plainKeys := false, apart := false, narrowed := true }
def KeepAgainUptoSaid : Prop := keepAgainUptoRow.holds Try.pinned (OpenSpec.upto keepAgainSpec)

/-- 'lumkeep.KeepFew', WHERE WHAT IT READS IS OF BULK AT MOST 1048576: true; the input reads as it did. -/
def keepFewUptoRow : OpenClaim := { program := "ythfjonicolhjnaa", sum := "dfdf86c8e5b76706b47fd2474e2718ce426f0dc3ec2a063a12156583cb4bea45", func := "lumberroom/lumkeep.KeepFew", spec := "keepFew", unfollowed := true, recurses := true, plainKeys := false, apart := false, narrowed := true }
def KeepFewUptoSaid : Prop := keepFewUptoRow.holds Try.pinned (OpenSpec.upto keepFewSpec)

/-- 'lumkeep.KeepYears', WHERE WHAT IT READS IS OF BULK AT MOST 1048576: true; the input reads as it did. -/
def keepYearsUptoRow : OpenClaim := { program := "ythfjonicolhjnaa", sum := "dfdf86c8e5b76706b47fd2474e2718ce426f0dc3ec2a063a12156583cb4bea45", func := "lumberroom/lumkeep.KeepYears", spec := "keepYears", unfollowed := true, recurses := true, plainKeys := false, apart := false, narrowed := true }
def KeepYearsUptoSaid : Prop := keepYearsUptoRow.holds Try.pinned (OpenSpec.upto keepYearsSpec)

end Rows
end Go.Proofs.Ythfjonicolhjnaa
