/-
  NARROWER THAN 'FOR EVERY INPUT', by the rows' own cells (each row's printed sentence says how): LeaseAlone: laid · LeaseFence: laid · NamesOrder: laid · NamesClean: laid · NamesBack: laid · GlobPlain: laid · DeltaMetric: laid · GlobBeneath: laid · GlobLast: laid · DeltaBack: laid · DeltaJoins: laid · GlobSplits: laid.
  DERIVED. THE GIVEN ROWS OF THIS SEAT. 12 by the template 'for every input the law returns true; each argument reads behind the call as it read before'; 0 by the template 'total and deterministic' (their statements: YtokckcmkbnhhhaaDoorTotals.lean).
  GIVEN WITH THE SEED: the statements are not yours to turn. If you find one false, say at which input.
  Laid BY PROGRAM, IN A SANDBOX (cutbox-rows.mjs): the forced cells as the released guide's own fill.sh prints them over the translation c24e84580659fe5d… (all of the seat's roots in one cut). By AI agents, Wed Nov 11 2026. No macro, syntax, notation, axiom, sorry.
-/
import Derived.Test.YtokckcmkbnhhhaaDoorChecked
import GoSem.PinnedTables
import GoSem.Claim
import GoSem.ClaimJoined
import GoSem.ClaimMapViews
import Derived.JoinedTies
import Derived.KernelRfl
namespace Go.Proofs.YtokckcmkbnhhhaaDoor
/- THE CELL 'sum', in the pinned program and in every row, IS THE sha256 OF THE DUMP (.gsa) THAT YtokckcmkbnhhhaaDoorProg.lean LOADS. Nothing in Lean hashes anything: it is a label: what it is worth is what the hold of that sum in a sandbox is worth. -/
noncomputable def Tryd.pinned : Pinned := { name := "ytokckcmkbnhhhaadoor", sum := "c24e84580659fe5dc1a2bf96e036a880d85aaa0287013ad491ab45579729aab4", checked := Tryd.checked }
namespace Rows
def none {H : Type} : Left H := { results := [], args := [] }

/- WHAT THE LISTED PACKAGE-LEVEL VARIABLES READ AS WHEN THE CALL BEGINS. Each datum BY PROGRAM (the guide's laid-datum.mjs) off the statement by which the dump's own 'gosem.cut.vars' lays the variable. In a bare row this is a premise. The card (YtokckcmkbnhhhaaDoorCards.lean) ties it to the program's text. -/
def laid_unicode_utf8_acceptRanges {H : Type} : DataW H := .agg [.agg [.lit (.int .u8 128), .lit (.int .u8 191)], .agg [.lit (.int .u8 160), .lit (.int .u8 191)], .agg [.lit (.int .u8 128), .lit (.int .u8 159)], .agg [.lit (.int .u8 144), .lit (.int .u8 191)], .agg [.lit (.int .u8 128), .lit (.int .u8 143)], .agg [.lit (.int .u8 0), .lit (.int .u8 0)], .agg [.lit (.int .u8 0), .lit (.int .u8 0)], .agg [.lit (.int .u8 0), .lit (.int .u8 0)], .agg [.lit (.int .u8 0), .lit (.int .u8 0)], .agg [.lit (.int .u8 0), .lit (.int .u8 0)], .agg [.lit (.int .u8 0), .lit (.int .u8 0)], .agg [.lit (.int .u8 0), .lit (.int .u8 0)], .agg [.lit (.int .u8 0), .lit (.int .u8 0)], .agg [.lit (.int .u8 0), .lit (.int .u8 0)], .agg [.lit (.int .u8 0), .lit (.int .u8 0)], .agg [.lit (.int .u8 0), .lit (.int .u8 0)]]
/-- One of Go's own tables, pinned by name: the form's constant. -/
def laid_unicode_utf8_first : DataW Unit := Go.Pinned.utf8First

/-- 'lumkeep.LeaseAlone': WHATEVER THE INPUT: true; the input reads as it did. -/
def leaseAloneSpec : ChangeSpec := { name := "leaseAlone", fn := fun _ => fun
  | [d] => { results := [.lit (.bool true)], args := [d] }
  | _ => none }
def leaseAloneRow : OpenClaim := { program := "ytokckcmkbnhhhaadoor", sum := "c24e84580659fe5dc1a2bf96e036a880d85aaa0287013ad491ab45579729aab4", func := "lumberroom/lumkeep.LeaseAlone", spec := "leaseAlone", named := ["unicode/utf8.first", "unicode/utf8.acceptRanges"], apart := false, laid := [("unicode/utf8.acceptRanges", laid_unicode_utf8_acceptRanges), ("unicode/utf8.first", laid_unicode_utf8_first)] }
def LeaseAloneSaid : Prop := leaseAloneRow.holds Tryd.pinned (OpenSpec.ofChange leaseAloneSpec)

/-- ITS FALSE NEIGHBOUR: 'it returns false'. Refute it at one input. -/
def leaseAloneWrong : ChangeSpec := { name := "leaseAlone", fn := fun _ => fun
  | [d] => { results := [.lit (.bool false)], args := [d] }
  | _ => none }
def LeaseAloneWrongFalsely : Prop := leaseAloneRow.holds Tryd.pinned (OpenSpec.ofChange leaseAloneWrong)

/-- 'lumkeep.LeaseFence': WHATEVER THE INPUT: true; the input reads as it did. -/
def leaseFenceSpec : ChangeSpec := { name := "leaseFence", fn := fun _ => fun
  | [d] => { results := [.lit (.bool true)], args := [d] }
  | _ => none }
def leaseFenceRow : OpenClaim := { program := "ytokckcmkbnhhhaadoor", sum := "c24e84580659fe5dc1a2bf96e036a880d85aaa0287013ad491ab45579729aab4", func := "lumberroom/lumkeep.LeaseFence", spec := "leaseFence", named := ["unicode/utf8.first", "unicode/utf8.acceptRanges"], apart := false, laid := [("unicode/utf8.acceptRanges", laid_unicode_utf8_acceptRanges), ("unicode/utf8.first", laid_unicode_utf8_first)] }
def LeaseFenceSaid : Prop := leaseFenceRow.holds Tryd.pinned (OpenSpec.ofChange leaseFenceSpec)

/-- ITS FALSE NEIGHBOUR: 'it returns false'. Refute it at one input. -/
def leaseFenceWrong : ChangeSpec := { name := "leaseFence", fn := fun _ => fun
  | [d] => { results := [.lit (.bool false)], args := [d] }
  | _ => none }
def LeaseFenceWrongFalsely : Prop := leaseFenceRow.holds Tryd.pinned (OpenSpec.ofChange leaseFenceWrong)

/-- 'lumkeep.NamesOrder': WHATEVER THE INPUT: true; the input reads as it did. -/
def namesOrderSpec : ChangeSpec := { name := "namesOrder", fn := fun _ => fun
  | [d1, d2, d3] => { results := [.lit (.bool true)], args := [d1, d2, d3] }
  | _ => none }
def namesOrderRow : OpenClaim := { program := "ytokckcmkbnhhhaadoor", sum := "c24e84580659fe5dc1a2bf96e036a880d85aaa0287013ad491ab45579729aab4", func := "lumberroom/lumkeep.NamesOrder", spec := "namesOrder", inPlace := ["internal/bytealg.CountString", "internal/bytealg.IndexByteString", "internal/bytealg.IndexString"], named := ["unicode/utf8.first", "unicode/utf8.acceptRanges", "internal/bytealg.MaxLen"], apart := false, laid := [("unicode/utf8.acceptRanges", laid_unicode_utf8_acceptRanges), ("unicode/utf8.first", laid_unicode_utf8_first)] }
def NamesOrderSaid : Prop := namesOrderRow.holds Tryd.pinned (OpenSpec.ofChange namesOrderSpec)

/-- ITS FALSE NEIGHBOUR: 'it returns false'. Refute it at one input. -/
def namesOrderWrong : ChangeSpec := { name := "namesOrder", fn := fun _ => fun
  | [d1, d2, d3] => { results := [.lit (.bool false)], args := [d1, d2, d3] }
  | _ => none }
def NamesOrderWrongFalsely : Prop := namesOrderRow.holds Tryd.pinned (OpenSpec.ofChange namesOrderWrong)

/-- 'lumkeep.NamesClean': WHATEVER THE INPUT: true; the input reads as it did. -/
def namesCleanSpec : ChangeSpec := { name := "namesClean", fn := fun _ => fun
  | [d1, d2] => { results := [.lit (.bool true)], args := [d1, d2] }
  | _ => none }
def namesCleanRow : OpenClaim := { program := "ytokckcmkbnhhhaadoor", sum := "c24e84580659fe5dc1a2bf96e036a880d85aaa0287013ad491ab45579729aab4", func := "lumberroom/lumkeep.NamesClean", spec := "namesClean", inPlace := ["internal/bytealg.CountString", "internal/bytealg.IndexByteString", "internal/bytealg.IndexString", "internal/abi.NoEscape", "internal/bytealg.MakeNoZero"], named := ["unicode/utf8.first", "unicode/utf8.acceptRanges", "internal/bytealg.MaxLen"], apart := false, laid := [("unicode/utf8.acceptRanges", laid_unicode_utf8_acceptRanges), ("unicode/utf8.first", laid_unicode_utf8_first)] }
def NamesCleanSaid : Prop := namesCleanRow.holds Tryd.pinned (OpenSpec.ofChange namesCleanSpec)

/-- ITS FALSE NEIGHBOUR: 'it returns false'. Refute it at one input. -/
def namesCleanWrong : ChangeSpec := { name := "namesClean", fn := fun _ => fun
  | [d1, d2] => { results := [.lit (.bool false)], args := [d1, d2] }
  | _ => none }
def NamesCleanWrongFalsely : Prop := namesCleanRow.holds Tryd.pinned (OpenSpec.ofChange namesCleanWrong)

/-- 'lumkeep.NamesBack': WHATEVER THE INPUT: true; the input reads as it did. -/
def namesBackSpec : ChangeSpec := { name := "namesBack", fn := fun _ => fun
  | [d1, d2] => { results := [.lit (.bool true)], args := [d1, d2] }
  | _ => none }
def namesBackRow : OpenClaim := { program := "ytokckcmkbnhhhaadoor", sum := "c24e84580659fe5dc1a2bf96e036a880d85aaa0287013ad491ab45579729aab4", func := "lumberroom/lumkeep.NamesBack", spec := "namesBack", inPlace := ["internal/bytealg.CountString", "internal/bytealg.IndexByteString", "internal/bytealg.IndexString", "internal/abi.NoEscape", "internal/bytealg.MakeNoZero"], named := ["unicode/utf8.first", "unicode/utf8.acceptRanges", "internal/bytealg.MaxLen"], apart := false, laid := [("unicode/utf8.acceptRanges", laid_unicode_utf8_acceptRanges), ("unicode/utf8.first", laid_unicode_utf8_first)] }
def NamesBackSaid : Prop := namesBackRow.holds Tryd.pinned (OpenSpec.ofChange namesBackSpec)

/-- ITS FALSE NEIGHBOUR: 'it returns false'. Refute it at one input. -/
def namesBackWrong : ChangeSpec := { name := "namesBack", fn := fun _ => fun
  | [d1, d2] => { results := [.lit (.bool false)], args := [d1, d2] }
  | _ => none }
def NamesBackWrongFalsely : Prop := namesBackRow.holds Tryd.pinned (OpenSpec.ofChange namesBackWrong)

/-- 'lumkeep.GlobPlain': WHATEVER THE INPUT: true; the input reads as it did. -/
def globPlainSpec : ChangeSpec := { name := "globPlain", fn := fun _ => fun
  | [d1, d2] => { results := [.lit (.bool true)], args := [d1, d2] }
  | _ => none }
def globPlainRow : OpenClaim := { program := "ytokckcmkbnhhhaadoor", sum := "c24e84580659fe5dc1a2bf96e036a880d85aaa0287013ad491ab45579729aab4", func := "lumberroom/lumkeep.GlobPlain", spec := "globPlain", inPlace := ["internal/bytealg.CountString", "internal/bytealg.IndexByteString", "internal/bytealg.IndexString"], unfollowed := true, recurses := true, named := ["unicode/utf8.first", "unicode/utf8.acceptRanges", "internal/bytealg.MaxLen"], apart := false, laid := [("unicode/utf8.acceptRanges", laid_unicode_utf8_acceptRanges), ("unicode/utf8.first", laid_unicode_utf8_first)] }
def GlobPlainSaid : Prop := globPlainRow.holds Tryd.pinned (OpenSpec.ofChange globPlainSpec)

/-- ITS FALSE NEIGHBOUR: 'it returns false'. Refute it at one input. -/
def globPlainWrong : ChangeSpec := { name := "globPlain", fn := fun _ => fun
  | [d1, d2] => { results := [.lit (.bool false)], args := [d1, d2] }
  | _ => none }
def GlobPlainWrongFalsely : Prop := globPlainRow.holds Tryd.pinned (OpenSpec.ofChange globPlainWrong)

/-- 'lumkeep.DeltaMetric': WHATEVER THE INPUT: true; the input reads as it did. -/
def deltaMetricSpec : ChangeSpec := { name := "deltaMetric", fn := fun _ => fun
  | [d1, d2, d3] => { results := [.lit (.bool true)], args := [d1, d2, d3] }
  | _ => none }
def deltaMetricRow : OpenClaim := { program := "ytokckcmkbnhhhaadoor", sum := "c24e84580659fe5dc1a2bf96e036a880d85aaa0287013ad491ab45579729aab4", func := "lumberroom/lumkeep.DeltaMetric", spec := "deltaMetric", inPlace := ["internal/bytealg.CountString", "internal/bytealg.IndexByteString", "internal/bytealg.IndexString"], unfollowed := true, recurses := true, named := ["unicode/utf8.first", "unicode/utf8.acceptRanges", "internal/bytealg.MaxLen"], apart := false, laid := [("unicode/utf8.acceptRanges", laid_unicode_utf8_acceptRanges), ("unicode/utf8.first", laid_unicode_utf8_first)] }
def DeltaMetricSaid : Prop := deltaMetricRow.holds Tryd.pinned (OpenSpec.ofChange deltaMetricSpec)

/-- ITS FALSE NEIGHBOUR: 'it returns false'. Refute it at one input. -/
def deltaMetricWrong : ChangeSpec := { name := "deltaMetric", fn := fun _ => fun
  | [d1, d2, d3] => { results := [.lit (.bool false)], args := [d1, d2, d3] }
  | _ => none }
def DeltaMetricWrongFalsely : Prop := deltaMetricRow.holds Tryd.pinned (OpenSpec.ofChange deltaMetricWrong)

/-- 'lumkeep.GlobBeneath': WHATEVER THE INPUT: true; the input reads as it did. -/
def globBeneathSpec : ChangeSpec := { name := "globBeneath", fn := fun _ => fun
  | [d1, d2, d3] => { results := [.lit (.bool true)], args := [d1, d2, d3] }
  | _ => none }
def globBeneathRow : OpenClaim := { program := "ytokckcmkbnhhhaadoor", sum := "c24e84580659fe5dc1a2bf96e036a880d85aaa0287013ad491ab45579729aab4", func := "lumberroom/lumkeep.GlobBeneath", spec := "globBeneath", inPlace := ["internal/bytealg.CountString", "internal/bytealg.IndexByteString", "internal/bytealg.IndexString"], unfollowed := true, recurses := true, named := ["unicode/utf8.first", "unicode/utf8.acceptRanges", "internal/bytealg.MaxLen"], apart := false, laid := [("unicode/utf8.acceptRanges", laid_unicode_utf8_acceptRanges), ("unicode/utf8.first", laid_unicode_utf8_first)] }
def GlobBeneathSaid : Prop := globBeneathRow.holds Tryd.pinned (OpenSpec.ofChange globBeneathSpec)

/-- ITS FALSE NEIGHBOUR: 'it returns false'. Refute it at one input. -/
def globBeneathWrong : ChangeSpec := { name := "globBeneath", fn := fun _ => fun
  | [d1, d2, d3] => { results := [.lit (.bool false)], args := [d1, d2, d3] }
  | _ => none }
def GlobBeneathWrongFalsely : Prop := globBeneathRow.holds Tryd.pinned (OpenSpec.ofChange globBeneathWrong)

/-- 'lumkeep.GlobLast': WHATEVER THE INPUT: true; the input reads as it did. -/
def globLastSpec : ChangeSpec := { name := "globLast", fn := fun _ => fun
  | [d1, d2] => { results := [.lit (.bool true)], args := [d1, d2] }
  | _ => none }
def globLastRow : OpenClaim := { program := "ytokckcmkbnhhhaadoor", sum := "c24e84580659fe5dc1a2bf96e036a880d85aaa0287013ad491ab45579729aab4", func := "lumberroom/lumkeep.GlobLast", spec := "globLast", inPlace := ["internal/bytealg.CountString", "internal/bytealg.IndexByteString", "internal/bytealg.IndexString"], unfollowed := true, recurses := true, named := ["unicode/utf8.first", "unicode/utf8.acceptRanges", "internal/bytealg.MaxLen"], apart := false, laid := [("unicode/utf8.acceptRanges", laid_unicode_utf8_acceptRanges), ("unicode/utf8.first", laid_unicode_utf8_first)] }
def GlobLastSaid : Prop := globLastRow.holds Tryd.pinned (OpenSpec.ofChange globLastSpec)

/-- ITS FALSE NEIGHBOUR: 'it returns false'. Refute it at one input. -/
def globLastWrong : ChangeSpec := { name := "globLast", fn := fun _ => fun
  | [d1, d2] => { results := [.lit (.bool false)], args := [d1, d2] }
  | _ => none }
def GlobLastWrongFalsely : Prop := globLastRow.holds Tryd.pinned (OpenSpec.ofChange globLastWrong)

/-- 'lumkeep.DeltaBack': WHATEVER THE INPUT: true; the input reads as it did. -/
def deltaBackSpec : ChangeSpec := { name := "deltaBack", fn := fun _ => fun
  | [d1, d2] => { results := [.lit (.bool true)], args := [d1, d2] }
  | _ => none }
def deltaBackRow : OpenClaim := { program := "ytokckcmkbnhhhaadoor", sum := "c24e84580659fe5dc1a2bf96e036a880d85aaa0287013ad491ab45579729aab4", func := "lumberroom/lumkeep.DeltaBack", spec := "deltaBack", inPlace := ["internal/bytealg.CountString", "internal/bytealg.IndexByteString", "internal/bytealg.IndexString"], unfollowed := true, recurses := true, named := ["unicode/utf8.first", "unicode/utf8.acceptRanges", "internal/bytealg.MaxLen"], apart := false, laid := [("unicode/utf8.acceptRanges", laid_unicode_utf8_acceptRanges), ("unicode/utf8.first", laid_unicode_utf8_first)] }
def DeltaBackSaid : Prop := deltaBackRow.holds Tryd.pinned (OpenSpec.ofChange deltaBackSpec)

/-- ITS FALSE NEIGHBOUR: 'it returns false'. Refute it at one input. -/
def deltaBackWrong : ChangeSpec := { name := "deltaBack", fn := fun _ => fun
  | [d1, d2] => { results := [.lit (.bool false)], args := [d1, d2] }
  | _ => none }
def DeltaBackWrongFalsely : Prop := deltaBackRow.holds Tryd.pinned (OpenSpec.ofChange deltaBackWrong)

/-- 'lumkeep.DeltaJoins': WHATEVER THE INPUT: true; the input reads as it did. -/
def deltaJoinsSpec : ChangeSpec := { name := "deltaJoins", fn := fun _ => fun
  | [d1, d2, d3, d4] => { results := [.lit (.bool true)], args := [d1, d2, d3, d4] }
  | _ => none }
def deltaJoinsRow : OpenClaim := { program := "ytokckcmkbnhhhaadoor", sum := "c24e84580659fe5dc1a2bf96e036a880d85aaa0287013ad491ab45579729aab4", func := "lumberroom/lumkeep.DeltaJoins", spec := "deltaJoins", inPlace := ["internal/bytealg.CountString", "internal/bytealg.IndexByteString", "internal/bytealg.IndexString"], unfollowed := true, recurses := true, named := ["unicode/utf8.first", "unicode/utf8.acceptRanges", "internal/bytealg.MaxLen"], apart := false, laid := [("unicode/utf8.acceptRanges", laid_unicode_utf8_acceptRanges), ("unicode/utf8.first", laid_unicode_utf8_first)] }
def DeltaJoinsSaid : Prop := deltaJoinsRow.holds Tryd.pinned (OpenSpec.ofChange deltaJoinsSpec)

/-- ITS FALSE NEIGHBOUR: 'it returns false'. Refute it at one input. -/
def deltaJoinsWrong : ChangeSpec := { name := "deltaJoins", fn := fun _ => fun
  | [d1, d2, d3, d4] => { results := [.lit (.bool false)], args := [d1, d2, d3, d4] }
  | _ => none }
def DeltaJoinsWrongFalsely : Prop := deltaJoinsRow.holds Tryd.pinned (OpenSpec.ofChange deltaJoinsWrong)

/-- 'lumkeep.GlobSplits': WHATEVER THE INPUT: true; the input reads as it did. -/
def globSplitsSpec : ChangeSpec := { name := "globSplits", fn := fun _ => fun
  | [d1, d2, d3] => { results := [.lit (.bool true)], args := [d1, d2, d3] }
  | _ => none }
def globSplitsRow : OpenClaim := { program := "ytokckcmkbnhhhaadoor", sum := "c24e84580659fe5dc1a2bf96e036a880d85aaa0287013ad491ab45579729aab4", func := "lumberroom/lumkeep.GlobSplits", spec := "globSplits", inPlace := ["internal/bytealg.CountString", "internal/bytealg.IndexByteString", "internal/bytealg.IndexString", "internal/abi.NoEscape", "internal/bytealg.MakeNoZero"], unfollowed := true, recurses := true, named := ["unicode/utf8.first", "unicode/utf8.acceptRanges", "internal/bytealg.MaxLen"], apart := false, laid := [("unicode/utf8.acceptRanges", laid_unicode_utf8_acceptRanges), ("unicode/utf8.first", laid_unicode_utf8_first)] }
def GlobSplitsSaid : Prop := globSplitsRow.holds Tryd.pinned (OpenSpec.ofChange globSplitsSpec)

/-- ITS FALSE NEIGHBOUR: 'it returns false'. Refute it at one input. -/
def globSplitsWrong : ChangeSpec := { name := "globSplits", fn := fun _ => fun
  | [d1, d2, d3] => { results := [.lit (.bool false)], args := [d1, d2, d3] }
  | _ => none }
def GlobSplitsWrongFalsely : Prop := globSplitsRow.holds Tryd.pinned (OpenSpec.ofChange globSplitsWrong)

/- THE SECOND FORM. 'bulk': how many values and letters a reading holds, each counted each time it is reached (what is shared counts as often as it is met; a slice's spare places count too). A statement '..UptoSaid' is the law's where the arguments, and the package variables that the reading takes, are together of bulk at most 1048576: NARROWER than '..Said'. Prove '..Said' where nothing that the law and all that it calls make is longer than what came in: it says more and counts as full. Else prove '..UptoSaid'. A law counts once. -/
mutual
def uptoBulk {H : Type} : DataW H → Nat
  | .lit (.string bytes) => bytes.length + 1
  | .lit _ => 1
  | .nil => 1
  | .ptr d => uptoBulk d + 1
  | .slice elems spare => uptoBulkAll elems + uptoBulkAll spare + 1
  | .agg parts => uptoBulkAll parts + 1
  | .iface _ d => uptoBulk d + 1
  | .map entries => uptoBulkEntries entries + 1
  | .held _ => 1
def uptoBulkAll {H : Type} : List (DataW H) → Nat
  | [] => 0
  | d :: r => uptoBulk d + uptoBulkAll r
def uptoBulkEntries {H : Type} : List (Lit × DataW H) → Nat
  | [] => 0
  | x :: r => uptoBulkEntry x + uptoBulkEntries r
def uptoBulkEntry {H : Type} : Lit × DataW H → Nat
  | (.string bytes, d) => bytes.length + uptoBulk d + 1
  | (_, d) => uptoBulk d + 1
 end
def uptoSmall : (H : Type) → List (DataW H) → Bool := fun _ ds => decide (uptoBulkAll ds ≤ 1048576)
def OpenSpec.upto (s : _root_.Go.ChangeSpec) : _root_.Go.OpenSpec := { _root_.Go.OpenSpec.ofChange s with cond := some uptoSmall }

/-- 'lumkeep.LeaseAlone', WHERE WHAT IT READS IS OF BULK AT MOST 1048576: true; the input reads as it did. -/
def leaseAloneUptoRow : OpenClaim := { program := "ytokckcmkbnhhhaadoor", sum := "c24e84580659fe5dc1a2bf96e036a880d85aaa0287013ad491ab45579729aab4", func := "lumberroom/lumkeep.LeaseAlone", spec := "leaseAlone", named := ["unicode/utf8.first", "unicode/utf8.acceptRanges"], apart := false, laid := [("unicode/utf8.acceptRanges", laid_unicode_utf8_acceptRanges), ("unicode/utf8.first", laid_unicode_utf8_first)], narrowed := true }
def LeaseAloneUptoSaid : Prop := leaseAloneUptoRow.holds Tryd.pinned (OpenSpec.upto leaseAloneSpec)

/-- 'lumkeep.LeaseFence', WHERE WHAT IT READS IS OF BULK AT MOST 1048576: true; the input reads as it did. -/
def leaseFenceUptoRow : OpenClaim := { program := "ytokckcmkbnhhhaadoor", sum := "c24e84580659fe5dc1a2bf96e036a880d85aaa0287013ad491ab45579729aab4", func := "lumberroom/lumkeep.LeaseFence", spec := "leaseFence", named := ["unicode/utf8.first", "unicode/utf8.acceptRanges"], apart := false, laid := [("unicode/utf8.acceptRanges", laid_unicode_utf8_acceptRanges), ("unicode/utf8.first", laid_unicode_utf8_first)], narrowed := true }
def LeaseFenceUptoSaid : Prop := leaseFenceUptoRow.holds Tryd.pinned (OpenSpec.upto leaseFenceSpec)

/-- 'lumkeep.NamesOrder', WHERE WHAT IT READS IS OF BULK AT MOST 1048576: true; the input reads as it did. -/
def namesOrderUptoRow : OpenClaim := { program := "ytokckcmkbnhhhaadoor", sum := "c24e84580659fe5dc1a2bf96e036a880d85aaa0287013ad491ab45579729aab4", func := "lumberroom/lumkeep.NamesOrder", spec := "namesOrder", inPlace := ["internal/bytealg.CountString", "internal/bytealg.IndexByteString", "internal/bytealg.IndexString"], named := ["unicode/utf8.first", "unicode/utf8.acceptRanges", "internal/bytealg.MaxLen"], apart := false, laid := [("unicode/utf8.acceptRanges", laid_unicode_utf8_acceptRanges), ("unicode/utf8.first", laid_unicode_utf8_first)], narrowed := true }
def NamesOrderUptoSaid : Prop := namesOrderUptoRow.holds Tryd.pinned (OpenSpec.upto namesOrderSpec)

/-- 'lumkeep.NamesClean', WHERE WHAT IT READS IS OF BULK AT MOST 1048576: true; the input reads as it did. -/
def namesCleanUptoRow : OpenClaim := { program := "ytokckcmkbnhhhaadoor", sum := "c24e84580659fe5dc1a2bf96e036a880d85aaa0287013ad491ab45579729aab4", func := "lumberroom/lumkeep.NamesClean", spec := "namesClean", inPlace := ["internal/bytealg.CountString", "internal/bytealg.IndexByteString", "internal/bytealg.IndexString", "internal/abi.NoEscape", "internal/bytealg.MakeNoZero"], named := ["unicode/utf8.first", "unicode/utf8.acceptRanges", "internal/bytealg.MaxLen"], apart := false, laid := [("unicode/utf8.acceptRanges", laid_unicode_utf8_acceptRanges), ("unicode/utf8.first", laid_unicode_utf8_first)], narrowed := true }
def NamesCleanUptoSaid : Prop := namesCleanUptoRow.holds Tryd.pinned (OpenSpec.upto namesCleanSpec)

/-- 'lumkeep.NamesBack', WHERE WHAT IT READS IS OF BULK AT MOST 1048576: true; the input reads as it did. -/
def namesBackUptoRow : OpenClaim := { program := "ytokckcmkbnhhhaadoor", sum := "c24e84580659fe5dc1a2bf96e036a880d85aaa0287013ad491ab45579729aab4", func := "lumberroom/lumkeep.NamesBack", spec := "namesBack", inPlace := ["internal/bytealg.CountString", "internal/bytealg.IndexByteString", "internal/bytealg.IndexString", "internal/abi.NoEscape", "internal/bytealg.MakeNoZero"], named := ["unicode/utf8.first", "unicode/utf8.acceptRanges", "internal/bytealg.MaxLen"], apart := false, laid := [("unicode/utf8.acceptRanges", laid_unicode_utf8_acceptRanges), ("unicode/utf8.first", laid_unicode_utf8_first)], narrowed := true }
def NamesBackUptoSaid : Prop := namesBackUptoRow.holds Tryd.pinned (OpenSpec.upto namesBackSpec)

/-- 'lumkeep.GlobPlain', WHERE WHAT IT READS IS OF BULK AT MOST 1048576: true; the input reads as it did. -/
def globPlainUptoRow : OpenClaim := { program := "ytokckcmkbnhhhaadoor", sum := "c24e84580659fe5dc1a2bf96e036a880d85aaa0287013ad491ab45579729aab4", func := "lumberroom/lumkeep.GlobPlain", spec := "globPlain", inPlace := ["internal/bytealg.CountString", "internal/bytealg.IndexByteString", "internal/bytealg.IndexString"], unfollowed := true, recurses := true, named := ["unicode/utf8.first", "unicode/utf8.acceptRanges", "internal/bytealg.MaxLen"], apart := false, laid := [("unicode/utf8.acceptRanges", laid_unicode_utf8_acceptRanges), ("unicode/utf8.first", laid_unicode_utf8_first)], narrowed := true }
def GlobPlainUptoSaid : Prop := globPlainUptoRow.holds Tryd.pinned (OpenSpec.upto globPlainSpec)

/-- 'lumkeep.DeltaMetric', WHERE WHAT IT READS IS OF BULK AT MOST 1048576: true; the input reads as it did. -/
def deltaMetricUptoRow : OpenClaim := { program := "ytokckcmkbnhhhaadoor", sum := "c24e84580659fe5dc1a2bf96e036a880d85aaa0287013ad491ab45579729aab4", func := "lumberroom/lumkeep.DeltaMetric", spec := "deltaMetric", inPlace := ["internal/bytealg.CountString", "internal/bytealg.IndexByteString", "internal/bytealg.IndexString"], unfollowed := true, recurses := true, named := ["unicode/utf8.first", "unicode/utf8.acceptRanges", "internal/bytealg.MaxLen"], apart := false, laid := [("unicode/utf8.acceptRanges", laid_unicode_utf8_acceptRanges), ("unicode/utf8.first", laid_unicode_utf8_first)], narrowed := true }
def DeltaMetricUptoSaid : Prop := deltaMetricUptoRow.holds Tryd.pinned (OpenSpec.upto deltaMetricSpec)

/-- 'lumkeep.GlobBeneath', WHERE WHAT IT READS IS OF BULK AT MOST 1048576: true; the input reads as it did. -/
def globBeneathUptoRow : OpenClaim := { program := "ytokckcmkbnhhhaadoor", sum := "c24e84580659fe5dc1a2bf96e036a880d85aaa0287013ad491ab45579729aab4", func := "lumberroom/lumkeep.GlobBeneath", spec := "globBeneath", inPlace := ["internal/bytealg.CountString", "internal/bytealg.IndexByteString", "internal/bytealg.IndexString"], unfollowed := true, recurses := true, named := ["unicode/utf8.first", "unicode/utf8.acceptRanges", "internal/bytealg.MaxLen"], apart := false, laid := [("unicode/utf8.acceptRanges", laid_unicode_utf8_acceptRanges), ("unicode/utf8.first", laid_unicode_utf8_first)], narrowed := true }
def GlobBeneathUptoSaid : Prop := globBeneathUptoRow.holds Tryd.pinned (OpenSpec.upto globBeneathSpec)

/-- 'lumkeep.GlobLast', WHERE WHAT IT READS IS OF BULK AT MOST 1048576: true; the input reads as it did. -/
def globLastUptoRow : OpenClaim := { program := "ytokckcmkbnhhhaadoor", sum := "c24e84580659fe5dc1a2bf96e036a880d85aaa0287013ad491ab45579729aab4", func := "lumberroom/lumkeep.GlobLast", spec := "globLast", inPlace := ["internal/bytealg.CountString", "internal/bytealg.IndexByteString", "internal/bytealg.IndexString"], unfollowed := true, recurses := true, named := ["unicode/utf8.first", "unicode/utf8.acceptRanges", "internal/bytealg.MaxLen"], apart := false, laid := [("unicode/utf8.acceptRanges", laid_unicode_utf8_acceptRanges), ("unicode/utf8.first", laid_unicode_utf8_first)], narrowed := true }
def GlobLastUptoSaid : Prop := globLastUptoRow.holds Tryd.pinned (OpenSpec.upto globLastSpec)

/-- 'lumkeep.DeltaBack', WHERE WHAT IT READS IS OF BULK AT MOST 1048576: true; the input reads as it did. -/
def deltaBackUptoRow : OpenClaim := { program := "ytokckcmkbnhhhaadoor", sum := "c24e84580659fe5dc1a2bf96e036a880d85aaa0287013ad491ab45579729aab4", func := "lumberroom/lumkeep.DeltaBack", spec := "deltaBack", inPlace := ["internal/bytealg.CountString", "internal/bytealg.IndexByteString", "internal/bytealg.IndexString"], unfollowed := true, recurses := true, named := ["unicode/utf8.first", "unicode/utf8.acceptRanges", "internal/bytealg.MaxLen"], apart := false, laid := [("unicode/utf8.acceptRanges", laid_unicode_utf8_acceptRanges), ("unicode/utf8.first", laid_unicode_utf8_first)], narrowed := true }
def DeltaBackUptoSaid : Prop := deltaBackUptoRow.holds Tryd.pinned (OpenSpec.upto deltaBackSpec)

/-- 'lumkeep.DeltaJoins', WHERE WHAT IT READS IS OF BULK AT MOST 1048576: true; the input reads as it did. -/
def deltaJoinsUptoRow : OpenClaim := { program := "ytokckcmkbnhhhaadoor", sum := "c24e84580659fe5dc1a2bf96e036a880d85aaa0287013ad491ab45579729aab4", func := "lumberroom/lumkeep.DeltaJoins", spec := "deltaJoins", inPlace := ["internal/bytealg.CountString", "internal/bytealg.IndexByteString", "internal/bytealg.IndexString"], unfollowed := true, recurses := true, named := ["unicode/utf8.first", "unicode/utf8.acceptRanges", "internal/bytealg.MaxLen"], apart := false, laid := [("unicode/utf8.acceptRanges", laid_unicode_utf8_acceptRanges), ("unicode/utf8.first", laid_unicode_utf8_first)], narrowed := true }
def DeltaJoinsUptoSaid : Prop := deltaJoinsUptoRow.holds Tryd.pinned (OpenSpec.upto deltaJoinsSpec)

/-- 'lumkeep.GlobSplits', WHERE WHAT IT READS IS OF BULK AT MOST 1048576: true; the input reads as it did. -/
def globSplitsUptoRow : OpenClaim := { program := "ytokckcmkbnhhhaadoor", sum := "c24e84580659fe5dc1a2bf96e036a880d85aaa0287013ad491ab45579729aab4", func := "lumberroom/lumkeep.GlobSplits", spec := "globSplits", inPlace := ["internal/bytealg.CountString", "internal/bytealg.IndexByteString", "internal/bytealg.IndexString", "internal/abi.NoEscape", "internal/bytealg.MakeNoZero"], unfollowed := true, recurses := true, named := ["unicode/utf8.first", "unicode/utf8.acceptRanges", "internal/bytealg.MaxLen"], apart := false, laid := [("unicode/utf8.acceptRanges", laid_unicode_utf8_acceptRanges), ("unicode/utf8.first", laid_unicode_utf8_first)], narrowed := true }
def GlobSplitsUptoSaid : Prop := globSplitsUptoRow.holds Tryd.pinned (OpenSpec.upto globSplitsSpec)

end Rows
end Go.Proofs.YtokckcmkbnhhhaaDoor
