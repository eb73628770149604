/-
  NARROWER THAN 'FOR EVERY INPUT', by the rows' own cells (each row's printed sentence says how): WalkRoot: laid · WalkMore: laid · WalkBack: laid · WalkPath: laid · WalkOnce: laid · DeltaOwn: laid · FetchEnough: laid · FetchOwn: laid · FetchFront: laid.
  DERIVED. THE GIVEN ROWS OF THIS SEAT. 9 by the template 'for every input the law returns true; each argument reads behind the call as it read before'; 0 by the template 'total and deterministic' (their statements: YtbfoonfbhebhfaaGreatDoorTotals.lean).
  GIVEN WITH THE SEED: the statements are not yours to turn. If you find one false, say at which input.
  Laid BY PROGRAM, IN A SANDBOX (cutbox-rows.mjs): the forced cells as the released guide's own fill.sh prints them over the translation 7bf59582fdd99215… (all of the seat's roots in one cut). By AI agents, Wed Nov 11 2026. No macro, syntax, notation, axiom, sorry.
-/
import Derived.Test.YtbfoonfbhebhfaaGreatDoorChecked
import GoSem.PinnedTables
import GoSem.Claim
import GoSem.ClaimJoined
import GoSem.ClaimMapViews
import Derived.JoinedTies
import Derived.KernelRfl
namespace Go.Proofs.YtbfoonfbhebhfaaGreatDoor
/- THE CELL 'sum', in the pinned program and in every row, IS THE sha256 OF THE DUMP (.gsa) THAT YtbfoonfbhebhfaaGreatDoorProg.lean LOADS. Nothing in Lean hashes anything: it is a label: what it is worth is what the hold of that sum in a sandbox is worth. -/
noncomputable def Tryz.pinned : Pinned := { name := "ytbfoonfbhebhfaagreatdoor", sum := "7bf59582fdd99215396f6a4a036f1a91d21d2c2c858b1991c3045477369e1bd8", checked := Tryz.checked }
namespace Rows
def none {H : Type} : Left H := { results := [], args := [] }

/- WHAT THE LISTED PACKAGE-LEVEL VARIABLES READ AS WHEN THE CALL BEGINS. Each datum BY PROGRAM (the guide's laid-datum.mjs) off the statement by which the dump's own 'gosem.cut.vars' lays the variable. In a bare row this is a premise. The card (YtbfoonfbhebhfaaGreatDoorCards.lean) ties it to the program's text. -/
def laid_unicode_utf8_acceptRanges {H : Type} : DataW H := .agg [.agg [.lit (.int .u8 128), .lit (.int .u8 191)], .agg [.lit (.int .u8 160), .lit (.int .u8 191)], .agg [.lit (.int .u8 128), .lit (.int .u8 159)], .agg [.lit (.int .u8 144), .lit (.int .u8 191)], .agg [.lit (.int .u8 128), .lit (.int .u8 143)], .agg [.lit (.int .u8 0), .lit (.int .u8 0)], .agg [.lit (.int .u8 0), .lit (.int .u8 0)], .agg [.lit (.int .u8 0), .lit (.int .u8 0)], .agg [.lit (.int .u8 0), .lit (.int .u8 0)], .agg [.lit (.int .u8 0), .lit (.int .u8 0)], .agg [.lit (.int .u8 0), .lit (.int .u8 0)], .agg [.lit (.int .u8 0), .lit (.int .u8 0)], .agg [.lit (.int .u8 0), .lit (.int .u8 0)], .agg [.lit (.int .u8 0), .lit (.int .u8 0)], .agg [.lit (.int .u8 0), .lit (.int .u8 0)], .agg [.lit (.int .u8 0), .lit (.int .u8 0)]]
/-- One of Go's own tables, pinned by name: the form's constant. -/
def laid_unicode_utf8_first : DataW Unit := Go.Pinned.utf8First

/-- 'lumkeep.WalkRoot': WHATEVER THE INPUT: true; the input reads as it did. -/
def walkRootSpec : ChangeSpec := { name := "walkRoot", fn := fun _ => fun
  | [d1, d2, d3] => { results := [.lit (.bool true)], args := [d1, d2, d3] }
  | _ => none }
def walkRootRow : OpenClaim := { program := "ytbfoonfbhebhfaagreatdoor", sum := "7bf59582fdd99215396f6a4a036f1a91d21d2c2c858b1991c3045477369e1bd8", func := "lumberroom/lumkeep.WalkRoot", spec := "walkRoot", inPlace := ["internal/bytealg.CountString", "internal/bytealg.IndexByteString", "internal/bytealg.IndexString", "internal/abi.NoEscape", "internal/bytealg.MakeNoZero"], unfollowed := true, recurses := true, named := ["unicode/utf8.first", "unicode/utf8.acceptRanges", "internal/bytealg.MaxLen", "encoding/binary.BigEndian", "encoding/binary.LittleEndian"], plainKeys := false, apart := false, laid := [("unicode/utf8.acceptRanges", laid_unicode_utf8_acceptRanges), ("unicode/utf8.first", laid_unicode_utf8_first)] }
def WalkRootSaid : Prop := walkRootRow.holds Tryz.pinned (OpenSpec.ofChange walkRootSpec)

/-- ITS FALSE NEIGHBOUR: 'it returns false'. Refute it at one input. -/
def walkRootWrong : ChangeSpec := { name := "walkRoot", fn := fun _ => fun
  | [d1, d2, d3] => { results := [.lit (.bool false)], args := [d1, d2, d3] }
  | _ => none }
def WalkRootWrongFalsely : Prop := walkRootRow.holds Tryz.pinned (OpenSpec.ofChange walkRootWrong)

/-- 'lumkeep.WalkMore': WHATEVER THE INPUT: true; the input reads as it did. -/
def walkMoreSpec : ChangeSpec := { name := "walkMore", fn := fun _ => fun
  | [d1, d2, d3] => { results := [.lit (.bool true)], args := [d1, d2, d3] }
  | _ => none }
def walkMoreRow : OpenClaim := { program := "ytbfoonfbhebhfaagreatdoor", sum := "7bf59582fdd99215396f6a4a036f1a91d21d2c2c858b1991c3045477369e1bd8", func := "lumberroom/lumkeep.WalkMore", spec := "walkMore", inPlace := ["internal/bytealg.CountString", "internal/bytealg.IndexByteString", "internal/bytealg.IndexString", "internal/abi.NoEscape", "internal/bytealg.MakeNoZero"], unfollowed := true, recurses := true, named := ["unicode/utf8.first", "unicode/utf8.acceptRanges", "internal/bytealg.MaxLen", "encoding/binary.BigEndian", "encoding/binary.LittleEndian"], plainKeys := false, apart := false, laid := [("unicode/utf8.acceptRanges", laid_unicode_utf8_acceptRanges), ("unicode/utf8.first", laid_unicode_utf8_first)] }
def WalkMoreSaid : Prop := walkMoreRow.holds Tryz.pinned (OpenSpec.ofChange walkMoreSpec)

/-- ITS FALSE NEIGHBOUR: 'it returns false'. Refute it at one input. -/
def walkMoreWrong : ChangeSpec := { name := "walkMore", fn := fun _ => fun
  | [d1, d2, d3] => { results := [.lit (.bool false)], args := [d1, d2, d3] }
  | _ => none }
def WalkMoreWrongFalsely : Prop := walkMoreRow.holds Tryz.pinned (OpenSpec.ofChange walkMoreWrong)

/-- 'lumkeep.WalkBack': WHATEVER THE INPUT: true; the input reads as it did. -/
def walkBackSpec : ChangeSpec := { name := "walkBack", fn := fun _ => fun
  | [d1, d2, d3] => { results := [.lit (.bool true)], args := [d1, d2, d3] }
  | _ => none }
def walkBackRow : OpenClaim := { program := "ytbfoonfbhebhfaagreatdoor", sum := "7bf59582fdd99215396f6a4a036f1a91d21d2c2c858b1991c3045477369e1bd8", func := "lumberroom/lumkeep.WalkBack", spec := "walkBack", inPlace := ["internal/bytealg.CountString", "internal/bytealg.IndexByteString", "internal/bytealg.IndexString", "internal/abi.NoEscape", "internal/bytealg.MakeNoZero"], unfollowed := true, recurses := true, named := ["unicode/utf8.first", "unicode/utf8.acceptRanges", "internal/bytealg.MaxLen", "encoding/binary.BigEndian", "encoding/binary.LittleEndian"], plainKeys := false, apart := false, laid := [("unicode/utf8.acceptRanges", laid_unicode_utf8_acceptRanges), ("unicode/utf8.first", laid_unicode_utf8_first)] }
def WalkBackSaid : Prop := walkBackRow.holds Tryz.pinned (OpenSpec.ofChange walkBackSpec)

/-- ITS FALSE NEIGHBOUR: 'it returns false'. Refute it at one input. -/
def walkBackWrong : ChangeSpec := { name := "walkBack", fn := fun _ => fun
  | [d1, d2, d3] => { results := [.lit (.bool false)], args := [d1, d2, d3] }
  | _ => none }
def WalkBackWrongFalsely : Prop := walkBackRow.holds Tryz.pinned (OpenSpec.ofChange walkBackWrong)

/-- 'lumkeep.WalkPath': WHATEVER THE INPUT: true; the input reads as it did. -/
def walkPathSpec : ChangeSpec := { name := "walkPath", fn := fun _ => fun
  | [d1, d2, d3, d4] => { results := [.lit (.bool true)], args := [d1, d2, d3, d4] }
  | _ => none }
def walkPathRow : OpenClaim := { program := "ytbfoonfbhebhfaagreatdoor", sum := "7bf59582fdd99215396f6a4a036f1a91d21d2c2c858b1991c3045477369e1bd8", func := "lumberroom/lumkeep.WalkPath", spec := "walkPath", inPlace := ["internal/bytealg.CountString", "internal/bytealg.IndexByteString", "internal/bytealg.IndexString", "internal/abi.NoEscape", "internal/bytealg.MakeNoZero"], unfollowed := true, recurses := true, named := ["unicode/utf8.first", "unicode/utf8.acceptRanges", "internal/bytealg.MaxLen", "encoding/binary.BigEndian", "encoding/binary.LittleEndian"], plainKeys := false, apart := false, laid := [("unicode/utf8.acceptRanges", laid_unicode_utf8_acceptRanges), ("unicode/utf8.first", laid_unicode_utf8_first)] }
def WalkPathSaid : Prop := walkPathRow.holds Tryz.pinned (OpenSpec.ofChange walkPathSpec)

/-- ITS FALSE NEIGHBOUR: 'it returns false'. Refute it at one input. -/
def walkPathWrong : ChangeSpec := { name := "walkPath", fn := fun _ => fun
  | [d1, d2, d3, d4] => { results := [.lit (.bool false)], args := [d1, d2, d3, d4] }
  | _ => none }
def WalkPathWrongFalsely : Prop := walkPathRow.holds Tryz.pinned (OpenSpec.ofChange walkPathWrong)

/-- 'lumkeep.WalkOnce': WHATEVER THE INPUT: true; the input reads as it did. -/
def walkOnceSpec : ChangeSpec := { name := "walkOnce", fn := fun _ => fun
  | [d1, d2] => { results := [.lit (.bool true)], args := [d1, d2] }
  | _ => none }
def walkOnceRow : OpenClaim := { program := "ytbfoonfbhebhfaagreatdoor", sum := "7bf59582fdd99215396f6a4a036f1a91d21d2c2c858b1991c3045477369e1bd8", func := "lumberroom/lumkeep.WalkOnce", spec := "walkOnce", inPlace := ["internal/bytealg.CountString", "internal/bytealg.IndexByteString", "internal/bytealg.IndexString", "internal/abi.NoEscape", "internal/bytealg.MakeNoZero"], unfollowed := true, recurses := true, named := ["unicode/utf8.first", "unicode/utf8.acceptRanges", "internal/bytealg.MaxLen", "encoding/binary.BigEndian", "encoding/binary.LittleEndian"], plainKeys := false, apart := false, laid := [("unicode/utf8.acceptRanges", laid_unicode_utf8_acceptRanges), ("unicode/utf8.first", laid_unicode_utf8_first)] }
def WalkOnceSaid : Prop := walkOnceRow.holds Tryz.pinned (OpenSpec.ofChange walkOnceSpec)

/-- ITS FALSE NEIGHBOUR: 'it returns false'. Refute it at one input. -/
def walkOnceWrong : ChangeSpec := { name := "walkOnce", fn := fun _ => fun
  | [d1, d2] => { results := [.lit (.bool false)], args := [d1, d2] }
  | _ => none }
def WalkOnceWrongFalsely : Prop := walkOnceRow.holds Tryz.pinned (OpenSpec.ofChange walkOnceWrong)

/-- 'lumkeep.DeltaOwn': WHATEVER THE INPUT: true; the input reads as it did. -/
def deltaOwnSpec : ChangeSpec := { name := "deltaOwn", fn := fun _ => fun
  | [d1, d2, d3] => { results := [.lit (.bool true)], args := [d1, d2, d3] }
  | _ => none }
def deltaOwnRow : OpenClaim := { program := "ytbfoonfbhebhfaagreatdoor", sum := "7bf59582fdd99215396f6a4a036f1a91d21d2c2c858b1991c3045477369e1bd8", func := "lumberroom/lumkeep.DeltaOwn", spec := "deltaOwn", inPlace := ["internal/bytealg.CountString", "internal/bytealg.IndexByteString", "internal/bytealg.IndexString", "internal/abi.NoEscape", "internal/bytealg.MakeNoZero"], unfollowed := true, recurses := true, named := ["unicode/utf8.first", "unicode/utf8.acceptRanges", "internal/bytealg.MaxLen", "encoding/binary.BigEndian", "encoding/binary.LittleEndian"], plainKeys := false, apart := false, laid := [("unicode/utf8.acceptRanges", laid_unicode_utf8_acceptRanges), ("unicode/utf8.first", laid_unicode_utf8_first)] }
def DeltaOwnSaid : Prop := deltaOwnRow.holds Tryz.pinned (OpenSpec.ofChange deltaOwnSpec)

/-- ITS FALSE NEIGHBOUR: 'it returns false'. Refute it at one input. -/
def deltaOwnWrong : ChangeSpec := { name := "deltaOwn", fn := fun _ => fun
  | [d1, d2, d3] => { results := [.lit (.bool false)], args := [d1, d2, d3] }
  | _ => none }
def DeltaOwnWrongFalsely : Prop := deltaOwnRow.holds Tryz.pinned (OpenSpec.ofChange deltaOwnWrong)

/-- 'lumkeep.FetchEnough': WHATEVER THE INPUT: true; the input reads as it did. -/
def fetchEnoughSpec : ChangeSpec := { name := "fetchEnough", fn := fun _ => fun
  | [d1, d2, d3] => { results := [.lit (.bool true)], args := [d1, d2, d3] }
  | _ => none }
def fetchEnoughRow : OpenClaim := { program := "ytbfoonfbhebhfaagreatdoor", sum := "7bf59582fdd99215396f6a4a036f1a91d21d2c2c858b1991c3045477369e1bd8", func := "lumberroom/lumkeep.FetchEnough", spec := "fetchEnough", inPlace := ["internal/bytealg.CountString", "internal/bytealg.IndexByteString", "internal/bytealg.IndexString", "internal/abi.NoEscape", "internal/bytealg.MakeNoZero"], unfollowed := true, recurses := true, named := ["unicode/utf8.first", "unicode/utf8.acceptRanges", "internal/bytealg.MaxLen", "encoding/binary.BigEndian", "encoding/binary.LittleEndian"], plainKeys := false, apart := false, laid := [("unicode/utf8.acceptRanges", laid_unicode_utf8_acceptRanges), ("unicode/utf8.first", laid_unicode_utf8_first)] }
def FetchEnoughSaid : Prop := fetchEnoughRow.holds Tryz.pinned (OpenSpec.ofChange fetchEnoughSpec)

/-- ITS FALSE NEIGHBOUR: 'it returns false'. Refute it at one input. -/
def fetchEnoughWrong : ChangeSpec := { name := "fetchEnough", fn := fun _ => fun
  | [d1, d2, d3] => { results := [.lit (.bool false)], args := [d1, d2, d3] }
  | _ => none }
def FetchEnoughWrongFalsely : Prop := fetchEnoughRow.holds Tryz.pinned (OpenSpec.ofChange fetchEnoughWrong)

/-- 'lumkeep.FetchOwn': WHATEVER THE INPUT: true; the input reads as it did. -/
def fetchOwnSpec : ChangeSpec := { name := "fetchOwn", fn := fun _ => fun
  | [d1, d2, d3] => { results := [.lit (.bool true)], args := [d1, d2, d3] }
  | _ => none }
def fetchOwnRow : OpenClaim := { program := "ytbfoonfbhebhfaagreatdoor", sum := "7bf59582fdd99215396f6a4a036f1a91d21d2c2c858b1991c3045477369e1bd8", func := "lumberroom/lumkeep.FetchOwn", spec := "fetchOwn", inPlace := ["internal/bytealg.CountString", "internal/bytealg.IndexByteString", "internal/bytealg.IndexString", "internal/abi.NoEscape", "internal/bytealg.MakeNoZero"], unfollowed := true, recurses := true, named := ["unicode/utf8.first", "unicode/utf8.acceptRanges", "internal/bytealg.MaxLen", "encoding/binary.BigEndian", "encoding/binary.LittleEndian"], plainKeys := false, apart := false, laid := [("unicode/utf8.acceptRanges", laid_unicode_utf8_acceptRanges), ("unicode/utf8.first", laid_unicode_utf8_first)] }
def FetchOwnSaid : Prop := fetchOwnRow.holds Tryz.pinned (OpenSpec.ofChange fetchOwnSpec)

/-- ITS FALSE NEIGHBOUR: 'it returns false'. Refute it at one input. -/
def fetchOwnWrong : ChangeSpec := { name := "fetchOwn", fn := fun _ => fun
  | [d1, d2, d3] => { results := [.lit (.bool false)], args := [d1, d2, d3] }
  | _ => none }
def FetchOwnWrongFalsely : Prop := fetchOwnRow.holds Tryz.pinned (OpenSpec.ofChange fetchOwnWrong)

/-- 'lumkeep.FetchFront': WHATEVER THE INPUT: true; the input reads as it did. -/
def fetchFrontSpec : ChangeSpec := { name := "fetchFront", fn := fun _ => fun
  | [d1, d2, d3, d4] => { results := [.lit (.bool true)], args := [d1, d2, d3, d4] }
  | _ => none }
def fetchFrontRow : OpenClaim := { program := "ytbfoonfbhebhfaagreatdoor", sum := "7bf59582fdd99215396f6a4a036f1a91d21d2c2c858b1991c3045477369e1bd8", func := "lumberroom/lumkeep.FetchFront", spec := "fetchFront", inPlace := ["internal/bytealg.CountString", "internal/bytealg.IndexByteString", "internal/bytealg.IndexString", "internal/abi.NoEscape", "internal/bytealg.MakeNoZero"], unfollowed := true, recurses := true, named := ["unicode/utf8.first", "unicode/utf8.acceptRanges", "internal/bytealg.MaxLen", "encoding/binary.BigEndian", "encoding/binary.LittleEndian"], plainKeys := false, apart := false, laid := [("unicode/utf8.acceptRanges", laid_unicode_utf8_acceptRanges), ("unicode/utf8.first", laid_unicode_utf8_first)] }
def FetchFrontSaid : Prop := fetchFrontRow.holds Tryz.pinned (OpenSpec.ofChange fetchFrontSpec)

/-- ITS FALSE NEIGHBOUR: 'it returns false'. Refute it at one input. -/
def fetchFrontWrong : ChangeSpec := { name := "fetchFront", fn := fun _ => fun
  | [d1, d2, d3, d4] => { results := [.lit (.bool false)], args := [d1, d2, d3, d4] }
  | _ => none }
def FetchFrontWrongFalsely : Prop := fetchFrontRow.holds Tryz.pinned (OpenSpec.ofChange fetchFrontWrong)

/- THE SECOND FORM. 'bulk': how many values and letters a reading holds, each counted each time it is reached (what is shared counts as often as it is met; a slice's spare places count too). A statement '..UptoSaid' is the law's where the arguments, and the package variables that the reading takes, are together of bulk at most 1048576: NARROWER than '..Said'. Prove '..Said' where nothing that the law and all that it calls make is longer than what came in: it says more and counts as full. Else prove '..UptoSaid'. A law counts once. -/
mutual
def uptoBulk {H : Type} : DataW H → Nat
  | .lit (.string bytes) => bytes.length + 1
  | .lit _ => 1
  | .nil => 1
  | .ptr d => uptoBulk d + 1
  | .slice elems spare => uptoBulkAll elems + uptoBulkAll spare + 1
  | .agg parts => uptoBulkAll parts + 1
  | .iface _ d => uptoBulk d + 1
  | .map entries => uptoBulkEntries entries + 1
  | .held _ => 1
def uptoBulkAll {H : Type} : List (DataW H) → Nat
  | [] => 0
  | d :: r => uptoBulk d + uptoBulkAll r
def uptoBulkEntries {H : Type} : List (Lit × DataW H) → Nat
  | [] => 0
  | x :: r => uptoBulkEntry x + uptoBulkEntries r
def uptoBulkEntry {H : Type} : Lit × DataW H → Nat
  | (.string bytes, d) => bytes.length + uptoBulk d + 1
  | (_, d) => uptoBulk d + 1
 end
def uptoSmall : (H : Type) → List (DataW H) → Bool := fun _ ds => decide (uptoBulkAll ds ≤ 1048576)
def OpenSpec.upto (s : _root_.Go.ChangeSpec) : _root_.Go.OpenSpec := { _root_.Go.OpenSpec.ofChange s with cond := some uptoSmall }

/-- 'lumkeep.WalkRoot', WHERE WHAT IT READS IS OF BULK AT MOST 1048576: true; the input reads as it did. -/
def walkRootUptoRow : OpenClaim := { program := "ytbfoonfbhebhfaagreatdoor", sum := "7bf59582fdd99215396f6a4a036f1a91d21d2c2c858b1991c3045477369e1bd8", func := "lumberroom/lumkeep.WalkRoot", spec := "walkRoot", inPlace := ["internal/bytealg.CountString", "internal/bytealg.IndexByteString", "internal/bytealg.IndexString", "internal/abi.NoEscape", "internal/bytealg.MakeNoZero"], unfollowed := true, recurses := true, named := ["unicode/utf8.first", "unicode/utf8.acceptRanges", "internal/bytealg.MaxLen", "encoding/binary.BigEndian", "encoding/binary.LittleEndian"], plainKeys := false, apart := false, laid := [("unicode/utf8.acceptRanges", laid_unicode_utf8_acceptRanges), ("unicode/utf8.first", laid_unicode_utf8_first)], narrowed := true }
def WalkRootUptoSaid : Prop := walkRootUptoRow.holds Tryz.pinned (OpenSpec.upto walkRootSpec)

/-- 'lumkeep.WalkMore', WHERE WHAT IT READS IS OF BULK AT MOST 1048576: true; the input reads as it did. -/
def walkMoreUptoRow : OpenClaim := { program := "ytbfoonfbhebhfaagreatdoor", sum := "7bf59582fdd99215396f6a4a036f1a91d21d2c2c858b1991c3045477369e1bd8", func := "lumberroom/lumkeep.WalkMore", spec := "walkMore", inPlace := ["internal/bytealg.CountString", "internal/bytealg.IndexByteString", "internal/bytealg.IndexString", "internal/abi.NoEscape", "internal/bytealg.MakeNoZero"], unfollowed := true, recurses := true, named := ["unicode/utf8.first", "unicode/utf8.acceptRanges", "internal/bytealg.MaxLen", "encoding/binary.BigEndian", "encoding/binary.LittleEndian"], plainKeys := false, apart := false, laid := [("unicode/utf8.acceptRanges", laid_unicode_utf8_acceptRanges), ("unicode/utf8.first", laid_unicode_utf8_first)], narrowed := true }
def WalkMoreUptoSaid : Prop := walkMoreUptoRow.holds Tryz.pinned (OpenSpec.upto walkMoreSpec)

/-- 'lumkeep.WalkBack', WHERE WHAT IT READS IS OF BULK AT MOST 1048576: true; the input reads as it did. -/
def walkBackUptoRow : OpenClaim := { program := "ytbfoonfbhebhfaagreatdoor", sum := "7bf59582fdd99215396f6a4a036f1a91d21d2c2c858b1991c3045477369e1bd8", func := "lumberroom/lumkeep.WalkBack", spec := "walkBack", inPlace := ["internal/bytealg.CountString", "internal/bytealg.IndexByteString", "internal/bytealg.IndexString", "internal/abi.NoEscape", "internal/bytealg.MakeNoZero"], unfollowed := true, recurses := true, named := ["unicode/utf8.first", "unicode/utf8.acceptRanges", "internal/bytealg.MaxLen", "encoding/binary.BigEndian", "encoding/binary.LittleEndian"], plainKeys := false, apart := false, laid := [("unicode/utf8.acceptRanges", laid_unicode_utf8_acceptRanges), ("unicode/utf8.first", laid_unicode_utf8_first)], narrowed := true }
def WalkBackUptoSaid : Prop := walkBackUptoRow.holds Tryz.pinned (OpenSpec.upto walkBackSpec)

/-- 'lumkeep.WalkPath', WHERE WHAT IT READS IS OF BULK AT MOST 1048576: true; the input reads as it did. -/
def walkPathUptoRow : OpenClaim := { program := "ytbfoonfbhebhfaagreatdoor", sum := "7bf59582fdd99215396f6a4a036f1a91d21d2c2c858b1991c3045477369e1bd8", func := "lumberroom/lumkeep.WalkPath", spec := "walkPath", inPlace := ["internal/bytealg.CountString", "internal/bytealg.IndexByteString", "internal/bytealg.IndexString", "internal/abi.NoEscape", "internal/bytealg.MakeNoZero"], unfollowed := true, recurses := true, named := ["unicode/utf8.first", "unicode/utf8.acceptRanges", "internal/bytealg.MaxLen", "encoding/binary.BigEndian", "encoding/binary.LittleEndian"], plainKeys := false, apart := false, laid := [("unicode/utf8.acceptRanges", laid_unicode_utf8_acceptRanges), ("unicode/utf8.first", laid_unicode_utf8_first)], narrowed := true }
def WalkPathUptoSaid : Prop := walkPathUptoRow.holds Tryz.pinned (OpenSpec.upto walkPathSpec)

/-- 'lumkeep.WalkOnce', WHERE WHAT IT READS IS OF BULK AT MOST 1048576: true; the input reads as it did. -/
def walkOnceUptoRow : OpenClaim := { program := "ytbfoonfbhebhfaagreatdoor", sum := "7bf59582fdd99215396f6a4a036f1a91d21d2c2c858b1991c3045477369e1bd8", func := "lumberroom/lumkeep.WalkOnce", spec := "walkOnce", inPlace := ["internal/bytealg.CountString", "internal/bytealg.IndexByteString", "internal/bytealg.IndexString", "internal/abi.NoEscape", "internal/bytealg.MakeNoZero"], unfollowed := true, recurses := true, named := ["unicode/utf8.first", "unicode/utf8.acceptRanges", "internal/bytealg.MaxLen", "encoding/binary.BigEndian", "encoding/binary.LittleEndian"], plainKeys := false, apart := false, laid := [("unicode/utf8.acceptRanges", laid_unicode_utf8_acceptRanges), ("unicode/utf8.first", laid_unicode_utf8_first)], narrowed := true }
def WalkOnceUptoSaid : Prop := walkOnceUptoRow.holds Tryz.pinned (OpenSpec.upto walkOnceSpec)

/-- 'lumkeep.DeltaOwn', WHERE WHAT IT READS IS OF BULK AT MOST 1048576: true; the input reads as it did. -/
def deltaOwnUptoRow : OpenClaim := { program := "ytbfoonfbhebhfaagreatdoor", sum := "7bf59582fdd99215396f6a4a036f1a91d21d2c2c858b1991c3045477369e1bd8", func := "lumberroom/lumkeep.DeltaOwn", spec := "deltaOwn", inPlace := ["internal/bytealg.CountString", "internal/bytealg.IndexByteString", "internal/bytealg.IndexString", "internal/abi.NoEscape", "internal/bytealg.MakeNoZero"], unfollowed := true, recurses := true, named := ["unicode/utf8.first", "unicode/utf8.acceptRanges", "internal/bytealg.MaxLen", "encoding/binary.BigEndian", "encoding/binary.LittleEndian"], plainKeys := false, apart := false, laid := [("unicode/utf8.acceptRanges", laid_unicode_utf8_acceptRanges), ("unicode/utf8.first", laid_unicode_utf8_first)], narrowed := true }
def DeltaOwnUptoSaid : Prop := deltaOwnUptoRow.holds Tryz.pinned (OpenSpec.upto deltaOwnSpec)

/-- 'lumkeep.FetchEnough', WHERE WHAT IT READS IS OF BULK AT MOST 1048576: true; the input reads as it did. -/
def fetchEnoughUptoRow : OpenClaim := { program := "ytbfoonfbhebhfaagreatdoor", sum := "7bf59582fdd99215396f6a4a036f1a91d21d2c2c858b1991c3045477369e1bd8", func := "lumberroom/lumkeep.FetchEnough", spec := "fetchEnough", inPlace := ["internal/bytealg.CountString", "internal/bytealg.IndexByteString", "internal/bytealg.IndexString", "internal/abi.NoEscape", "internal/bytealg.MakeNoZero"], unfollowed := true, recurses := true, named := ["unicode/utf8.first", "unicode/utf8.acceptRanges", "internal/bytealg.MaxLen", "encoding/binary.BigEndian", "encoding/binary.LittleEndian"], plainKeys := false, apart := false, laid := [("unicode/utf8.acceptRanges", laid_unicode_utf8_acceptRanges), ("unicode/utf8.first", laid_unicode_utf8_first)], narrowed := true }
def FetchEnoughUptoSaid : Prop := fetchEnoughUptoRow.holds Tryz.pinned (OpenSpec.upto fetchEnoughSpec)

/-- 'lumkeep.FetchOwn', WHERE WHAT IT READS IS OF BULK AT MOST 1048576: true; the input reads as it did. -/
def fetchOwnUptoRow : OpenClaim := { program := "ytbfoonfbhebhfaagreatdoor", sum := "7bf59582fdd99215396f6a4a036f1a91d21d2c2c858b1991c3045477369e1bd8", func := "lumberroom/lumkeep.FetchOwn", spec := "fetchOwn", inPlace := ["internal/bytealg.CountString", "internal/bytealg.IndexByteString", "internal/bytealg.IndexString", "internal/abi.NoEscape", "internal/bytealg.MakeNoZero"], unfollowed := true, recurses := true, named := ["unicode/utf8.first", "unicode/utf8.acceptRanges", "internal/bytealg.MaxLen", "encoding/binary.BigEndian", "encoding/binary.LittleEndian"], plainKeys := false, apart := false, laid := [("unicode/utf8.acceptRanges", laid_unicode_utf8_acceptRanges), ("unicode/utf8.first", laid_unicode_utf8_first)], narrowed := true }
def FetchOwnUptoSaid : Prop := fetchOwnUptoRow.holds Tryz.pinned (OpenSpec.upto fetchOwnSpec)

/-- 'lumkeep.FetchFront', WHERE WHAT IT READS IS OF BULK AT MOST 1048576: true; the input reads as it did. -/
def fetchFrontUptoRow : OpenClaim := { program := "ytbfoonfbhebhfaagreatdoor", sum := "7bf59582fdd99215396f6a4a036f1a91d21d2c2c858b1991c3045477369e1bd8", func := "lumberroom/lumkeep.FetchFront", spec := "fetchFront", inPlace := ["internal/bytealg.CountString", "internal/bytealg.IndexByteString", "internal/bytealg.IndexString", "internal/abi.NoEscape", "internal/bytealg.MakeNoZero"], unfollowed := true, recurses := true, named := ["unicode/utf8.first", "unicode/utf8.acceptRanges", "internal/bytealg.MaxLen", "encoding/binary.BigEndian", "encoding/binary.LittleEndian"], plainKeys := false, apart := false, laid := [("unicode/utf8.acceptRanges", laid_unicode_utf8_acceptRanges), ("unicode/utf8.first", laid_unicode_utf8_first)], narrowed := true }
def FetchFrontUptoSaid : Prop := fetchFrontUptoRow.holds Tryz.pinned (OpenSpec.upto fetchFrontSpec)

end Rows
end Go.Proofs.YtbfoonfbhebhfaaGreatDoor
