/-
  No cell of these rows narrows 'for every input' (looked for: loops, veiled, ifaces, maps, wideKeys, modest, calm, conditions, laid).
  DERIVED. THE GIVEN ROWS OF THIS SEAT. 1 by the template 'for every input the law returns true; each argument reads behind the call as it read before'; 0 by the template 'total and deterministic' (their statements: YtplhnlcheamfbaaFmtTotals.lean).
  GIVEN WITH THE SEED: the statements are not yours to turn. If you find one false, say at which input.
  Laid BY PROGRAM, IN A SANDBOX (cutbox-rows.mjs): the forced cells as the released guide's own fill.sh prints them over the translation 8f2a7f8c8496ab69… (all of the seat's roots in one cut). By AI agents, Wed Nov 11 2026. No macro, syntax, notation, axiom, sorry.
-/
import Derived.Test.YtplhnlcheamfbaaFmtChecked
import GoSem.Claim
import GoSem.ClaimJoined
import GoSem.ClaimMapViews
import Derived.JoinedTies
import Derived.KernelRfl
namespace Go.Proofs.YtplhnlcheamfbaaFmt
/- THE CELL 'sum', in the pinned program and in every row, IS THE sha256 OF THE DUMP (.gsa) THAT YtplhnlcheamfbaaFmtProg.lean LOADS. Nothing in Lean hashes anything: it is a label: what it is worth is what the hold of that sum in a sandbox is worth. -/
noncomputable def Tryf.pinned : Pinned := { name := "ytplhnlcheamfbaafmt", sum := "8f2a7f8c8496ab69796f2b1ea8d6ff81fdca2de79df294702fca8c578ccb35b0", checked := Tryf.checked }
namespace Rows
def none {H : Type} : Left H := { results := [], args := [] }

/-- 'lumkeep.CivilText': WHATEVER THE INPUT: true; the input reads as it did. -/
def civilTextSpec : ChangeSpec := { name := "civilText", fn := fun _ => fun
  | [d1, d2, d3] => { results := [.lit (.bool true)], args := [d1, d2, d3] }
  | _ => none }
def civilTextRow : OpenClaim := { program := "ytplhnlcheamfbaafmt", sum := "8f2a7f8c8496ab69796f2b1ea8d6ff81fdca2de79df294702fca8c578ccb35b0", func := "lumberroom/lumkeep.CivilText", spec := "civilText", stops := ["fmt.Sprintf"], inPlace := ["fmt.Sprintf"], apart := false }
/-- NO THEOREM (fmt's text is open here; it may be false): for the released tool's asking of the row's closed facts alone. THE STATEMENT IS 'CivilTextToldSaid' (YtplhnlcheamfbaaFmtCards.lean). -/
def CivilTextFormAsk : Prop := civilTextRow.holds Tryf.pinned (OpenSpec.ofChange civilTextSpec)

/-- ITS FALSE NEIGHBOUR: 'it returns false'. Refute it at one input. -/
def civilTextWrong : ChangeSpec := { name := "civilText", fn := fun _ => fun
  | [d1, d2, d3] => { results := [.lit (.bool false)], args := [d1, d2, d3] }
  | _ => none }
def CivilTextWrongFormAsk : Prop := civilTextRow.holds Tryf.pinned (OpenSpec.ofChange civilTextWrong)

end Rows
end Go.Proofs.YtplhnlcheamfbaaFmt
