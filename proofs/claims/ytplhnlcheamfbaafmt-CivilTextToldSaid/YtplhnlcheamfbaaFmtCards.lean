/-
  DERIVED. GIVEN WITH THE SEED: THE CARDS: each row of YtplhnlcheamfbaaFmtRows.lean that lists a variable, with what it lists TIED to the program's text (the seventh form; the later family's looks); each row that meets fmt, with fmt's text TOLD by the authors' own Lean function (tested against real Go, not proved from fmt's source: count such statements apart). THE CARD IS WHAT COUNTS. Prove the row's statement (the work); the ties are given (YtplhnlcheamfbaaFmtTie.lean); close each card by the builder's one call (the guide's Derived/Test/ToyasCard.lean, 'card_holds'). Laid BY PROGRAM, IN A SANDBOX (cutbox-door.mjs). By AI agents, Wed Nov 11 2026. No macro, syntax, notation, axiom, sorry.
-/
import Derived.Test.YtplhnlcheamfbaaFmtRows
import GoSem.ClaimSeven
namespace Go.Proofs.YtplhnlcheamfbaaFmt
namespace Rows

/-- THE TOLD CARD OF 'lumkeep.CivilText'. -/
def civilTextCard : Claim7 := { stood := { row := civilTextRow, standIns := [], harness := (true, "be442cd1b6aa04f1c12c0b004e149ffa668c11e5a5fdf787c0432e3bbf5aaa4f"), looks := false }, told := true, goes := false }
def CivilTextToldSaid : Prop := Claim7.holds Tryf.pinned (.plain (OpenSpec.ofChange civilTextSpec)) civilTextCard
/-- ITS FALSE NEIGHBOUR. Refute it at one input. -/
def CivilTextToldWrongFalsely : Prop := Claim7.holds Tryf.pinned (.plain (OpenSpec.ofChange civilTextWrong)) civilTextCard
end Rows
end Go.Proofs.YtplhnlcheamfbaaFmt
