/- Rows written whole, and results that lie in them. -/
import Derived.Test.YtpfmfigommmjiaaDoorRowKit
import Derived.Test.YtpfmfigommmjiaaDoorAmpleBase
import Derived.Test.YtpfmfigommmjiaaDoorArrays
namespace Go.Proofs.YtpfmfigommmjiaaDoor
open Go.RowKit
set_option linter.unusedVariables false
theorem results_cell_row3 {P : Program} {fn : Func} {p u v : Tmp} {ty : TypeId} (h : fn.results = #[.cell p ty, .tmp u, .tmp v]) (tmps : Array Value) (w : World) (g : Nat) (t : TypeId) (cs : Array Value) (fr : Nat × Nat) (d : TypeDesc)
    (hp : tmps.getD p undef = .pointer (some ⟨g, 0, none⟩)) (hg : w.heap[g]? = some (.cells cs t fr))
    (hu : P.underlying ty = some d) (hd : (match d with | .struct _ | .array _ _ => true | _ => false) = true) (hi : (P.info? ty).map (·.size) = some cs.size) :
    (results fn tmps).run P w = .ok (.tuple #[.agg cs, tmps.getD u undef, tmps.getD v undef]) w := by
  have hp' : tmps[p]?.getD undef = .pointer (some ⟨g, 0, none⟩) := by simpa using hp
  simp [results, h, hp', asAddr, run_loadVar_row w g t ty cs fr d hg hu hd hi]
theorem row_full {w : World} {b : Nat} {t : TypeId} {cs : Array Value} {ns : Array Value} (h : w.heap[b]? = some (.cells cs t (0, 0))) (hn : cs.size = ns.size) : (w.setCells b 0 ns.toList).heap[b]? = some (.cells ns t (0, 0)) := by
  have := row_mid [] cs.toList [] ns.toList (w := w) (g := b) (t := t) (by simpa using h) (by simpa using hn)
  simpa using this
end Go.Proofs.YtpfmfigommmjiaaDoor
