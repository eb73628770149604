/- The walk of graph.Reach. -/
import Derived.Test.YthfjonicolhjnaaClosure
namespace Go.Proofs.Ythfjonicolhjnaa
open Go.RowKit Plain
/-- what Reach leaves -/
def RchEnd (w0 : World) (ks : List (List Int)) (rs : List Int) (e : Ending) (w : World) : Prop := Below w0.heap.size w0 w ∧
  ((¬ (Gok ks ∧ Rok ks rs) ∧ ∃ c : Nat, c ≠ 0 ∧ c ≤ 2 ∧ e = .returned (.tuple #[.slice none 0 0, .int .i64 (c : Int)])) ∨
   (Gok ks ∧ Rok ks rs ∧ ∃ g o, e = .returned (.tuple #[.slice (some ⟨g, 0, none⟩) ks.length ks.length, .int .i64 0]) ∧ w0.heap.size ≤ g ∧ g < w.heap.size ∧ w.heap[g]? = some (.cells (oC o) 4 (0, 0)) ∧ GSpec ks rs o))
end Go.Proofs.Ythfjonicolhjnaa
