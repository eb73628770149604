/- The walk of graph.Order. -/
import Derived.Test.YthfjonicolhjnaaClosure
import Derived.Deep.LoopGhost
import Derived.WalkMore
namespace Go.Proofs.Ythfjonicolhjnaa
open Go.RowKit Plain
namespace Plain
theorem ord_done {ks : List (List Int)} {f : Nat} {d : List Bool} {out : List Nat} (h : ¬ out.length < ks.length) : ord ks f d out = some out := by
  cases f with
  | zero => rw [ord, if_neg h]
  | succ f => rw [ord, if_neg h]
theorem ord_none {ks : List (List Int)} {f : Nat} {d : List Bool} {out : List Nat} (h : out.length < ks.length) (h1 : first ks d ks.length 0 = none) : ord ks (f + 1) d out = none := by
  rw [ord, if_pos h, h1]
theorem ord_some {ks : List (List Int)} {f i : Nat} {d : List Bool} {out : List Nat} (h : out.length < ks.length) (h1 : first ks d ks.length 0 = some i) : ord ks (f + 1) d out = ord ks f (d.set i true) (out ++ [i]) := by
  rw [ord, if_pos h, h1]
theorem first_skip {ks : List (List Int)} {d : List Bool} {n i : Nat} (h : ready ks d i = false) : first ks d (n + 1) i = first ks d n (i + 1) := by rw [first, if_neg (by simp [h])]
theorem first_hit {ks : List (List Int)} {d : List Bool} {n i : Nat} (h : ready ks d i = true) : first ks d (n + 1) i = some i := by rw [first, if_pos h]
end Plain
theorem own_form {w : World} {base : Nat} {t : TypeId} {n k : Nat} {v : Value} {xs : List Value} (h : w.ownsRow base t k v n xs) : ∃ a c, v = .slice a n c := by
  rcases h.2 with ⟨rfl, rfl⟩ | ⟨g, cap, cur, rfl, _⟩
  · exact ⟨none, 0, rfl⟩
  · exact ⟨_, cap, rfl⟩
def kC (l : List Nat) : List Value := l.map fun n : Nat => Value.int .i64 (n : Int)
/-- what Order leaves -/
def OrdEnd (w0 : World) (ks : List (List Int)) (e : Ending) (w : World) : Prop := Below w0.heap.size w0 w ∧
  ((¬ Gok ks ∧ ∃ c : Nat, c ≠ 0 ∧ c ≤ 2 ∧ e = .returned (.tuple #[.slice none 0 0, .int .i64 (c : Int)])) ∨
   (Gok ks ∧ ord ks ks.length (List.replicate ks.length false) [] = none ∧ e = .returned (.tuple #[.slice none 0 0, .int .i64 4])) ∨
   (Gok ks ∧ ∃ a l c, ord ks ks.length (List.replicate ks.length false) [] = some l ∧ e = .returned (.tuple #[.slice a l.length c, .int .i64 0]) ∧ w.ownsRow w0.heap.size 3 1 (.slice a l.length c) l.length (kC l)))
end Go.Proofs.Ythfjonicolhjnaa
