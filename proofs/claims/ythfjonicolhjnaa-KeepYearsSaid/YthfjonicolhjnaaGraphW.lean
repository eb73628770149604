/- The walks of graph.Check and Reach; graphs in memory. -/
import Derived.Test.YthfjonicolhjnaaGraphPlain
import Derived.Test.YthfjonicolhjnaaInts
import Derived.Test.YthfjonicolhjnaaMem
import Derived.Laws.AppendOwnNone
namespace Go.Proofs.Ythfjonicolhjnaa
open Go.RowKit Plain
/-- a row of a graph in memory: where it lies, its capacity, its numbers -/
abbrev GRow := Option Addr × Nat × List Int
def gC (r : GRow) : List Value := [.slice r.1 r.2.2.length r.2.1]
theorem gC_length (r : GRow) : (gC r).length = 1 := rfl
/-- a graph in memory -/
def GAt (w : World) (a : Option Addr) (rows : List GRow) : Prop := SAt 1 gC w a rows ∧ ∀ r ∈ rows, SAt 1 iC w r.1 r.2.2 ∧ r.2.2.length ≤ 9223372036854775807
/-- its rows' numbers -/
def gK (rows : List GRow) : List (List Int) := rows.map (·.2.2)
theorem gK_length (rows : List GRow) : (gK rows).length = rows.length := by simp [gK]
theorem gK_getD (rows : List GRow) (i : Nat) (hi : i < rows.length) : (gK rows).getD i [] = rows[i].2.2 := by
  simp [gK, List.getD_eq_getElem?_getD, List.getElem?_eq_getElem hi]
theorem GAt.below {w w' : World} {a : Option Addr} {rows : List GRow} (h : GAt w a rows) (hb : Below w.heap.size w w') : GAt w' a rows :=
  ⟨h.1.below hb, fun r hr => ⟨(h.2 r hr).1.below hb, (h.2 r hr).2⟩⟩
theorem GAt.row {w : World} {a : Option Addr} {rows : List GRow} (h : GAt w a rows) (i : Nat) (hi : i < rows.length) :
    ∃ g off, a = some ⟨g, off, none⟩ ∧ g < w.heap.size ∧ w.cell? ⟨g, off + i, none⟩ = some (.slice rows[i].1 rows[i].2.2.length rows[i].2.1) ∧ SAt 1 iC w rows[i].1 rows[i].2.2 ∧ rows[i].2.2.length ≤ 9223372036854775807 := by
  obtain ⟨g, off, e, hg, hr⟩ := h.1 i hi
  have := hr 0 _ rfl
  exact ⟨g, off, e, hg, by rwa [Nat.mul_one, Nat.add_zero] at this, h.2 _ (List.getElem_mem hi)⟩
/-- what Check answers -/
def ChkEnd (w0 : World) (ks : List (List Int)) (e : Ending) (w : World) : Prop := ∃ c : Nat, e = .returned (.int .i64 (c : Int)) ∧ c ≤ 2 ∧ (c = 0 ↔ Gok ks) ∧ Below w0.heap.size w0 w
theorem gok_not_row {ks : List (List Int)} {r : List Int} (hr : r ∈ ks) (h : 64 < r.length) : ¬ Gok ks := fun hg => by have := (hg.2 r hr).1; omega
theorem gok_not_kid {ks : List (List Int)} {r : List Int} {k : Int} (hr : r ∈ ks) (hk : k ∈ r) (h : k < 0 ∨ (ks.length : Int) ≤ k) : ¬ Gok ks := fun hg => by have := (hg.2 r hr).2 k hk; omega
end Go.Proofs.Ythfjonicolhjnaa
