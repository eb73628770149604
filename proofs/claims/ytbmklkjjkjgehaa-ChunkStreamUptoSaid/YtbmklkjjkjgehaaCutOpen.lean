/- A cut by value that came in. -/
import Derived.Test.YtbmklkjjkjgehaaSlices
import Derived.Test.YtbmklkjjkjgehaaRows
namespace Go.Proofs.Ytbmklkjjkjgehaa
open Go.RowKit Go.ChangeShapes Go.WideShapes Go.ChangeAt
theorem cells_cut : Try.prog.cellsOf 23 = 3 := by kernel_rfl
theorem read_cut {H : Type} {enc : TypeId × Value → H} {W : World} {base : Nat} {sp : Nat → Bool} {held : Bool} (fuel : Nat) (cs : List Value) (x : DataW H × List MemPlace) (h : DataW.trod enc Try.prog W base sp held fuel 23 cs = some x) : ∃ a b c : Int, cs = [.int .i64 a, .int .i64 b, .int .i64 c] := by
  obtain ⟨hl, hf⟩ := trod_fields Try.underlying23 (by kernel_rfl) cells_cut h
  obtain ⟨u0, m0, y0, e0, t0⟩ := hf 0 _ rfl
  obtain ⟨u1, m1, y1, e1, t1⟩ := hf 1 _ rfl
  obtain ⟨u2, m2, y2, e2, t2⟩ := hf 2 _ rfl
  obtain ⟨a, ha, _, _⟩ := DataW.trod_int Try.underlying3 t0
  obtain ⟨b, hb, _, _⟩ := DataW.trod_int Try.underlying3 t1
  obtain ⟨c, hc, _, _⟩ := DataW.trod_int Try.underlying3 t2
  simp only [List.cons.injEq, and_true] at ha hb hc
  subst ha hb hc
  match cs, hl, e0, e1, e2 with
  | [c0, c1, c2], _, e0, e1, e2 =>
    simp at e0 e1 e2
    subst e0 e1 e2
    exact ⟨a, b, c, rfl⟩
set_option maxRecDepth 100000 in
theorem open_cut {H : Type} {enc : TypeId × Value → H} {W : World} {r : Reach} {base b0 : Nat} {sp : Nat → Bool} {held : Bool} {v : Value} {d : DataW H} {p : List MemPlace} (ho : Value.okWide Try.prog W r b0 23 v) (hd : DataW.Trod enc Try.prog W base sp held 23 v d p) :
    ∃ a b c : Int, v = .agg #[.int .i64 a, .int .i64 b, .int .i64 c] := by
  obtain ⟨cs, rfl, _⟩ := okWide_struct Try.underlying23 ho
  obtain ⟨fuel, hf⟩ := hd
  obtain ⟨a, b, c, e⟩ := read_cut _ _ _ hf
  refine ⟨a, b, c, ?_⟩
  have e2 : cs.toList = [.int .i64 a, .int .i64 b, .int .i64 c] := e
  rw [← Array.toArray_toList (xs := cs), e2]
end Go.Proofs.Ytbmklkjjkjgehaa
