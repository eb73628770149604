/- Entries opened (arguments). -/
import Derived.Test.YtinjnclpiiohcaaPlOpen
import Derived.Test.YtinjnclpiiohcaaPlOf
namespace Go.Proofs.Ytinjnclpiiohcaa
open Go.RowKit Go.ChangeShapes Go.WideShapes Go.ChangeAt Plain
theorem cells_en : Try.prog.cellsOf 78 = 11 := by kernel_rfl
set_option maxRecDepth 100000 in
theorem read_en {H : Type} {enc : TypeId × Value → H} {W : World} {base : Nat} {sp : Nat → Bool} {held : Bool} (fuel : Nat) (cs : List Value) (x : DataW H × List MemPlace) (h : DataW.trod enc Try.prog W base sp held fuel 78 cs = some x) : ∃ p : En, cs = enC p ∧ ∀ c ∈ idL p.1, c < 256 := by
  obtain ⟨xs, n, rfl, _, hlen, hxl, hf⟩ := DataW.trod_struct Try.underlying78 h
  rw [cells_en] at hlen
  have hx5 : xs.length = 4 := hxl
  have f0 : DataW.trod enc Try.prog W base sp held n 67 ((cs.drop 0).take (Try.prog.cellsOf 67)) = xs[0]? := hf 0 _ rfl
  have f1 : DataW.trod enc Try.prog W base sp held n 3 ((cs.drop 8).take (Try.prog.cellsOf 3)) = xs[1]? := hf 1 _ rfl
  have f2 : DataW.trod enc Try.prog W base sp held n 3 ((cs.drop 9).take (Try.prog.cellsOf 3)) = xs[2]? := hf 2 _ rfl
  have f3 : DataW.trod enc Try.prog W base sp held n 3 ((cs.drop 10).take (Try.prog.cellsOf 3)) = xs[3]? := hf 3 _ rfl
  rw [cells_idI] at f0
  rw [cells_int1] at f1 f2 f3
  rw [List.getElem?_eq_getElem (by omega)] at f0 f1 f2 f3
  obtain ⟨l, hl0, hl8, hlt⟩ := trod_bytes_cells Try.underlying67 Try.underlying5 (by kernel_rfl) cells_idI f0
  obtain ⟨a1, g1, _, _⟩ := DataW.trod_int Try.underlying3 f1
  obtain ⟨a2, g2, _, _⟩ := DataW.trod_int Try.underlying3 f2
  obtain ⟨a3, g3, _, _⟩ := DataW.trod_int Try.underlying3 f3
  obtain ⟨t, rfl⟩ := eight hl8
  refine ⟨(t, a1, a2, a3), ?_, hlt⟩
  match cs, hlen with
  | [c0, c1, c2, c3, c4, c5, c6, c7, c8, c9, c10], _ =>
    simp only [List.drop_zero, List.take_succ_cons, List.take_zero, List.drop_succ_cons, List.cons.injEq, and_true] at hl0 g1 g2 g3
    subst g1 g2 g3
    show _ = (idL t).map bV ++ [_, _, _]
    rw [← hl0]
    rfl
set_option maxRecDepth 100000 in
theorem open_entries {H : Type} {enc : TypeId × Value → H} {W : World} {r : Reach} {base b0 : Nat} {sp : Nat → Bool} {held : Bool} {v : Value} {d : DataW H} {p : List MemPlace} (ho : Value.okWide Try.prog W r b0 74 v) (hd : DataW.Trod enc Try.prog W base sp held 74 v d p) :
    ∃ (a : Option Addr) (l : List En) (cap : Nat), v = .slice a l.length cap ∧ l.length ≤ 9223372036854775807 ∧ (∀ t ∈ l, ∀ c ∈ idL t.1, c < 256) ∧ SAt 11 enC W a l := by
  obtain ⟨a, l, cap, rfl, h1, h2, h3, h4, _⟩ := SAt.open_ (n := 11) (c := enC) (fun t : En => ∀ c ∈ idL t.1, c < 256) Try.underlying74 cells_en (by decide) enC_length read_en ho hd
  exact ⟨a, l, cap, rfl, by omega, h3, h4⟩
end Go.Proofs.Ytinjnclpiiohcaa
