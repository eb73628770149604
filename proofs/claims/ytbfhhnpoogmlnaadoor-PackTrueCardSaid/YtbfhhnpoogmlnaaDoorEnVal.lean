/- An entry of a pack that came in by value. -/
import Derived.Test.YtbfhhnpoogmlnaaDoorPackOne
import Derived.Test.YtbfhhnpoogmlnaaDoorBase1
import Derived.Test.YtbfhhnpoogmlnaaDoorOpenArr
import Derived.Deep.Slices
import Derived.ChangeArms
namespace Go.Proofs.YtbfhhnpoogmlnaaDoor
open Go.RowKit Go.ChangeShapes Go.WideShapes Go.ChangeAt Plain
theorem trod_bytes_cellsE {H : Type} {P : Program} {enc : TypeId × Value → H} {W : World} {base : Nat} {sp : Nat → Bool} {held : Bool} {t e : TypeId} {n fuel : Nat} {cs : List Value} {x : DataW H × List MemPlace}
    (ht : P.underlying t = some (.array n e)) (he : P.underlying e = some (.int .u8)) (hc : P.cellsOf e = 1) (hn : P.cellsOf t = n) (h : DataW.trod enc P W base sp held fuel t cs = some x) :
    ∃ l : List Nat, cs = l.map bV ∧ l.length = n ∧ ∀ c ∈ l, c < 256 := by
  obtain ⟨xs, m, rfl, _, hlen, hxl, hx⟩ := DataW.trod_array ht h
  rw [hn] at hlen
  obtain ⟨zs, hz, hw⟩ := ints_of (k := .u8) cs (fun u hu => by
    obtain ⟨i, hi, rfl⟩ := List.mem_iff_getElem.1 hu
    have hi' := hx i (by omega)
    rw [hc, Nat.mul_one, List.getElem?_eq_getElem (by omega)] at hi'
    obtain ⟨a, ea, _, wa⟩ := DataW.trod_int he hi'
    rw [List.drop_eq_getElem_cons hi] at ea
    simp only [List.take_succ_cons, List.take_zero, List.cons.injEq, and_true] at ea
    exact ⟨a, ea, wa⟩)
  have hb : ∀ z ∈ zs, 0 ≤ z ∧ z < 256 := fun z hz => by
    have := hw z hz
    have hx : 0 ≤ z ∧ z ≤ 255 := by simpa [Lit.wf, IntKind.min, IntKind.max, IntKind.signed, IntKind.bits] using this
    omega
  refine ⟨zs.map Int.toNat, ?_, by rw [List.length_map, ← hlen, hz, List.length_map], ?_⟩
  · rw [hz, List.map_map]
    apply List.map_congr_left
    intro z hz
    have := hb z hz
    simp only [Function.comp, bV]
    congr 1
    omega
  · intro c hc'
    simp only [List.mem_map] at hc'
    obtain ⟨z, hz, rfl⟩ := hc'
    have := hb z hz
    omega
theorem cells_enE : Tryd.prog.cellsOf 51 = 11 := by kernel_rfl
theorem cells_idE : Tryd.prog.cellsOf 49 = 8 := by kernel_rfl
theorem cells_intE : Tryd.prog.cellsOf 3 = 1 := by kernel_rfl
set_option maxRecDepth 100000 in
theorem read_enE {H : Type} {enc : TypeId × Value → H} {W : World} {base : Nat} {sp : Nat → Bool} {held : Bool} (fuel : Nat) (cs : List Value) (x : DataW H × List MemPlace) (h : DataW.trod enc Tryd.prog W base sp held fuel 51 cs = some x) : ∃ (l : List Nat) (k a n : Int), cs = enL l k a n ∧ l.length = 8 := by
  obtain ⟨xs, n, rfl, _, hlen, hxl, hf⟩ := DataW.trod_struct Tryd.underlying51 h
  rw [cells_enE] at hlen
  have hx5 : xs.length = 4 := hxl
  have f0 : DataW.trod enc Tryd.prog W base sp held n 49 ((cs.drop 0).take (Tryd.prog.cellsOf 49)) = xs[0]? := hf 0 _ rfl
  have f1 : DataW.trod enc Tryd.prog W base sp held n 3 ((cs.drop 8).take (Tryd.prog.cellsOf 3)) = xs[1]? := hf 1 _ rfl
  have f2 : DataW.trod enc Tryd.prog W base sp held n 3 ((cs.drop 9).take (Tryd.prog.cellsOf 3)) = xs[2]? := hf 2 _ rfl
  have f3 : DataW.trod enc Tryd.prog W base sp held n 3 ((cs.drop 10).take (Tryd.prog.cellsOf 3)) = xs[3]? := hf 3 _ rfl
  rw [cells_idE] at f0
  rw [cells_intE] at f1 f2 f3
  rw [List.getElem?_eq_getElem (by omega)] at f0 f1 f2 f3
  obtain ⟨l, hl0, hl8, hlt⟩ := trod_bytes_cellsE Tryd.underlying49 Tryd.underlying5 (by kernel_rfl) cells_idE f0
  obtain ⟨a1, g1, _, _⟩ := DataW.trod_int Tryd.underlying3 f1
  obtain ⟨a2, g2, _, _⟩ := DataW.trod_int Tryd.underlying3 f2
  obtain ⟨a3, g3, _, _⟩ := DataW.trod_int Tryd.underlying3 f3
  refine ⟨l, a1, a2, a3, ?_, hl8⟩
  match cs, hlen with
  | [c0, c1, c2, c3, c4, c5, c6, c7, c8, c9, c10], _ =>
    simp only [List.drop_zero, List.take_succ_cons, List.take_zero, List.drop_succ_cons, List.cons.injEq, and_true] at hl0 g1 g2 g3
    subst g1 g2 g3
    show _ = l.map bV ++ [_, _, _]
    rw [← hl0]
    rfl
set_option maxRecDepth 100000 in
theorem open_entryE {H : Type} {enc : TypeId × Value → H} {W : World} {r : Reach} {base b0 : Nat} {sp : Nat → Bool} {held : Bool} {v : Value} {d : DataW H} {p : List MemPlace} (ho : Value.okWide Tryd.prog W r b0 51 v) (hd : DataW.Trod enc Tryd.prog W base sp held 51 v d p) :
    ∃ (l : List Nat) (k a n : Int), v = .agg (enA l k a n) ∧ l.length = 8 := by
  obtain ⟨cs, rfl, _⟩ := okWide_struct Tryd.underlying51 ho
  obtain ⟨fuel, hf⟩ := hd
  obtain ⟨l, k, a, n, e, h8⟩ := read_enE _ _ _ hf
  refine ⟨l, k, a, n, ?_, h8⟩
  have e2 : cs.toList = enL l k a n := e
  rw [← Array.toArray_toList (xs := cs), e2]
  rfl
end Go.Proofs.YtbfhhnpoogmlnaaDoor
