/- Places and an identifier that came in. -/
import Derived.Test.YtinjnclpiiohcaaPlEq
import Derived.Test.YtinjnclpiiohcaaSlices
import Derived.Test.YtinjnclpiiohcaaOpenArr
import Derived.Deep.Slices
import Derived.ChangeArms
namespace Go.Proofs.Ytinjnclpiiohcaa
open Go.RowKit Go.ChangeShapes Go.WideShapes Go.ChangeAt Plain
theorem trod_bytes_cells {H : Type} {P : Program} {enc : TypeId × Value → H} {W : World} {base : Nat} {sp : Nat → Bool} {held : Bool} {t e : TypeId} {n fuel : Nat} {cs : List Value} {x : DataW H × List MemPlace}
    (ht : P.underlying t = some (.array n e)) (he : P.underlying e = some (.int .u8)) (hc : P.cellsOf e = 1) (hn : P.cellsOf t = n) (h : DataW.trod enc P W base sp held fuel t cs = some x) :
    ∃ l : List Nat, cs = l.map bV ∧ l.length = n ∧ ∀ c ∈ l, c < 256 := by
  obtain ⟨xs, m, rfl, _, hlen, hxl, hx⟩ := DataW.trod_array ht h
  rw [hn] at hlen
  obtain ⟨zs, hz, hw⟩ := ints_of (k := .u8) cs (fun u hu => by
    obtain ⟨i, hi, rfl⟩ := List.mem_iff_getElem.1 hu
    have hi' := hx i (by omega)
    rw [hc, Nat.mul_one, List.getElem?_eq_getElem (by omega)] at hi'
    obtain ⟨a, ea, _, wa⟩ := DataW.trod_int he hi'
    rw [List.drop_eq_getElem_cons hi] at ea
    simp only [List.take_succ_cons, List.take_zero, List.cons.injEq, and_true] at ea
    exact ⟨a, ea, wa⟩)
  have hb : ∀ z ∈ zs, 0 ≤ z ∧ z < 256 := fun z hz => by
    have := hw z hz
    have hx : 0 ≤ z ∧ z ≤ 255 := by simpa [Lit.wf, IntKind.min, IntKind.max, IntKind.signed, IntKind.bits] using this
    omega
  refine ⟨zs.map Int.toNat, ?_, by rw [List.length_map, ← hlen, hz, List.length_map], ?_⟩
  · rw [hz, List.map_map]
    apply List.map_congr_left
    intro z hz
    have := hb z hz
    simp only [Function.comp, bV]
    congr 1
    omega
  · intro c hc'
    simp only [List.mem_map] at hc'
    obtain ⟨z, hz, rfl⟩ := hc'
    have := hb z hz
    omega
theorem eight {l : List Nat} (h : l.length = 8) : ∃ t : ID8, l = idL t := by
  match l, h with
  | [a, b, c, d, e, f, g, i], _ => exact ⟨(a, b, c, d, e, f, g, i), rfl⟩
theorem cells_pl : Try.prog.cellsOf 69 = 12 := by kernel_rfl
theorem cells_idI : Try.prog.cellsOf 67 = 8 := by kernel_rfl
theorem cells_int1 : Try.prog.cellsOf 3 = 1 := by kernel_rfl
set_option maxRecDepth 100000 in
theorem read_pl {H : Type} {enc : TypeId × Value → H} {W : World} {base : Nat} {sp : Nat → Bool} {held : Bool} (fuel : Nat) (cs : List Value) (x : DataW H × List MemPlace) (h : DataW.trod enc Try.prog W base sp held fuel 69 cs = some x) : ∃ p : Pl, cs = plC p ∧ ∀ c ∈ idL p.1, c < 256 := by
  obtain ⟨xs, n, rfl, _, hlen, hxl, hf⟩ := DataW.trod_struct Try.underlying69 h
  rw [cells_pl] at hlen
  have hx5 : xs.length = 5 := hxl
  have f0 : DataW.trod enc Try.prog W base sp held n 67 ((cs.drop 0).take (Try.prog.cellsOf 67)) = xs[0]? := hf 0 _ rfl
  have f1 : DataW.trod enc Try.prog W base sp held n 3 ((cs.drop 8).take (Try.prog.cellsOf 3)) = xs[1]? := hf 1 _ rfl
  have f2 : DataW.trod enc Try.prog W base sp held n 3 ((cs.drop 9).take (Try.prog.cellsOf 3)) = xs[2]? := hf 2 _ rfl
  have f3 : DataW.trod enc Try.prog W base sp held n 3 ((cs.drop 10).take (Try.prog.cellsOf 3)) = xs[3]? := hf 3 _ rfl
  have f4 : DataW.trod enc Try.prog W base sp held n 3 ((cs.drop 11).take (Try.prog.cellsOf 3)) = xs[4]? := hf 4 _ rfl
  rw [cells_idI] at f0
  rw [cells_int1] at f1 f2 f3 f4
  rw [List.getElem?_eq_getElem (by omega)] at f0 f1 f2 f3 f4
  obtain ⟨l, hl0, hl8, hlt⟩ := trod_bytes_cells Try.underlying67 Try.underlying5 (by kernel_rfl) cells_idI f0
  obtain ⟨a1, g1, _, _⟩ := DataW.trod_int Try.underlying3 f1
  obtain ⟨a2, g2, _, _⟩ := DataW.trod_int Try.underlying3 f2
  obtain ⟨a3, g3, _, _⟩ := DataW.trod_int Try.underlying3 f3
  obtain ⟨a4, g4, _, _⟩ := DataW.trod_int Try.underlying3 f4
  obtain ⟨t, rfl⟩ := eight hl8
  refine ⟨(t, a1, a2, a3, a4), ?_, hlt⟩
  match cs, hlen with
  | [c0, c1, c2, c3, c4, c5, c6, c7, c8, c9, c10, c11], _ =>
    simp only [List.drop_zero, List.take_succ_cons, List.take_zero, List.drop_succ_cons, List.cons.injEq, and_true] at hl0 g1 g2 g3 g4
    subst g1 g2 g3 g4
    show _ = (idL t).map bV ++ [_, _, _, _]
    rw [← hl0]
    rfl
set_option maxRecDepth 100000 in
theorem open_places {H : Type} {enc : TypeId × Value → H} {W : World} {r : Reach} {base b0 : Nat} {sp : Nat → Bool} {held : Bool} {v : Value} {d : DataW H} {p : List MemPlace} (ho : Value.okWide Try.prog W r b0 63 v) (hd : DataW.Trod enc Try.prog W base sp held 63 v d p) :
    ∃ (a : Option Addr) (l : List Pl) (cap : Nat), v = .slice a l.length cap ∧ l.length ≤ 9223372036854775807 ∧ (∀ t ∈ l, ∀ c ∈ idL t.1, c < 256) ∧ SAt 12 plC W a l := by
  obtain ⟨a, l, cap, rfl, h1, h2, h3, h4, _⟩ := SAt.open_ (n := 12) (c := plC) (fun t : Pl => ∀ c ∈ idL t.1, c < 256) Try.underlying63 cells_pl (by decide) plC_length read_pl ho hd
  exact ⟨a, l, cap, rfl, by omega, h3, h4⟩
set_option maxRecDepth 100000 in
theorem open_idI {H : Type} {enc : TypeId × Value → H} {W : World} {base : Nat} {sp : Nat → Bool} {held : Bool} {r : Reach} {b0 : Nat} {v : Value} {d : DataW H} {p : List MemPlace}
    (ho : Value.okWide Try.prog W r b0 67 v) (hd : DataW.Trod enc Try.prog W base sp held 67 v d p) : ∃ t : ID8, v = idV t ∧ ∀ c ∈ idL t, c < 256 := by
  obtain ⟨zs, rfl, hl, hw⟩ := open_ints_arr Try.underlying67 Try.underlying5 (by kernel_rfl) cells_idI ho hd
  have hb : ∀ z ∈ zs, 0 ≤ z ∧ z < 256 := fun z hz => by
    have := hw z hz
    have hx : 0 ≤ z ∧ z ≤ 255 := by simpa [Lit.wf, IntKind.min, IntKind.max, IntKind.signed, IntKind.bits] using this
    omega
  obtain ⟨t, ht⟩ := eight (l := zs.map Int.toNat) (by simpa using hl)
  refine ⟨t, ?_, fun c hc => ?_⟩
  · show _ = Value.agg ((idL t).map bV).toArray
    rw [← ht, List.map_map]
    congr 2
    apply List.map_congr_left
    intro z hz
    have := hb z hz
    simp only [Function.comp, bV]
    congr 1
    omega
  · rw [← ht] at hc
    simp only [List.mem_map] at hc
    obtain ⟨z, hz, rfl⟩ := hc
    have := hb z hz
    omega
end Go.Proofs.Ytinjnclpiiohcaa
