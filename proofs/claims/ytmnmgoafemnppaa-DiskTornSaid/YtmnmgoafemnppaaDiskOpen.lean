/- Deeds opened: arguments that came in. -/
import Derived.Test.YtmnmgoafemnppaaDiskPlayed
namespace Go.Proofs.Ytmnmgoafemnppaa
open Go.RowKit Go.ChangeShapes Go.WideShapes Go.ChangeAt Plain
theorem len_wtD {H : Type} {P : Program} {t e : TypeId} {α : Type} {l : List α} {d : DataW H} {n : Nat} (ht : P.underlying t = some (.slice e)) (hn : P.bytesOf e = n) (h : l = [] ∨ ∃ elems spare, d = .slice elems spare ∧ elems.length = l.length) (hw : ∀ q ∈ d.weights P t, q ≤ reachBytes) : l.length * n ≤ reachBytes := by
  rcases h with rfl | ⟨e', s, rfl, h⟩
  · simp
  · have := hw ((e'.length + s.length) * P.bytesOf e) (by simp only [DataW.weights, ht]; exact List.mem_cons_self)
    rw [hn, Nat.add_mul, h] at this
    omega
theorem cells_dd : Try.prog.cellsOf 37 = 5 := by kernel_rfl
theorem cells_strD : Try.prog.cellsOf 9 = 1 := by kernel_rfl
theorem cells_intsD : Try.prog.cellsOf 23 = 1 := by kernel_rfl
set_option maxRecDepth 100000 in
theorem read_md {H : Type} {enc : TypeId × Value → H} {W : World} {base : Nat} {sp : Nat → Bool} {held : Bool} (fuel : Nat) (cs : List Value) (x : DataW H × List MemPlace) (h : DataW.trod enc Try.prog W base sp held fuel 37 cs = some x) : ∃ r : MD, cs = mdC r ∧ MdOk W r := by
  obtain ⟨xs, n, rfl, rfl, hlen, hxl, hf⟩ := DataW.trod_struct Try.underlying37 h
  rw [cells_dd] at hlen
  have hx3 : xs.length = 5 := hxl
  have f0 : DataW.trod enc Try.prog W base sp held n 3 ((cs.drop 0).take (Try.prog.cellsOf 3)) = xs[0]? := hf 0 _ rfl
  have f1 : DataW.trod enc Try.prog W base sp held n 9 ((cs.drop 1).take (Try.prog.cellsOf 9)) = xs[1]? := hf 1 _ rfl
  have f2 : DataW.trod enc Try.prog W base sp held n 9 ((cs.drop 2).take (Try.prog.cellsOf 9)) = xs[2]? := hf 2 _ rfl
  have f3 : DataW.trod enc Try.prog W base sp held n 3 ((cs.drop 3).take (Try.prog.cellsOf 3)) = xs[3]? := hf 3 _ rfl
  have f4 : DataW.trod enc Try.prog W base sp held n 23 ((cs.drop 4).take (Try.prog.cellsOf 23)) = xs[4]? := hf 4 _ rfl
  rw [cells_int] at f0 f3
  rw [cells_strD] at f1 f2
  rw [cells_intsD] at f4
  rw [List.getElem?_eq_getElem (by omega)] at f0 f1 f2 f3 f4
  obtain ⟨a0, g0, _, k0⟩ := DataW.trod_int Try.underlying3 f0
  obtain ⟨a1, g1, _, k1⟩ := DataW.trod_string Try.underlying9 f1
  obtain ⟨a2, g2, _, k2⟩ := DataW.trod_string Try.underlying9 f2
  obtain ⟨a3, g3, k3⟩ := read_int _ _ _ f3
  obtain ⟨a4, l, cap, g4, hl1, hl2, hi, hs, _⟩ := SAt.trod (n := 1) (c := iC) I64 Try.underlying23 cells_int (by decide) iC_length read_int f4
  refine ⟨(a0, a1, a2, a3, a4, cap, l), ?_, k1, k2, k3.2, hs, by show l.length ≤ _; omega, hi⟩
  clear f0 f1 f2 f3 f4 h hf
  revert g0 g1 g2 g3 g4
  match cs, hlen with
  | [c0, c1, c2, c3, c4], _ =>
    intro g0 g1 g2 g3 g4
    simp only [iC, List.drop_zero, List.take_succ_cons, List.take_zero, List.drop_succ_cons, List.cons.injEq, and_true] at g0 g1 g2 g3 g4
    subst g0 g1 g2 g3 g4
    rfl
set_option maxRecDepth 100000 in
theorem open_deeds {H : Type} {enc : TypeId × Value → H} {W : World} {r : Reach} {base b0 : Nat} {sp : Nat → Bool} {held : Bool} {v : Value} {d : DataW H} {p : List MemPlace} (ho : Value.okWide Try.prog W r b0 22 v) (hd : DataW.Trod enc Try.prog W base sp held 22 v d p) (hw : ∀ q ∈ d.weights Try.prog 22, q ≤ reachBytes) :
    ∃ (a : Option Addr) (L : List MD) (cap : Nat), v = .slice a L.length cap ∧ (∀ m ∈ L, MdOk W m) ∧ SAt 5 mdC W a L ∧ L.length ≤ 1960000000000 := by
  obtain ⟨a, l, cap, hv, h1, h2, h3, h4, h5⟩ := SAt.open_ (n := 5) (c := mdC) (MdOk W) Try.underlying22 cells_dd (by decide) mdC_length read_md ho hd
  have hb := len_wtD (P := Try.prog) (t := 22) Try.underlying22 (by kernel_rfl : Try.prog.bytesOf 37 = 72) h5 hw
  unfold reachBytes at hb
  exact ⟨a, l, cap, hv, h3, h4, by omega⟩
end Go.Proofs.Ytmnmgoafemnppaa
