/- An act that came in by value. -/
import Derived.Test.YtgoocmocdimnoaaHeapOpen
namespace Go.Proofs.Ytgoocmocdimnoaa
open Go.RowKit Go.ChangeShapes Go.WideShapes Go.ChangeAt Plain
set_option maxRecDepth 100000 in
theorem open_ac {H : Type} {enc : TypeId × Value → H} {W : World} {r : Reach} {base b0 : Nat} {sp : Nat → Bool} {held : Bool} {v : Value} {d : DataW H} {p : List MemPlace} (ho : Value.okWide Try.prog W r b0 43 v) (hd : DataW.Trod enc Try.prog W base sp held 43 v d p) :
    (∃ k x y : Int, v = .agg #[.int .i64 k, .int .i64 x, .int .i64 y]) ∧ 4 ≤ Rows.uptoBulk d := by
  obtain ⟨cs, rfl, _⟩ := okWide_struct Try.underlying43 ho
  obtain ⟨fuel, hf0⟩ := hd
  have hx : DataW.trod enc Try.prog W base sp held fuel 43 cs.toList = some (d, p) := hf0
  obtain ⟨y, hy, _⟩ := read_ac fuel _ _ hx
  obtain ⟨xs, n, _, hxe, _, hxl, _⟩ := DataW.trod_struct Try.underlying43 hx
  have hx3 : xs.length = 3 := hxl
  have h4 := upto_len (xs.map (·.1))
  rw [List.length_map, hx3] at h4
  refine ⟨⟨y.1, y.2.1, y.2.2, ?_⟩, by rw [show d = _ from congrArg Prod.fst hxe]; simp only [Rows.uptoBulk]; omega⟩
  rw [← Array.toArray_toList (xs := cs), hy]
  rfl
set_option maxRecDepth 100000 in
theorem open_heapU {H : Type} {enc : TypeId × Value → H} {W : World} {r : Reach} {base b0 : Nat} {sp : Nat → Bool} {held : Bool} {v : Value} {d : DataW H} {p : List MemPlace} (ho : Value.okWide Try.prog W r b0 41 v) (hd : DataW.Trod enc Try.prog W base sp held 41 v d p) (hw : Rows.uptoBulk d ≤ 1048572) :
    ∃ (rows : List TRow) (rs : List Int) (bz : Bool) (a b : Option Addr) (tc rc : Nat), v = .agg #[.slice a rows.length tc, .slice b rs.length rc, .bool bz] ∧ SAt 3 tcC W a rows ∧ (∀ r ∈ rows, SAt 1 iC W r.1 r.2.2.1 ∧ r.2.2.1.length ≤ 1048570) ∧ SAt 1 iC W b rs ∧ rows.length ≤ 1048570 ∧ rs.length ≤ 1048570 := by
  obtain ⟨cs, rfl, _⟩ := okWide_struct Try.underlying41 ho
  obtain ⟨fuel, hf0⟩ := hd
  have hx : DataW.trod enc Try.prog W base sp held fuel 41 cs.toList = some (d, p) := hf0
  obtain ⟨xs, n, _, hxe, hlen, hxl, hf⟩ := DataW.trod_struct Try.underlying41 hx
  rw [cells_hp] at hlen
  have hx3 : xs.length = 3 := hxl
  have f0 : DataW.trod enc Try.prog W base sp held n 39 ((cs.toList.drop 0).take (Try.prog.cellsOf 39)) = xs[0]? := hf 0 _ rfl
  have f1 : DataW.trod enc Try.prog W base sp held n 23 ((cs.toList.drop 1).take (Try.prog.cellsOf 23)) = xs[1]? := hf 1 _ rfl
  have f2 : DataW.trod enc Try.prog W base sp held n 4 ((cs.toList.drop 2).take (Try.prog.cellsOf 4)) = xs[2]? := hf 2 _ rfl
  rw [cells_ths] at f0
  rw [cells_ints] at f1
  rw [cells_boolT] at f2
  rw [List.getElem?_eq_getElem (by omega)] at f0 f1 f2
  rw [show d = _ from congrArg Prod.fst hxe] at hw
  obtain ⟨y0, y1, y2, rfl⟩ : ∃ y0 y1 y2, xs = [y0, y1, y2] := by
    match xs, hx3 with
    | [y0, y1, y2], _ => exact ⟨y0, y1, y2, rfl⟩
  simp only [Rows.uptoBulk, List.map_cons, List.map_nil, Rows.uptoBulkAll] at hw
  have z0 := upto_one y0.1
  have z1 := upto_one y1.1
  have z2 := upto_one y2.1
  simp only [List.getElem_cons_zero, List.getElem_cons_succ] at f0 f1 f2
  obtain ⟨a, T, tc, g0, _, _, hT, hTS, hTl⟩ := SAt.trodU (n := 3) (c := tcC) (N := 1048570) (fun r : TRow => SAt 1 iC W r.1 r.2.2.1 ∧ r.2.2.1.length ≤ 1048570) Try.underlying39 cells_th (by decide) tcC_length read_thg f0 (by show Rows.uptoBulk y0.1 ≤ _; omega)
  obtain ⟨b, l, rc, g1, _, _, _, hs, hsl⟩ := SAt.trod (n := 1) (c := iC) (fun _ => True) Try.underlying23 cells_int (by decide) iC_length (fun f c x hx => by obtain ⟨y, hy, _⟩ := read_int f c x hx; exact ⟨y, hy, trivial⟩) f1
  obtain ⟨bz, g2, _⟩ := DataW.trod_bool Try.underlying4 f2
  have hb1 := len_bulk hTl
  have hb2 := len_bulk hsl
  refine ⟨T, l, bz, a, b, tc, rc, ?_, hTS, hT, hs, by have : T.length ≤ Rows.uptoBulk y0.1 := hb1; omega, by have : l.length ≤ Rows.uptoBulk y1.1 := hb2; omega⟩
  rw [← Array.toArray_toList (xs := cs)]
  generalize cs.toList = q at *
  match q, hlen with
  | [c0, c1, c2], _ =>
    simp only [List.drop_zero, List.take_succ_cons, List.take_zero, List.drop_succ_cons, List.cons.injEq, and_true] at g0 g1 g2
    subst g0 g1 g2
    rfl
end Go.Proofs.Ytgoocmocdimnoaa
