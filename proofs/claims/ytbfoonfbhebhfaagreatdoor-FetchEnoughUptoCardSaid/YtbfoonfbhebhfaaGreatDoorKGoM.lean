/- Joined: WalkOpen. -/
import Derived.Test.YtbfoonfbhebhfaaGreatDoorKGoA
namespace Go.Proofs.YtbfoonfbhebhfaaGreatDoor
open Go.RowKit Go.ChangeShapes Go.WideShapes Go.ChangeAt Plain
set_option linter.unusedVariables false
theorem cells_wayW : Tryz.prog.cellsOf 25 = 4 := by kernel_rfl
theorem cells_cutW : Tryz.prog.cellsOf 23 = 3 := by kernel_rfl
set_option maxRecDepth 100000 in
theorem read_cutW {H : Type} {enc : TypeId × Value → H} {W : World} {base : Nat} {sp : Nat → Bool} {held : Bool} (fuel : Nat) (cs : List Value) (x : DataW H × List MemPlace) (h : DataW.trod enc Tryz.prog W base sp held fuel 23 cs = some x) : ∃ (k a n : Int), cs = [.int .i64 k, .int .i64 a, .int .i64 n] := by
 obtain ⟨xs, n, rfl, _, hlen, hxl, hf⟩ := DataW.trod_struct Tryz.underlying23 h
 rw [cells_cutW] at hlen
 have hx5 : xs.length = 3 := hxl
 have f0 : DataW.trod enc Tryz.prog W base sp held n 3 ((cs.drop 0).take (Tryz.prog.cellsOf 3)) = xs[0]? := hf 0 _ rfl
 have f1 : DataW.trod enc Tryz.prog W base sp held n 3 ((cs.drop 1).take (Tryz.prog.cellsOf 3)) = xs[1]? := hf 1 _ rfl
 have f2 : DataW.trod enc Tryz.prog W base sp held n 3 ((cs.drop 2).take (Tryz.prog.cellsOf 3)) = xs[2]? := hf 2 _ rfl
 rw [cells_intD, List.getElem?_eq_getElem (by omega)] at f0 f1 f2
 obtain ⟨a0, g0, _, _⟩ := DataW.trod_int Tryz.underlying3 f0
 obtain ⟨a1, g1, _, _⟩ := DataW.trod_int Tryz.underlying3 f1
 obtain ⟨a2, g2, _, _⟩ := DataW.trod_int Tryz.underlying3 f2
 refine ⟨a0, a1, a2, ?_⟩
 match cs, hlen with
 | [c0, c1, c2], _ =>
  simp only [List.drop_zero, List.take_succ_cons, List.take_zero, List.drop_succ_cons, List.cons.injEq, and_true] at g0 g1 g2
  subst g0 g1 g2
  rfl
set_option maxRecDepth 100000 in
theorem read_wayW {H : Type} {enc : TypeId × Value → H} {W : World} {base : Nat} {sp : Nat → Bool} {held : Bool} (fuel : Nat) (cs : List Value) (x : DataW H × List MemPlace) (h : DataW.trod enc Tryz.prog W base sp held fuel 25 cs = some x) : ∃ (f k a n : Int), cs = [.int .i64 f, .int .i64 k, .int .i64 a, .int .i64 n] := by
 obtain ⟨xs, n, rfl, _, hlen, hxl, hf⟩ := DataW.trod_struct Tryz.underlying25 h
 rw [cells_wayW] at hlen
 have hx5 : xs.length = 2 := hxl
 have f0 : DataW.trod enc Tryz.prog W base sp held n 3 ((cs.drop 0).take (Tryz.prog.cellsOf 3)) = xs[0]? := hf 0 _ rfl
 have f1 : DataW.trod enc Tryz.prog W base sp held n 23 ((cs.drop 1).take (Tryz.prog.cellsOf 23)) = xs[1]? := hf 1 _ rfl
 rw [cells_intD, List.getElem?_eq_getElem (by omega)] at f0
 rw [cells_cutW, List.getElem?_eq_getElem (by omega)] at f1
 obtain ⟨a0, g0, _, _⟩ := DataW.trod_int Tryz.underlying3 f0
 obtain ⟨a1, a2, a3, g1⟩ := read_cutW _ _ _ f1
 refine ⟨a0, a1, a2, a3, ?_⟩
 match cs, hlen with
 | [c0, c1, c2, c3], _ =>
  simp only [List.drop_zero, List.take_succ_cons, List.take_zero, List.drop_succ_cons, List.cons.injEq, and_true] at g0 g1
  obtain ⟨rfl, rfl, rfl⟩ := g1
  subst g0
  rfl
set_option maxRecDepth 100000 in
theorem open_wayW {H : Type} {enc : TypeId × Value → H} {W : World} {r : Reach} {base b0 : Nat} {sp : Nat → Bool} {held : Bool} {v : Value} {d : DataW H} {p : List MemPlace} (ho : Value.okWide Tryz.prog W r b0 25 v) (hd : DataW.Trod enc Tryz.prog W base sp held 25 v d p) :
  ∃ (f k a n : Int), v = .agg #[.int .i64 f, .int .i64 k, .int .i64 a, .int .i64 n] := by
 obtain ⟨cs, rfl, _⟩ := okWide_struct Tryz.underlying25 ho
 obtain ⟨fuel, hf⟩ := hd
 obtain ⟨f, k, a, n, e⟩ := read_wayW _ _ _ hf
 refine ⟨f, k, a, n, ?_⟩
 have e2 : cs.toList = [.int .i64 f, .int .i64 k, .int .i64 a, .int .i64 n] := e
 rw [← Array.toArray_toList (xs := cs), e2]
set_option maxRecDepth 100000 in
theorem read_itT {H : Type} {enc : TypeId × Value → H} {W : World} {base : Nat} {sp : Nat → Bool} {held : Bool} (fuel : Nat) (cs : List Value) (x : DataW H × List MemPlace) (h : DataW.trod enc Tryz.prog W base sp held fuel 40 cs = some x) : ∃ p : It, cs = iC p ∧ (p.1.size ≤ Rows.uptoBulk x.1 ∧ (-9223372036854775808 ≤ p.2.2.2.1 ∧ p.2.2.2.1 ≤ 9223372036854775807)) := by
 obtain ⟨p, hp, hz⟩ := read_it fuel cs x h
 refine ⟨p, hp, hz, ?_⟩
 obtain ⟨xs, n, rfl, rfl, hlen, hxl, hf⟩ := DataW.trod_struct Tryz.underlying40 h
 have hx5 : xs.length = 5 := hxl
 have f3 : DataW.trod enc Tryz.prog W base sp held n 3 ((cs.drop 3).take (Tryz.prog.cellsOf 3)) = xs[3]? := hf 3 _ rfl
 rw [cells_intD, List.getElem?_eq_getElem (by omega), hp] at f3
 obtain ⟨a3, g3, _, k3⟩ := DataW.trod_int Tryz.underlying3 f3
 simp only [iC, List.drop_succ_cons, List.drop_zero, List.take_succ_cons, List.take_zero, List.cons.injEq, and_true, Value.int.injEq, true_and] at g3
 rw [g3]
 exact i64Of k3
set_option maxRecDepth 100000 in
theorem open_itemsT {H : Type} {enc : TypeId × Value → H} {W : World} {r : Reach} {base b0 : Nat} {sp : Nat → Bool} {held : Bool} {v : Value} {d : DataW H} {p : List MemPlace} (ho : Value.okWide Tryz.prog W r b0 26 v) (hd : DataW.Trod enc Tryz.prog W base sp held 26 v d p) :
  ∃ (a : Option Addr) (l : List It) (cap : Nat), v = .slice a l.length cap ∧ l.length ≤ cap ∧ cap ≤ 9223372036854775807 ∧ (∀ y ∈ l, y.1.size ≤ Rows.uptoBulk d) ∧ TmOk l ∧ SAt 5 iC W a l := by
 obtain ⟨a, l, cap, h1, h2, h3, h4, h5⟩ := SAt.open2 (n := 5) (c := iC) (fun (y : It) m => y.1.size ≤ m ∧ (-9223372036854775808 ≤ y.2.2.2.1 ∧ y.2.2.2.1 ≤ 9223372036854775807)) (fun _ _ _ h1 h2 => ⟨Nat.le_trans h1.1 h2, h1.2⟩) Tryz.underlying26 cells_it (by decide) iC_length read_itT ho hd
 exact ⟨a, l, cap, h1, h2, h3, fun y hy => (h4 y hy).1, fun y hy => (h4 y hy).2, h5⟩
end Go.Proofs.YtbfoonfbhebhfaaGreatDoor
