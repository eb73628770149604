/- Senders, receivers and packets that came in by value. -/
import Derived.Test.YtinjnclpiiohcaaLineOpen
namespace Go.Proofs.Ytinjnclpiiohcaa
open Go.RowKit Go.ChangeShapes Go.WideShapes Go.ChangeAt Plain
theorem len_wtL {H : Type} {P : Program} {t e : TypeId} {α : Type} {l : List α} {d : DataW H} {n : Nat} (ht : P.underlying t = some (.slice e)) (hn : P.bytesOf e = n) (h : l = [] ∨ ∃ elems spare, d = .slice elems spare ∧ elems.length = l.length) (hw : ∀ q ∈ d.weights P t, q ≤ reachBytes) : l.length * n ≤ reachBytes := by
  rcases h with rfl | ⟨e', s, rfl, h⟩
  · simp
  · have := hw ((e'.length + s.length) * P.bytesOf e) (by simp only [DataW.weights, ht]; exact List.mem_cons_self)
    rw [hn, Nat.add_mul, h] at this
    omega
theorem cells_boolL : Try.prog.cellsOf 4 = 1 := by kernel_rfl
theorem read_boolL {H : Type} {enc : TypeId × Value → H} {W : World} {base : Nat} {sp : Nat → Bool} {held : Bool} (fuel : Nat) (cs : List Value) (x : DataW H × List MemPlace) (h : DataW.trod enc Try.prog W base sp held fuel 4 cs = some x) : ∃ b : Bool, cs = boC b ∧ True := by
  obtain ⟨n, hn, _⟩ := DataW.trod_bool Try.underlying4 h
  exact ⟨n, hn, trivial⟩
theorem cells_pkL : Try.prog.cellsOf 30 = 3 := by kernel_rfl
set_option maxRecDepth 100000 in
theorem read_pkL {H : Type} {enc : TypeId × Value → H} {W : World} {base : Nat} {sp : Nat → Bool} {held : Bool} (fuel : Nat) (cs : List Value) (x : DataW H × List MemPlace) (h : DataW.trod enc Try.prog W base sp held fuel 30 cs = some x) : ∃ r : PkT, cs = pkC r ∧ True := by
  obtain ⟨xs, n, _, hxe, hlen, hxl, hf⟩ := DataW.trod_struct Try.underlying30 (show DataW.trod enc Try.prog W base sp held fuel 30 cs = some (x.1, x.2) from h)
  rw [cells_pkL] at hlen
  have hxn : xs.length = 3 := hxl
  have f0 : DataW.trod enc Try.prog W base sp held n 3 ((cs.drop 0).take (Try.prog.cellsOf 3)) = xs[0]? := hf 0 _ rfl
  have f1 : DataW.trod enc Try.prog W base sp held n 3 ((cs.drop 1).take (Try.prog.cellsOf 3)) = xs[1]? := hf 1 _ rfl
  have f2 : DataW.trod enc Try.prog W base sp held n 9 ((cs.drop 2).take (Try.prog.cellsOf 9)) = xs[2]? := hf 2 _ rfl
  rw [cells_intL, List.getElem?_eq_getElem (by omega)] at f0 f1
  rw [cells_strL, List.getElem?_eq_getElem (by omega)] at f2
  obtain ⟨n0, g0, _⟩ := DataW.trod_int Try.underlying3 f0
  obtain ⟨n1, g1, _⟩ := DataW.trod_int Try.underlying3 f1
  obtain ⟨s2, g2, _⟩ := DataW.trod_string Try.underlying9 f2
  refine ⟨(n0, n1, s2), ?_, trivial⟩
  match cs, hlen with
  | [z0, z1, z2], _ =>
    simp only [List.drop_zero, List.take_succ_cons, List.take_zero, List.drop_succ_cons, List.cons.injEq, and_true] at g0 g1 g2
    subst g0 g1 g2
    rfl
theorem cells_sender : Try.prog.cellsOf 25 = 3 := by kernel_rfl
set_option maxRecDepth 100000 in
theorem open_sender {H : Type} {enc : TypeId × Value → H} {W : World} {r : Reach} {base b0 : Nat} {sp : Nat → Bool} {held : Bool} {v : Value} {d : DataW H} {p : List MemPlace} (ho : Value.okWide Try.prog W r b0 25 v) (hd : DataW.Trod enc Try.prog W base sp held 25 v d p) (hw : ∀ q ∈ d.weights Try.prog 25, q ≤ reachBytes) :
    ∃ (l0 : List ByteArray) (a0 : Option Addr) (c0 : Nat) (l1 : List Bool) (a1 : Option Addr) (c1 : Nat) (n2 : Int), v = .agg #[.slice a0 l0.length c0, .slice a1 l1.length c1, .int .i64 n2] ∧ SAt 1 stC W a0 l0 ∧ l0.length ≤ 8796093021952 ∧ SAt 1 boC W a1 l1 ∧ l1.length ≤ 140737488351232 := by
  obtain ⟨cs, rfl, _⟩ := okWide_struct Try.underlying25 ho
  obtain ⟨fuel, hf0⟩ := hd
  have hx : DataW.trod enc Try.prog W base sp held fuel 25 cs.toList = some (d, p) := hf0
  obtain ⟨xs, n, _, hxe, hlen, hxl, hf⟩ := DataW.trod_struct Try.underlying25 hx
  rw [cells_sender] at hlen
  have hxn : xs.length = 3 := hxl
  have f0 : DataW.trod enc Try.prog W base sp held n 22 ((cs.toList.drop 0).take (Try.prog.cellsOf 22)) = xs[0]? := hf 0 _ rfl
  rw [show Try.prog.cellsOf 22 = 1 from by kernel_rfl, List.getElem?_eq_getElem (by omega)] at f0
  have f1 : DataW.trod enc Try.prog W base sp held n 23 ((cs.toList.drop 1).take (Try.prog.cellsOf 23)) = xs[1]? := hf 1 _ rfl
  rw [show Try.prog.cellsOf 23 = 1 from by kernel_rfl, List.getElem?_eq_getElem (by omega)] at f1
  have f2 : DataW.trod enc Try.prog W base sp held n 3 ((cs.toList.drop 2).take (Try.prog.cellsOf 3)) = xs[2]? := hf 2 _ rfl
  rw [show Try.prog.cellsOf 3 = 1 from by kernel_rfl, List.getElem?_eq_getElem (by omega)] at f2
  have hm0 : ∀ q ∈ (xs[0]'(by omega)).1.weights Try.prog 22, q ≤ reachBytes := fun q hq => hw q (by
    rw [show d = _ from congrArg Prod.fst hxe]
    simp only [DataW.weights, Try.underlying25]
    refine DataW.weights_mem_each (j := 0) (t := 22) (d := (xs[0]'(by omega)).1) rfl ?_ _ hq
    rw [List.getElem?_map, List.getElem?_eq_getElem (by omega)]; rfl)
  obtain ⟨a0, l0, c0, g0, _, _, _, hs0, hl0⟩ := SAt.trod (n := 1) (c := stC) (fun _ => True) Try.underlying22 cells_strL (by decide) stC_length (fun f c x hx => by obtain ⟨y, hy, _⟩ := read_strL f c x hx; exact ⟨y, hy, trivial⟩) f0
  have hb0 := len_wtL (P := Try.prog) (t := 22) Try.underlying22 (by kernel_rfl : Try.prog.bytesOf 9 = 16) hl0 hm0
  unfold reachBytes at hb0
  have hm1 : ∀ q ∈ (xs[1]'(by omega)).1.weights Try.prog 23, q ≤ reachBytes := fun q hq => hw q (by
    rw [show d = _ from congrArg Prod.fst hxe]
    simp only [DataW.weights, Try.underlying25]
    refine DataW.weights_mem_each (j := 1) (t := 23) (d := (xs[1]'(by omega)).1) rfl ?_ _ hq
    rw [List.getElem?_map, List.getElem?_eq_getElem (by omega)]; rfl)
  obtain ⟨a1, l1, c1, g1, _, _, _, hs1, hl1⟩ := SAt.trod (n := 1) (c := boC) (fun _ => True) Try.underlying23 cells_boolL (by decide) boC_length (fun f c x hx => by obtain ⟨y, hy, _⟩ := read_boolL f c x hx; exact ⟨y, hy, trivial⟩) f1
  have hb1 := len_wtL (P := Try.prog) (t := 23) Try.underlying23 (by kernel_rfl : Try.prog.bytesOf 4 = 1) hl1 hm1
  unfold reachBytes at hb1
  obtain ⟨n2, g2, _⟩ := DataW.trod_int Try.underlying3 f2
  refine ⟨l0, a0, c0, l1, a1, c1, n2, ?_, hs0, by omega, hs1, by omega⟩
  rw [← Array.toArray_toList (xs := cs)]
  generalize cs.toList = q at *
  match q, hlen with
  | [z0, z1, z2], _ =>
    simp only [List.drop_zero, List.take_succ_cons, List.take_zero, List.drop_succ_cons, List.cons.injEq, and_true] at g0 g1 g2
    subst g0 g1 g2
    rfl
theorem cells_receiver : Try.prog.cellsOf 28 = 2 := by kernel_rfl
set_option maxRecDepth 100000 in
theorem open_receiver {H : Type} {enc : TypeId × Value → H} {W : World} {r : Reach} {base b0 : Nat} {sp : Nat → Bool} {held : Bool} {v : Value} {d : DataW H} {p : List MemPlace} (ho : Value.okWide Try.prog W r b0 28 v) (hd : DataW.Trod enc Try.prog W base sp held 28 v d p) (hw : ∀ q ∈ d.weights Try.prog 28, q ≤ reachBytes) :
    ∃ (l0 : List ByteArray) (a0 : Option Addr) (c0 : Nat) (l1 : List PkT) (a1 : Option Addr) (c1 : Nat), v = .agg #[.slice a0 l0.length c0, .slice a1 l1.length c1] ∧ SAt 1 stC W a0 l0 ∧ l0.length ≤ 8796093021952 ∧ SAt 3 pkC W a1 l1 ∧ l1.length ≤ 4398046511110 := by
  obtain ⟨cs, rfl, _⟩ := okWide_struct Try.underlying28 ho
  obtain ⟨fuel, hf0⟩ := hd
  have hx : DataW.trod enc Try.prog W base sp held fuel 28 cs.toList = some (d, p) := hf0
  obtain ⟨xs, n, _, hxe, hlen, hxl, hf⟩ := DataW.trod_struct Try.underlying28 hx
  rw [cells_receiver] at hlen
  have hxn : xs.length = 2 := hxl
  have f0 : DataW.trod enc Try.prog W base sp held n 22 ((cs.toList.drop 0).take (Try.prog.cellsOf 22)) = xs[0]? := hf 0 _ rfl
  rw [show Try.prog.cellsOf 22 = 1 from by kernel_rfl, List.getElem?_eq_getElem (by omega)] at f0
  have f1 : DataW.trod enc Try.prog W base sp held n 26 ((cs.toList.drop 1).take (Try.prog.cellsOf 26)) = xs[1]? := hf 1 _ rfl
  rw [show Try.prog.cellsOf 26 = 1 from by kernel_rfl, List.getElem?_eq_getElem (by omega)] at f1
  have hm0 : ∀ q ∈ (xs[0]'(by omega)).1.weights Try.prog 22, q ≤ reachBytes := fun q hq => hw q (by
    rw [show d = _ from congrArg Prod.fst hxe]
    simp only [DataW.weights, Try.underlying28]
    refine DataW.weights_mem_each (j := 0) (t := 22) (d := (xs[0]'(by omega)).1) rfl ?_ _ hq
    rw [List.getElem?_map, List.getElem?_eq_getElem (by omega)]; rfl)
  obtain ⟨a0, l0, c0, g0, _, _, _, hs0, hl0⟩ := SAt.trod (n := 1) (c := stC) (fun _ => True) Try.underlying22 cells_strL (by decide) stC_length (fun f c x hx => by obtain ⟨y, hy, _⟩ := read_strL f c x hx; exact ⟨y, hy, trivial⟩) f0
  have hb0 := len_wtL (P := Try.prog) (t := 22) Try.underlying22 (by kernel_rfl : Try.prog.bytesOf 9 = 16) hl0 hm0
  unfold reachBytes at hb0
  have hm1 : ∀ q ∈ (xs[1]'(by omega)).1.weights Try.prog 26, q ≤ reachBytes := fun q hq => hw q (by
    rw [show d = _ from congrArg Prod.fst hxe]
    simp only [DataW.weights, Try.underlying28]
    refine DataW.weights_mem_each (j := 1) (t := 26) (d := (xs[1]'(by omega)).1) rfl ?_ _ hq
    rw [List.getElem?_map, List.getElem?_eq_getElem (by omega)]; rfl)
  obtain ⟨a1, l1, c1, g1, _, _, _, hs1, hl1⟩ := SAt.trod (n := 3) (c := pkC) (fun _ => True) Try.underlying26 cells_pkL (by decide) pkC_length (fun f c x hx => by obtain ⟨y, hy, _⟩ := read_pkL f c x hx; exact ⟨y, hy, trivial⟩) f1
  have hb1 := len_wtL (P := Try.prog) (t := 26) Try.underlying26 (by kernel_rfl : Try.prog.bytesOf 30 = 32) hl1 hm1
  unfold reachBytes at hb1
  refine ⟨l0, a0, c0, l1, a1, c1, ?_, hs0, by omega, hs1, by omega⟩
  rw [← Array.toArray_toList (xs := cs)]
  generalize cs.toList = q at *
  match q, hlen with
  | [z0, z1], _ =>
    simp only [List.drop_zero, List.take_succ_cons, List.take_zero, List.drop_succ_cons, List.cons.injEq, and_true] at g0 g1
    subst g0 g1
    rfl
theorem cells_packet : Try.prog.cellsOf 30 = 3 := by kernel_rfl
set_option maxRecDepth 100000 in
theorem open_packet {H : Type} {enc : TypeId × Value → H} {W : World} {r : Reach} {base b0 : Nat} {sp : Nat → Bool} {held : Bool} {v : Value} {d : DataW H} {p : List MemPlace} (ho : Value.okWide Try.prog W r b0 30 v) (hd : DataW.Trod enc Try.prog W base sp held 30 v d p) :
    ∃ (n0 : Int) (n1 : Int) (s2 : ByteArray), v = .agg #[.int .i64 n0, .int .i64 n1, .string s2] := by
  obtain ⟨cs, rfl, _⟩ := okWide_struct Try.underlying30 ho
  obtain ⟨fuel, hf0⟩ := hd
  have hx : DataW.trod enc Try.prog W base sp held fuel 30 cs.toList = some (d, p) := hf0
  obtain ⟨xs, n, _, hxe, hlen, hxl, hf⟩ := DataW.trod_struct Try.underlying30 hx
  rw [cells_packet] at hlen
  have hxn : xs.length = 3 := hxl
  have f0 : DataW.trod enc Try.prog W base sp held n 3 ((cs.toList.drop 0).take (Try.prog.cellsOf 3)) = xs[0]? := hf 0 _ rfl
  rw [show Try.prog.cellsOf 3 = 1 from by kernel_rfl, List.getElem?_eq_getElem (by omega)] at f0
  have f1 : DataW.trod enc Try.prog W base sp held n 3 ((cs.toList.drop 1).take (Try.prog.cellsOf 3)) = xs[1]? := hf 1 _ rfl
  rw [show Try.prog.cellsOf 3 = 1 from by kernel_rfl, List.getElem?_eq_getElem (by omega)] at f1
  have f2 : DataW.trod enc Try.prog W base sp held n 9 ((cs.toList.drop 2).take (Try.prog.cellsOf 9)) = xs[2]? := hf 2 _ rfl
  rw [show Try.prog.cellsOf 9 = 1 from by kernel_rfl, List.getElem?_eq_getElem (by omega)] at f2
  obtain ⟨n0, g0, _⟩ := DataW.trod_int Try.underlying3 f0
  obtain ⟨n1, g1, _⟩ := DataW.trod_int Try.underlying3 f1
  obtain ⟨s2, g2, _⟩ := DataW.trod_string Try.underlying9 f2
  refine ⟨n0, n1, s2, ?_⟩
  rw [← Array.toArray_toList (xs := cs)]
  generalize cs.toList = q at *
  match q, hlen with
  | [z0, z1, z2], _ =>
    simp only [List.drop_zero, List.take_succ_cons, List.take_zero, List.drop_succ_cons, List.cons.injEq, and_true] at g0 g1 g2
    subst g0 g1 g2
    rfl
end Go.Proofs.Ytinjnclpiiohcaa
