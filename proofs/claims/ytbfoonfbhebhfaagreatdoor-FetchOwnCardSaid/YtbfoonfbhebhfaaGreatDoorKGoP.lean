/- Joined: BlOpen. -/
import Derived.Test.YtbfoonfbhebhfaaGreatDoorKGnU
import Derived.Test.YtbfoonfbhebhfaaGreatDoorKGnB
import Derived.Deep.Slices
import Derived.ChangeArms
namespace Go.Proofs.YtbfoonfbhebhfaaGreatDoor
open Go.RowKit Go.ChangeShapes Go.WideShapes Go.ChangeAt Plain
theorem cells_blO : Tryz.prog.cellsOf 37 = 2 := by kernel_rfl
set_option maxRecDepth 100000 in
theorem read_blO {H : Type} {enc : TypeId × Value → H} {W : World} {base : Nat} {sp : Nat → Bool} {held : Bool} (fuel : Nat) (cs : List Value) (x : DataW H × List MemPlace) (h : DataW.trod enc Tryz.prog W base sp held fuel 37 cs = some x) : ∃ r : Bl, cs = blC r ∧ True := by
 obtain ⟨xs, n, _, hxe, hlen, hxl, hf⟩ := DataW.trod_struct Tryz.underlying37 (show DataW.trod enc Tryz.prog W base sp held fuel 37 cs = some (x.1, x.2) from h)
 rw [cells_blO] at hlen
 have hxn : xs.length = 2 := hxl
 have f0 : DataW.trod enc Tryz.prog W base sp held n 3 ((cs.drop 0).take (Tryz.prog.cellsOf 3)) = xs[0]? := hf 0 _ rfl
 have f1 : DataW.trod enc Tryz.prog W base sp held n 9 ((cs.drop 1).take (Tryz.prog.cellsOf 9)) = xs[1]? := hf 1 _ rfl
 rw [show Tryz.prog.cellsOf 3 = 1 from by kernel_rfl, List.getElem?_eq_getElem (by omega)] at f0
 rw [show Tryz.prog.cellsOf 9 = 1 from by kernel_rfl, List.getElem?_eq_getElem (by omega)] at f1
 obtain ⟨n0, g0, _⟩ := DataW.trod_int Tryz.underlying3 f0
 obtain ⟨s1, g1, _⟩ := DataW.trod_string Tryz.underlying9 f1
 refine ⟨(n0, s1), ?_, trivial⟩
 match cs, hlen with
 | [z0, z1], _ =>
  simp only [List.drop_zero, List.take_succ_cons, List.take_zero, List.drop_succ_cons, List.cons.injEq, and_true] at g0 g1
  subst g0 g1
  rfl
set_option maxRecDepth 100000 in
theorem open_blobs {H : Type} {enc : TypeId × Value → H} {W : World} {r : Reach} {base b0 : Nat} {sp : Nat → Bool} {held : Bool} {v : Value} {d : DataW H} {p : List MemPlace} (ho : Value.okWide Tryz.prog W r b0 28 v) (hd : DataW.Trod enc Tryz.prog W base sp held 28 v d p) :
  ∃ (a : Option Addr) (l : List Bl) (cap : Nat), v = .slice a l.length cap ∧ l.length ≤ cap ∧ cap ≤ 9223372036854775807 ∧ SAt 2 blC W a l := by
 obtain ⟨a, l, cap, rfl, h1, h2, _, h4, _⟩ := SAt.open_ (n := 2) (c := blC) (fun _ => True) Tryz.underlying28 cells_blO (by decide) blC_length read_blO ho hd
 exact ⟨a, l, cap, rfl, h1, h2, h4⟩
end Go.Proofs.YtbfoonfbhebhfaaGreatDoor
