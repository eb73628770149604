/- Lists of strings and of ints that came in. -/
import Derived.Test.YtinjnclpiiohcaaPkBase
import Derived.Test.YtinjnclpiiohcaaBits
namespace Go.Proofs.Ytinjnclpiiohcaa
open Go.RowKit Go.ChangeShapes Go.WideShapes Go.ChangeAt Plain
def scC (n : Int) : List Value := [.int .i64 n]
theorem scC_length (n : Int) : (scC n).length = 1 := rfl
def I64 (n : Int) : Prop := -9223372036854775808 ≤ n ∧ n ≤ 9223372036854775807
theorem cells_intL : Try.prog.cellsOf 3 = 1 := by kernel_rfl
theorem cells_strL : Try.prog.cellsOf 9 = 1 := by kernel_rfl
theorem read_intL {H : Type} {enc : TypeId × Value → H} {W : World} {base : Nat} {sp : Nat → Bool} {held : Bool} (fuel : Nat) (cs : List Value) (x : DataW H × List MemPlace) (h : DataW.trod enc Try.prog W base sp held fuel 3 cs = some x) : ∃ n : Int, cs = scC n ∧ I64 n := by
  obtain ⟨n, hn, _, wn⟩ := DataW.trod_int Try.underlying3 h
  exact ⟨n, hn, i64Of wn⟩
theorem read_strL {H : Type} {enc : TypeId × Value → H} {W : World} {base : Nat} {sp : Nat → Bool} {held : Bool} (fuel : Nat) (cs : List Value) (x : DataW H × List MemPlace) (h : DataW.trod enc Try.prog W base sp held fuel 9 cs = some x) : ∃ r : ByteArray, cs = stC r ∧ r.size ≤ 9223372036854775807 := by
  obtain ⟨s, rfl, _, hs⟩ := DataW.trod_string Try.underlying9 h
  unfold maxLen at hs
  exact ⟨s, rfl, hs⟩
set_option maxRecDepth 100000 in
theorem open_intsL {H : Type} {enc : TypeId × Value → H} {W : World} {r : Reach} {base b0 : Nat} {sp : Nat → Bool} {held : Bool} {v : Value} {d : DataW H} {p : List MemPlace} (ho : Value.okWide Try.prog W r b0 51 v) (hd : DataW.Trod enc Try.prog W base sp held 51 v d p) :
    ∃ (a : Option Addr) (l : List Int) (cap : Nat), v = .slice a l.length cap ∧ l.length ≤ 9223372036854775807 ∧ (∀ n ∈ l, I64 n) ∧ SAt 1 scC W a l := by
  obtain ⟨a, l, cap, hv, h1, h2, h3, h4, h5⟩ := SAt.open_ (n := 1) (c := scC) I64 Try.underlying51 cells_intL (by decide) scC_length read_intL ho hd
  exact ⟨a, l, cap, hv, Nat.le_trans h1 h2, h3, h4⟩
set_option maxRecDepth 100000 in
theorem open_strsL {H : Type} {enc : TypeId × Value → H} {W : World} {r : Reach} {base b0 : Nat} {sp : Nat → Bool} {held : Bool} {v : Value} {d : DataW H} {p : List MemPlace} (ho : Value.okWide Try.prog W r b0 22 v) (hd : DataW.Trod enc Try.prog W base sp held 22 v d p) :
    ∃ (a : Option Addr) (l : List ByteArray) (cap : Nat), v = .slice a l.length cap ∧ l.length ≤ cap ∧ cap ≤ 9223372036854775807 ∧ SAt 1 stC W a l ∧ (l = [] ∨ ∃ elems spare, d = .slice elems spare ∧ elems.length = l.length) := by
  obtain ⟨a, l, cap, hv, h1, h2, h3, h4, h5⟩ := SAt.open_ (n := 1) (c := stC) (fun r : ByteArray => r.size ≤ 9223372036854775807) Try.underlying22 cells_strL (by decide) stC_length read_strL ho hd
  exact ⟨a, l, cap, hv, h1, h2, h4, h5⟩
end Go.Proofs.Ytinjnclpiiohcaa
