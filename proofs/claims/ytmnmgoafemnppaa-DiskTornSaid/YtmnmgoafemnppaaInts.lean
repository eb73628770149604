/- Slices of ints: their cells, opened, compared. -/
import Derived.Test.YtmnmgoafemnppaaRows
import Derived.Test.YtmnmgoafemnppaaSlices
import Derived.Test.YtmnmgoafemnppaaAppend
import Derived.Test.YtmnmgoafemnppaaBits
import Derived.WalkSpells
import Derived.WalkLawsBesides
import Derived.Deep.QuietTactic
import Derived.BigQuiet
namespace Go.Proofs.Ytmnmgoafemnppaa
open Go.RowKit Go.ChangeShapes Go.WideShapes Go.ChangeAt
/-- the cell of an int -/
def iC (n : Int) : List Value := [.int .i64 n]
theorem iC_length (n : Int) : (iC n).length = 1 := rfl
theorem iC_flat (l : List Int) : l.flatMap iC = l.map (Value.int .i64) := by
  induction l with
  | nil => rfl
  | cons a l ih => rw [List.flatMap_cons, ih]; rfl
theorem cells_int : Try.prog.cellsOf 3 = 1 := by kernel_rfl
theorem SAt.int {w : World} {a : Option Addr} {l : List Int} (h : SAt 1 iC w a l) (i : Nat) (hi : i < l.length) : ∃ g off, a = some ⟨g, off, none⟩ ∧ g < w.heap.size ∧ w.cell? ⟨g, off + i, none⟩ = some (.int .i64 l[i]) := by
  obtain ⟨g, off, e, hg, hr⟩ := h i hi
  have := hr 0 _ rfl
  exact ⟨g, off, e, hg, by rwa [Nat.mul_one, Nat.add_zero] at this⟩
def I64 (n : Int) : Prop := -9223372036854775808 ≤ n ∧ n ≤ 9223372036854775807
/-- an int that is read -/
theorem read_int {H : Type} {enc : TypeId × Value → H} {W : World} {base : Nat} {sp : Nat → Bool} {held : Bool} (fuel : Nat) (cs : List Value) (x : DataW H × List MemPlace) (h : DataW.trod enc Try.prog W base sp held fuel 3 cs = some x) : ∃ n : Int, cs = iC n ∧ I64 n := by
  obtain ⟨n, hn, _, wn⟩ := DataW.trod_int Try.underlying3 h
  exact ⟨n, hn, i64Of wn⟩
theorem trod_ints {H : Type} {enc : TypeId × Value → H} {W : World} {base : Nat} {sp : Nat → Bool} {held : Bool} (fuel : Nat) (cs : List Value) (x : DataW H × List MemPlace) (h : DataW.trod enc Try.prog W base sp held fuel 23 cs = some x) :
    ∃ (a : Option Addr) (l : List Int) (cap : Nat), cs = [.slice a l.length cap] ∧ l.length ≤ 9223372036854775807 ∧ (∀ n ∈ l, I64 n) ∧ SAt 1 iC W a l := by
  obtain ⟨a, l, cap, hv, h1, h2, h3, h4, _⟩ := SAt.trod (n := 1) (c := iC) I64 Try.underlying23 cells_int (by decide) iC_length read_int h
  exact ⟨a, l, cap, hv, Nat.le_trans h1 h2, h3, h4⟩
set_option maxRecDepth 100000 in
theorem open_intsS {H : Type} {enc : TypeId × Value → H} {W : World} {r : Reach} {base b0 : Nat} {sp : Nat → Bool} {held : Bool} {v : Value} {d : DataW H} {p : List MemPlace} (ho : Value.okWide Try.prog W r b0 23 v) (hd : DataW.Trod enc Try.prog W base sp held 23 v d p) :
    ∃ (a : Option Addr) (l : List Int) (cap : Nat), v = .slice a l.length cap ∧ l.length ≤ 9223372036854775807 ∧ (∀ n ∈ l, I64 n) ∧ SAt 1 iC W a l ∧ (l = [] ∨ ∃ elems spare, d = .slice elems spare ∧ elems.length = l.length) := by
  obtain ⟨a, l, cap, hv, h1, h2, h3, h4, h5⟩ := SAt.open_ (n := 1) (c := iC) I64 Try.underlying23 cells_int (by decide) iC_length read_int ho hd
  exact ⟨a, l, cap, hv, Nat.le_trans h1 h2, h3, h4, h5⟩
end Go.Proofs.Ytmnmgoafemnppaa
