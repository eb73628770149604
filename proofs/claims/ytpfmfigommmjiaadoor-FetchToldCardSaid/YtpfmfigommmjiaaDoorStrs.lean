/- Slices of strings: a cell each; arguments opened; one more appended. -/
import Derived.Test.YtpfmfigommmjiaaDoorFtB
import Derived.Test.YtpfmfigommmjiaaDoorFtA
import Derived.Test.YtpfmfigommmjiaaDoorRows
namespace Go.Proofs.YtpfmfigommmjiaaDoor
open Go.RowKit Go.ChangeShapes Go.WideShapes Go.ChangeAt
open Go.ChangeMaps (open_string shut_string)
def sC (s : ByteArray) : List Value := [.string s]
theorem sC_length (s : ByteArray) : (sC s).length = 1 := rfl
theorem sC_one (s : ByteArray) : ∀ u ∈ sC s, u.oneCell' = true := by intro u hu; simp only [sC, List.mem_singleton] at hu; subst hu; rfl
theorem sCs_snoc (l : List ByteArray) (s : ByteArray) : (l ++ [s]).flatMap sC = l.flatMap sC ++ sC s := by simp [List.flatMap_append]
theorem sCs_length (l : List ByteArray) : (l.flatMap sC).length = l.length := by rw [flat_length sC_length, Nat.mul_one]
theorem info_str : (Tryd.prog.info? 9).map (fun i => (i.zero, i.size, i.bytes)) = some (some (.string ⟨#[]⟩), 1, 16) := by kernel_rfl
theorem cells_str : Tryd.prog.cellsOf 9 = 1 := by kernel_rfl
/-- the size of a string in a slot -/
def szV : Value → Nat
  | .string s => s.size
  | _ => 0
/-- an own slice is of this form -/
theorem own_form' {w : World} {base : Nat} {e : TypeId} {k : Nat} {v : Value} {n : Nat} {xs : List Value} (h : w.ownsRow base e k v n xs) : ∃ a c, v = .slice a n c := by
  rcases h.2 with ⟨hv, h3⟩ | ⟨g, cap, cur, hv, _⟩
  · exact ⟨none, 0, by rw [hv, h3]⟩
  · exact ⟨_, _, hv⟩
theorem own_below' {w w' : World} {base : Nat} {e : TypeId} {k : Nat} {v : Value} {n : Nat} {xs : List Value} (h : w.ownsRow base e k v n xs) (hb : Below w.heap.size w w') : w'.ownsRow base e k v n xs := by
  refine ⟨h.1, ?_⟩
  rcases h.2 with hv | ⟨g, cap, cur, hv, hB, hg, h3⟩
  · exact .inl hv
  · exact .inr ⟨g, cap, cur, hv, hB, (hb.block g (lt_of_block hg)).trans hg, h3⟩
theorem read_str {H : Type} {enc : TypeId × Value → H} {W : World} {base : Nat} {sp : Nat → Bool} {held : Bool} (fuel : Nat) (cs : List Value) (x : DataW H × List MemPlace) (h : DataW.trod enc Tryd.prog W base sp held fuel 9 cs = some x) : ∃ r : ByteArray, cs = sC r ∧ r.size ≤ 9223372036854775807 := by
  obtain ⟨s, rfl, _, hs⟩ := DataW.trod_string Tryd.underlying9 h
  unfold maxLen at hs
  exact ⟨s, rfl, hs⟩
set_option maxRecDepth 100000 in
/-- an argument opened -/
theorem open_strs {H : Type} {enc : TypeId × Value → H} {W : World} {r : Reach} {base b0 : Nat} {sp : Nat → Bool} {held : Bool} {v : Value} {d : DataW H} {p : List MemPlace} (ho : Value.okWide Tryd.prog W r b0 23 v) (hd : DataW.Trod enc Tryd.prog W base sp held 23 v d p) :
    ∃ (a : Option Addr) (l : List ByteArray) (cap : Nat), v = .slice a l.length cap ∧ l.length ≤ cap ∧ cap ≤ 9223372036854775807 ∧ (∀ y ∈ l, y.size ≤ 9223372036854775807) ∧ SAt 1 sC W a l ∧ (l = [] ∨ ∃ elems spare, d = .slice elems spare ∧ elems.length = l.length) :=
  SAt.open_ (n := 1) (c := sC) (fun r : ByteArray => r.size ≤ 9223372036854775807) Tryd.underlying23 cells_str (by decide) sC_length read_str ho hd
/-- the cell of a slice of strings -/
theorem str_cell {w : World} {a : Option Addr} {l : List ByteArray} (h : SAt 1 sC w a l) (k : Nat) (hk : k < l.length) : ∃ g off, a = some ⟨g, off, none⟩ ∧ w.cell? ⟨g, off + k, none⟩ = some (.string l[k]) := by
  obtain ⟨g, off, e, _, hr⟩ := h k hk
  refine ⟨g, off, e, ?_⟩
  have := hr 0 (.string l[k]) rfl
  rwa [Nat.mul_one, Nat.add_zero] at this
end Go.Proofs.YtpfmfigommmjiaaDoor
