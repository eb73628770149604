/- Lists of places and entries that came in, bounded by what they weigh. -/
import Derived.Test.YtinjnclpiiohcaaEnOpen
namespace Go.Proofs.Ytinjnclpiiohcaa
open Go.RowKit Go.ChangeShapes Go.WideShapes Go.ChangeAt Plain
theorem len_wtP {H : Type} {P : Program} {t e : TypeId} {α : Type} {l : List α} {d : DataW H} {n : Nat} (ht : P.underlying t = some (.slice e)) (hn : P.bytesOf e = n) (h : l = [] ∨ ∃ elems spare, d = .slice elems spare ∧ elems.length = l.length) (hw : ∀ q ∈ d.weights P t, q ≤ reachBytes) : l.length * n ≤ reachBytes := by
  rcases h with rfl | ⟨e', s, rfl, h⟩
  · simp
  · have := hw ((e'.length + s.length) * P.bytesOf e) (by simp only [DataW.weights, ht]; exact List.mem_cons_self)
    rw [hn, Nat.add_mul, h] at this
    omega
set_option maxRecDepth 100000 in
theorem open_placesW {H : Type} {enc : TypeId × Value → H} {W : World} {r : Reach} {base b0 : Nat} {sp : Nat → Bool} {held : Bool} {v : Value} {d : DataW H} {p : List MemPlace} (ho : Value.okWide Try.prog W r b0 63 v) (hd : DataW.Trod enc Try.prog W base sp held 63 v d p) (hw : ∀ q ∈ d.weights Try.prog 63, q ≤ reachBytes) :
    ∃ (a : Option Addr) (l : List Pl) (cap : Nat), v = .slice a l.length cap ∧ l.length ≤ 3518437208780 ∧ (∀ t ∈ l, ∀ c ∈ idL t.1, c < 256) ∧ SAt 12 plC W a l := by
  obtain ⟨a, l, cap, rfl, h1, h2, h3, h4, h5⟩ := SAt.open_ (n := 12) (c := plC) (fun t : Pl => ∀ c ∈ idL t.1, c < 256) Try.underlying63 cells_pl (by decide) plC_length read_pl ho hd
  have h6 := len_wtP (n := 40) Try.underlying63 (by kernel_rfl) h5 hw
  unfold reachBytes at h6
  exact ⟨a, l, cap, rfl, by omega, h3, h4⟩
set_option maxRecDepth 100000 in
theorem open_entriesW {H : Type} {enc : TypeId × Value → H} {W : World} {r : Reach} {base b0 : Nat} {sp : Nat → Bool} {held : Bool} {v : Value} {d : DataW H} {p : List MemPlace} (ho : Value.okWide Try.prog W r b0 74 v) (hd : DataW.Trod enc Try.prog W base sp held 74 v d p) (hw : ∀ q ∈ d.weights Try.prog 74, q ≤ reachBytes) :
    ∃ (a : Option Addr) (l : List En) (cap : Nat), v = .slice a l.length cap ∧ l.length ≤ 4398046511110 ∧ (∀ t ∈ l, ∀ c ∈ idL t.1, c < 256) ∧ SAt 11 enC W a l := by
  obtain ⟨a, l, cap, rfl, h1, h2, h3, h4, h5⟩ := SAt.open_ (n := 11) (c := enC) (fun t : En => ∀ c ∈ idL t.1, c < 256) Try.underlying74 cells_en (by decide) enC_length read_en ho hd
  have h6 := len_wtP (n := 32) Try.underlying74 (by kernel_rfl) h5 hw
  unfold reachBytes at h6
  exact ⟨a, l, cap, rfl, by omega, h3, h4⟩
end Go.Proofs.Ytinjnclpiiohcaa
