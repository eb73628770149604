/- Tokens and ints that came in, bounded by what they weigh. -/
import Derived.Test.YtaipojclfpgaaaaLzOpen
import Derived.Test.YtaipojclfpgaaaaInts
namespace Go.Proofs.Ytaipojclfpgaaaa
open Go.RowKit Go.ChangeShapes Go.WideShapes Go.ChangeAt Plain
theorem len_wtT {H : Type} {P : Program} {t e : TypeId} {α : Type} {l : List α} {d : DataW H} {n : Nat} (ht : P.underlying t = some (.slice e)) (hn : P.bytesOf e = n) (h : l = [] ∨ ∃ elems spare, d = .slice elems spare ∧ elems.length = l.length) (hw : ∀ q ∈ d.weights P t, q ≤ reachBytes) : l.length * n ≤ reachBytes := by
  rcases h with rfl | ⟨e', s, rfl, h⟩
  · simp
  · have := hw ((e'.length + s.length) * P.bytesOf e) (by simp only [DataW.weights, ht]; exact List.mem_cons_self)
    rw [hn, Nat.add_mul, h] at this
    omega
set_option maxRecDepth 100000 in
theorem open_toksW {H : Type} {enc : TypeId × Value → H} {W : World} {r : Reach} {base b0 : Nat} {sp : Nat → Bool} {held : Bool} {v : Value} {d : DataW H} {p : List MemPlace} (ho : Value.okWide Try.prog W r b0 55 v) (hd : DataW.Trod enc Try.prog W base sp held 55 v d p) (hw : ∀ q ∈ d.weights Try.prog 55, q ≤ reachBytes) :
    ∃ (a : Option Addr) (l : List Tok) (cap : Nat), v = .slice a l.length cap ∧ l.length ≤ 5864062014634 ∧ (∀ t ∈ l, t.1 < 256) ∧ SAt 3 tC W a l := by
  obtain ⟨a, l, cap, rfl, h1, h2, h3, h4, h5⟩ := SAt.open_ (n := 3) (c := tC) (fun t : Tok => t.1 < 256) Try.underlying55 cells_tok (by decide) tC_length read_tok ho hd
  have h6 := len_wtT (n := 24) Try.underlying55 (by kernel_rfl) h5 hw
  unfold reachBytes at h6
  exact ⟨a, l, cap, rfl, by omega, h3, h4⟩
set_option maxRecDepth 100000 in
theorem open_intsW {H : Type} {enc : TypeId × Value → H} {W : World} {r : Reach} {base b0 : Nat} {sp : Nat → Bool} {held : Bool} {v : Value} {d : DataW H} {p : List MemPlace} (ho : Value.okWide Try.prog W r b0 22 v) (hd : DataW.Trod enc Try.prog W base sp held 22 v d p) (hw : ∀ q ∈ d.weights Try.prog 22, q ≤ reachBytes) :
    ∃ (a : Option Addr) (l : List Int) (cap : Nat), v = .slice a l.length cap ∧ l.length ≤ 17592186043904 ∧ SAt 1 iC W a l := by
  obtain ⟨a, l, cap, rfl, h1, h2, h3, h4, h5⟩ := SAt.open_ (n := 1) (c := iC) (fun n : Int => I64 n) Try.underlying22 cells_int (by decide) iC_length read_int ho hd
  have h6 := len_wtT (n := 8) Try.underlying22 (by kernel_rfl) h5 hw
  unfold reachBytes at h6
  exact ⟨a, l, cap, rfl, by omega, h4⟩
end Go.Proofs.Ytaipojclfpgaaaa
