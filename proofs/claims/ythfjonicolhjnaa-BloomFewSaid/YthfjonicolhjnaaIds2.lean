/- How long a slice of names may be. -/
import Derived.Test.YthfjonicolhjnaaIds
import Derived.SizedLaws
namespace Go.Proofs.Ythfjonicolhjnaa
open Go.RowKit Go.ChangeShapes Go.WideShapes Go.ChangeAt Plain
theorem slice_len {H : Type} {P : Program} {enc : TypeId × Value → H} {W : World} {base : Nat} {sp : Nat → Bool} {held : Bool} {t e : TypeId} {v : Value} {d : DataW H} {p : List MemPlace} (ht : P.underlying t = some (.slice e))
    (hd : DataW.Trod enc P W base sp held t v d p) (a : Option Addr) (n cap : Nat) (hv : v = .slice a n cap) : n = 0 ∨ ∃ elems spare, d = .slice elems spare ∧ elems.length = n := by
  subst hv
  obtain ⟨fuel, hf⟩ := hd
  rcases Go.Deep.open_slice ht hf with ⟨hcs, _⟩ | ⟨a', len', cap', m, k, D, Pl, hcs, _, hl, hm, hmm, hx0, hx⟩
  · simp [Value.cells] at hcs
    exact .inl hcs.2.1
  · simp [Value.cells] at hcs hx0
    obtain ⟨rfl, rfl, rfl⟩ := hcs
    exact .inr ⟨_, _, hx0.1, by simp⟩
theorem slice_bound {H : Type} {P : Program} {enc : TypeId × Value → H} {W : World} {base : Nat} {sp : Nat → Bool} {held : Bool} {t e : TypeId} {v : Value} {d : DataW H} {p : List MemPlace} {ts : List TypeId} {ds : List (DataW H)} (ht : P.underlying t = some (.slice e))
    (hd : DataW.Trod enc P W base sp held t v d p) (h : (DataW.weightsEach P ts ds).all (· ≤ reachBytes) = true) (j : Nat) (htj : ts[j]? = some t) (hdj : ds[j]? = some d) (hb : 1 ≤ P.bytesOf e) (a : Option Addr) (n cap : Nat) (hv : v = .slice a n cap) :
    n ≤ 140737488351232 := by
  rcases slice_len ht hd a n cap hv with rfl | ⟨elems, spare, rfl, hn⟩
  · omega
  · have := sized_slice h htj hdj ht
    have h2 : (elems.length + spare.length) * 1 ≤ (elems.length + spare.length) * P.bytesOf e := Nat.mul_le_mul_left _ hb
    unfold reachBytes at this
    omega
end Go.Proofs.Ythfjonicolhjnaa
