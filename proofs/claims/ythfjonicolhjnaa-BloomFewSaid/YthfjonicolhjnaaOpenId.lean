/- An array of bytes by value that came in, and its names. -/
import Derived.Test.YthfjonicolhjnaaOpenArr
import Derived.Test.YthfjonicolhjnaaBloomCalls
namespace Go.Proofs.Ythfjonicolhjnaa
open Go.RowKit Go.ChangeShapes Go.WideShapes Go.ChangeAt Plain
theorem open_bytes_arr {H : Type} {P : Program} {enc : TypeId × Value → H} {W : World} {base : Nat} {sp : Nat → Bool} {held : Bool} {r : Reach} {b0 : Nat} {t e : TypeId} {n : Nat} {v : Value} {d : DataW H} {p : List MemPlace}
    (ht : P.underlying t = some (.array n e)) (he : P.underlying e = some (.int .u8)) (hc : P.cellsOf e = 1) (hn : P.cellsOf t = n) (ho : Value.okWide P W r b0 t v) (hd : DataW.Trod enc P W base sp held t v d p) :
    ∃ l : List Nat, v = .agg (idC l) ∧ l.length = n ∧ ∀ c ∈ l, c < 256 := by
  obtain ⟨zs, rfl, hl, hw⟩ := open_ints_arr ht he hc hn ho hd
  have hb : ∀ z ∈ zs, 0 ≤ z ∧ z < 256 := fun z hz => by
    have := hw z hz
    have hx : 0 ≤ z ∧ z ≤ 255 := by simpa [Lit.wf, IntKind.min, IntKind.max, IntKind.signed, IntKind.bits] using this
    omega
  refine ⟨zs.map Int.toNat, ?_, by simpa using hl, ?_⟩
  · unfold idC
    congr 2
    rw [List.map_map]
    apply List.map_congr_left
    intro z hz
    have := hb z hz
    simp only [Function.comp]
    congr 1
    omega
  · intro c hc'
    simp only [List.mem_map] at hc'
    obtain ⟨z, hz, rfl⟩ := hc'
    have := hb z hz
    omega
theorem open_bloom {H : Type} {enc : TypeId × Value → H} {W : World} {base : Nat} {sp : Nat → Bool} {held : Bool} {r : Reach} {b0 : Nat} {v : Value} {d : DataW H} {p : List MemPlace}
    (ho : Value.okWide Try.prog W r b0 24 v) (hd : DataW.Trod enc Try.prog W base sp held 24 v d p) : ∃ l : List Nat, v = .agg (uC l) ∧ IsB l := by
  obtain ⟨l, rfl, h1, h2⟩ := open_words_arr Try.underlying24 Try.underlying22 (by kernel_rfl) (by kernel_rfl) ho hd
  exact ⟨l, rfl, h1, h2⟩
theorem open_id {H : Type} {enc : TypeId × Value → H} {W : World} {base : Nat} {sp : Nat → Bool} {held : Bool} {r : Reach} {b0 : Nat} {v : Value} {d : DataW H} {p : List MemPlace}
    (ho : Value.okWide Try.prog W r b0 27 v) (hd : DataW.Trod enc Try.prog W base sp held 27 v d p) : ∃ l : List Nat, v = .agg (idC l) ∧ l.length = 8 ∧ ∀ c ∈ l, c < 256 :=
  open_bytes_arr Try.underlying27 Try.underlying5 (by kernel_rfl) (by kernel_rfl) ho hd
end Go.Proofs.Ythfjonicolhjnaa
