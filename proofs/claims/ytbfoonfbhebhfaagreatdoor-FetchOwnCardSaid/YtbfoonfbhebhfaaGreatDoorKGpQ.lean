/- Joined: FetchOwnO. -/
import Derived.Test.YtbfoonfbhebhfaaGreatDoorKGnU
import Derived.Test.YtbfoonfbhebhfaaGreatDoorKGnB
import Derived.Deep.Slices
import Derived.ChangeArms
namespace Go.Proofs.YtbfoonfbhebhfaaGreatDoor
open Go.RowKit Go.ChangeShapes Go.WideShapes Go.ChangeAt Plain
set_option linter.unusedVariables false
set_option linter.unusedSimpArgs false
theorem len_wtF {H : Type} {P : Program} {t e : TypeId} {k : Nat} {d : DataW H} {n : Nat} (ht : P.underlying t = some (.slice e)) (hn : P.bytesOf e = n) (h : k = 0 ∨ ∃ elems spare, d = .slice elems spare ∧ elems.length = k) (hw : ∀ q ∈ d.weights P t, q ≤ reachBytes) : k * n ≤ reachBytes := by
 rcases h with rfl | ⟨e', s, rfl, h⟩
 ·
  simp
 ·
  have := hw ((e'.length + s.length) * P.bytesOf e) (by simp only [DataW.weights, ht]; exact List.mem_cons_self)
  rw [hn, Nat.add_mul, h] at this
  omega
theorem slice_lenF {w : World} {H : Type} {P : Program} {enc : TypeId × Value → H} {base : Nat} {sp : Nat → Bool} {held : Bool} {t e : TypeId} {d : DataW H} {p : List MemPlace} {a : Option Addr} {n c : Nat} (ht : P.underlying t = some (.slice e)) (hd : DataW.Trod enc P w base sp held t (.slice a n c) d p) : n = 0 ∨ ∃ elems spare, d = .slice elems spare ∧ elems.length = n := by
 obtain ⟨fuel, hf⟩ := hd
 rcases Go.Deep.open_slice ht hf with ⟨hcs, _⟩ | ⟨a', len, cap, m, k, D, Pl, hcs, _, hl, hm, hmm, hxd, hx⟩
 ·
  simp only [Value.cells, List.cons.injEq, and_true, Value.slice.injEq] at hcs
  exact .inl hcs.2.1
 ·
  simp only [Value.cells, List.cons.injEq, and_true, Value.slice.injEq] at hcs
  obtain ⟨rfl, rfl, rfl⟩ := hcs
  exact .inr ⟨_, _, congrArg Prod.fst hxd, by simp⟩
theorem reach_is : reachBytes = 140737488351232 := rfl
end Go.Proofs.YtbfoonfbhebhfaaGreatDoor
