/- Joined: BlOpen, BlOpenU. -/
import Derived.Test.YtbfoonfbhebhfaaGreatDoorKGnU
import Derived.Test.YtbfoonfbhebhfaaGreatDoorKGnB
import Derived.Deep.Slices
import Derived.ChangeArms
import Derived.Test.YtbfoonfbhebhfaaGreatDoorKGnE
namespace Go.Proofs.YtbfoonfbhebhfaaGreatDoor
open Go.RowKit Go.ChangeShapes Go.WideShapes Go.ChangeAt Plain
end Go.Proofs.YtbfoonfbhebhfaaGreatDoor
namespace Go.Proofs.YtbfoonfbhebhfaaGreatDoor
open Go.RowKit Go.ChangeShapes Go.WideShapes Go.ChangeAt Plain
theorem upto_oneW {H : Type} (d : DataW H) : 1 ≤ Rows.uptoBulk d := by
 cases d with
 | lit l => cases l <;> simp [Rows.uptoBulk]
 | _ => simp [Rows.uptoBulk]
theorem upto_lenW {H : Type} : ∀ l : List (DataW H), l.length ≤ Rows.uptoBulkAll l
 | [] => Nat.zero_le _
 | d :: l => by
  have := upto_lenW l
  have := upto_oneW d
  simp only [List.length_cons, Rows.uptoBulkAll]
  omega
theorem open_lenW {H : Type} {enc : TypeId × Value → H} {P : Program} {W : World} {base : Nat} {sp : Nat → Bool} {held : Bool} {t e : TypeId} {a : Option Addr} {n c : Nat} {d : DataW H} {p : List MemPlace} (ht : P.underlying t = some (.slice e)) (hd : DataW.Trod enc P W base sp held t (.slice a n c) d p) : n ≤ Rows.uptoBulk d := by
 obtain ⟨fuel, hf⟩ := hd
 rcases Go.Deep.open_slice ht hf with ⟨hcs, _⟩ | ⟨a', len, cap, m, k, D, Pl, hcs, _, hl, hm, hmm, hxd, hx⟩
 ·
  simp only [Value.cells, List.cons.injEq, and_true, Value.slice.injEq] at hcs
  obtain ⟨rfl, rfl, rfl⟩ := hcs
  exact Nat.zero_le _
 ·
  simp only [Value.cells, List.cons.injEq, and_true, Value.slice.injEq] at hcs
  obtain ⟨rfl, rfl, rfl⟩ := hcs
  have hdd : d = .slice ((List.range n).map D) ((List.range (m - n)).map fun j => D (n + j)) := congrArg Prod.fst hxd
  have h1 := upto_lenW ((List.range n).map D)
  rw [List.length_map, List.length_range] at h1
  rw [hdd]
  simp only [Rows.uptoBulk]
  omega
end Go.Proofs.YtbfoonfbhebhfaaGreatDoor
