/- Joined: WalkNeed, WalkChange, WalkLaws. -/
import Derived.Test.YtbfoonfbhebhfaaGreatDoorKGoA
import Derived.Test.YtbfoonfbhebhfaaGreatDoorKGoD
namespace Go.Proofs.YtbfoonfbhebhfaaGreatDoor
open Go.RowKit Plain Go.Maps
set_option linter.unusedVariables false
set_option linter.unusedSimpArgs false
def ptsOf (ms : List MN) : List (List Nat) := ms.flatMap fun m => (idsN m).map idL
def Nds (b : Bl) (id : List Nat) : Prop := b.1 = 2 ∧ ∃ ms, ROk b.2 ms ∧ id ∈ ptsOf ms
theorem nds_data (s : ByteArray) (id : List Nat) : ¬ Nds (dB s) id := fun h => by cases h.1
inductive OrdS : List Bl → Prop
 | nil : OrdS []
 | snoc {S : List Bl} {b : Bl} : OrdS S → (∀ id, Nds b id → ∃ c ∈ S, pidL c = id) → OrdS (S ++ [b])
theorem OrdS.append {S : List Bl} (h : OrdS S) : ∀ {R : List Bl}, OrdS R → OrdS (S ++ R) := by
 intro R g
 induction g with
 | nil => rwa [List.append_nil]
 | @snoc R b _ h2 ih =>
  rw [← List.append_assoc]
  refine .snoc ih fun id hid => ?_
  obtain ⟨c, hc, e⟩ := h2 id hid
  exact ⟨c, List.mem_append.2 (.inr hc), e⟩
theorem OrdS.data (l : List ByteArray) : OrdS (l.map dB) := by
 have key : ∀ (n : Nat) (l : List ByteArray), l.length = n → OrdS (l.map dB) := by
  intro n
  induction n with
  | zero => intro l h; rw [List.length_eq_zero_iff.1 h]; exact .nil
  | succ n ih =>
   intro l h
   have hne : l ≠ [] := by intro g; rw [g] at h; cases h
   rw [← List.dropLast_concat_getLast hne, List.map_append]
   exact .snoc (ih _ (by rw [List.length_dropLast]; omega)) fun id hid => absurd hid (nds_data _ _)
 exact key _ l rfl
end Go.Proofs.YtbfoonfbhebhfaaGreatDoor
namespace Go.Proofs.YtbfoonfbhebhfaaGreatDoor
open Go.RowKit Plain Go.Maps
set_option linter.unusedVariables false
set_option linter.unusedSimpArgs false
end Go.Proofs.YtbfoonfbhebhfaaGreatDoor
namespace Go.Proofs.YtbfoonfbhebhfaaGreatDoor
open Go.RowKit Plain Go.Maps
set_option linter.unusedVariables false
set_option linter.unusedSimpArgs false
theorem IdsOk.cons {l : List Bl} (h : IdsOk l) : Cons l := ⟨h.1, fun b hb c hc e => ids_inj h hb hc e⟩
theorem Planted.ids {y : Wy} {w : List It} {out : List Bl} {id : List Nat} (h : Planted y w out id) : IdsOk out := by
 obtain ⟨_, _, t, S, _, h3, _⟩ := h
 exact (addF_some h3).2.2 idsOk_nil
theorem Planted.tellsL {y : Wy} {w : List It} {out : List Bl} {id : List Nat} (h : Planted y w out id) (ht : TmOk w) {l : List Bl} (hc : Cons l) (hs : ∀ b ∈ out, b ∈ l) : TellsW (lkL l) 8 [] id w := h.tells ht fun b hb => hc.lk (hs b hb)
end Go.Proofs.YtbfoonfbhebhfaaGreatDoor
