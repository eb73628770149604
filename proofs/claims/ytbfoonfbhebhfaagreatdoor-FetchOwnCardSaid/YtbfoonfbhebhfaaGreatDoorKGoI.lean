/- Joined: WalkNeed, WalkChange, WalkLaws. -/
import Derived.Test.YtbfoonfbhebhfaaGreatDoorKGoA
import Derived.Test.YtbfoonfbhebhfaaGreatDoorKGoD
namespace Go.Proofs.YtbfoonfbhebhfaaGreatDoor
open Go.RowKit Plain Go.Maps
set_option linter.unusedVariables false
set_option linter.unusedSimpArgs false
def ptsOf (ms : List MN) : List (List Nat) := ms.flatMap fun m => (idsN m).map idL
theorem ptsOf_nd (ms : List MN) : ptsOf ms = (ms.map ndOf).flatMap (·.2.2.2.2.2.1) := by
 unfold ptsOf
 rw [List.flatMap_map]
 rfl
def Nds (b : Bl) (id : List Nat) : Prop := b.1 = 2 ∧ ∃ ms, ROk b.2 ms ∧ id ∈ ptsOf ms
theorem nds_data (s : ByteArray) (id : List Nat) : ¬ Nds (dB s) id := fun h => by cases h.1
inductive OrdS : List Bl → Prop
 | nil : OrdS []
 | snoc {S : List Bl} {b : Bl} : OrdS S → (∀ id, Nds b id → ∃ c ∈ S, pidL c = id) → OrdS (S ++ [b])
theorem OrdS.append {S : List Bl} (h : OrdS S) : ∀ {R : List Bl}, OrdS R → OrdS (S ++ R) := by
 intro R g
 induction g with
 | nil => rwa [List.append_nil]
 | @snoc R b _ h2 ih =>
  rw [← List.append_assoc]
  refine .snoc ih fun id hid => ?_
  obtain ⟨c, hc, e⟩ := h2 id hid
  exact ⟨c, List.mem_append.2 (.inr hc), e⟩
theorem OrdS.data (l : List ByteArray) : OrdS (l.map dB) := by
 have key : ∀ (n : Nat) (l : List ByteArray), l.length = n → OrdS (l.map dB) := by
  intro n
  induction n with
  | zero => intro l h; rw [List.length_eq_zero_iff.1 h]; exact .nil
  | succ n ih =>
   intro l h
   have hne : l ≠ [] := by intro g; rw [g] at h; cases h
   rw [← List.dropLast_concat_getLast hne, List.map_append]
   exact .snoc (ih _ (by rw [List.length_dropLast]; omega)) fun id hid => absurd hid (nds_data _ _)
 exact key _ l rfl
end Go.Proofs.YtbfoonfbhebhfaaGreatDoor
namespace Go.Proofs.YtbfoonfbhebhfaaGreatDoor
open Go.RowKit Plain Go.Maps
set_option linter.unusedVariables false
set_option linter.unusedSimpArgs false
end Go.Proofs.YtbfoonfbhebhfaaGreatDoor
namespace Go.Proofs.YtbfoonfbhebhfaaGreatDoor
open Go.RowKit Plain Go.Maps
set_option linter.unusedVariables false
set_option linter.unusedSimpArgs false
theorem IdsOk.cons {l : List Bl} (h : IdsOk l) : Cons l := ⟨h.1, fun b hb c hc e => ids_inj h hb hc e⟩
theorem Planted.ids {y : Wy} {w : List It} {out : List Bl} {id : List Nat} (h : Planted y w out id) : IdsOk out := by
 obtain ⟨_, _, t, S, _, h3, _⟩ := h
 exact (addF_some h3).2.2 idsOk_nil
theorem Planted.len {y : Wy} {w : List It} {out : List Bl} {id : List Nat} (h : Planted y w out id) : w.length ≤ 100 := (tre_of h.2.1).2
theorem Planted.tellsL {y : Wy} {w : List It} {out : List Bl} {id : List Nat} (h : Planted y w out id) (ht : TmOk w) {l : List Bl} (hc : Cons l) (hs : ∀ b ∈ out, b ∈ l) : TellsW (lkL l) 8 [] id w := h.tells ht fun b hb => hc.lk (hs b hb)
def ddp (l : List (List Nat)) : List (List Nat) := l.foldl (fun o x => if x ∈ o then o else o ++ [x]) []
theorem ddp_snoc (l : List (List Nat)) (x : List Nat) : ddp (l ++ [x]) = if x ∈ ddp l then ddp l else ddp l ++ [x] := by
 unfold ddp
 rw [List.foldl_append]
 rfl
theorem ddp_nil : ddp [] = [] := rfl
theorem ddp_mem (x : List Nat) : ∀ (l : List (List Nat)), x ∈ ddp l ↔ x ∈ l := by
 intro l
 generalize hn : l.length = n
 induction n generalizing l with
 | zero => obtain rfl := List.eq_nil_of_length_eq_zero hn; simp [ddp_nil]
 | succ n ih =>
  have hne : l ≠ [] := fun e => by rw [e] at hn; cases hn
  rw [← List.dropLast_concat_getLast hne, ddp_snoc]
  have h1 := ih l.dropLast (by rw [List.length_dropLast]; omega)
  generalize l.dropLast = m at *
  generalize l.getLast hne = z at *
  by_cases hz : z ∈ ddp m
  ·
   rw [if_pos hz]
   by_cases e : x = z
   ·
    subst e; simp [hz]
   ·
    simp [h1, e]
  ·
   rw [if_neg hz]
   simp [h1]
open Classical in
noncomputable def ndF (b : Bl) : List (List Nat) := if h : b.1 = 2 ∧ ∃ ms, ROk b.2 ms then ddp (ptsOf h.2.choose) else []
theorem ndF_of {t : ByteArray} {ms : List MN} (h : ROk t ms) : ndF (2, t) = ddp (ptsOf ms) := by
 unfold ndF
 have hx : ((2 : Int), t).1 = 2 ∧ ∃ ms, ROk ((2 : Int), t).2 ms := ⟨rfl, ms, h⟩
 rw [dif_pos hx, ptsOf_nd, ptsOf_nd, hx.2.choose_spec.same h]
theorem ndF_data {b : Bl} (h : b.1 ≠ 2) : ndF b = [] := by
 unfold ndF
 rw [dif_neg (fun g => h g.1)]
end Go.Proofs.YtbfoonfbhebhfaaGreatDoor
