/- Rows that are filled in place: what an append into room leaves. -/
import Derived.Test.YtpfmfigommmjiaaDoorFtB
import Derived.Test.YtpfmfigommmjiaaDoorFtC
import Derived.Lib.JoinLaws
import Derived.Laws.MakeOwn
namespace Go.Proofs.YtpfmfigommmjiaaDoor
open Go.RowKit
set_option linter.unusedVariables false
theorem src_sat {α : Type} {P : Program} {size : Nat} {cf : α → List Value} {w : World} {a : Option Addr} {l : List α} {tx e : TypeId} (hk : P.underlying tx = some (.slice e)) (hsz : 0 < size) (hc : ∀ y, (cf y).length = size) (h1 : ∀ y, ∀ u ∈ cf y, u.oneCell' = true) (h : SAt size cf w a l) (c : Nat) : Src P size tx (.slice a l.length c) l.length (l.flatMap cf) w := by
  by_cases hl : l = []
  · subst hl
    cases a with
    | none => exact Src.ofNil w hk c
    | some ad => exact Src.ofSlice w hk ad 0 c [] (by simp) (by simp) (by simp)
  · obtain ⟨g, off, rfl, _⟩ := h 0 (by have := List.length_pos_iff.2 hl; omega)
    exact Src.ofSlice w hk ⟨g, off, none⟩ l.length c (l.flatMap cf) (flat_length hc l) (sat_cells hsz hc h) (fun u hu => by
      obtain ⟨y, _, hy⟩ := List.mem_flatMap.1 hu
      exact h1 y u hy)
theorem row_mid {w : World} {g : Nat} {t : TypeId} (xs ys zs news : List Value) (h : w.heap[g]? = some (.cells (xs ++ ys ++ zs).toArray t (0, 0))) (hl : ys.length = news.length) : (w.setCells g xs.length news).heap[g]? = some (.cells (xs ++ news ++ zs).toArray t (0, 0)) := by
  obtain ⟨cs, h1, h2, h3⟩ := heap_setCells g t news xs.length w _ h
  rw [h1]
  congr 2
  apply Array.ext_getElem?
  intro i
  rw [h3]
  simp only [List.getElem?_toArray, List.size_toArray, List.length_append]
  by_cases c1 : i < xs.length
  · rw [if_neg (by omega), List.append_assoc, List.append_assoc, List.getElem?_append_left c1, List.getElem?_append_left c1]
  · by_cases c2 : i < xs.length + news.length
    · rw [if_pos (by omega), List.getElem?_append_left (by rw [List.length_append]; omega), List.getElem?_append_right (by omega)]
    · rw [if_neg (by omega), List.getElem?_append_right (by rw [List.length_append]; omega), List.getElem?_append_right (by rw [List.length_append]; omega), List.length_append, List.length_append, hl]
theorem row_is {w : World} {g : Nat} {t : TypeId} {cs : Array Value} (h : w.heap[g]? = some (.cells cs t (0, 0))) (o n : Nat) (hn : o + n ≤ cs.size) : (∀ j, j < n → (w.cell? ⟨g, o + j, none⟩).isSome = true) ∧ ∀ j, j < n → w.frozen? ⟨g, o + j, none⟩ = false := by
  refine ⟨fun j hj => ?_, fun j hj => frozen_of_row _ _ _ _ _ h⟩
  rw [cell_of_row _ _ _ _ _ _ h, Array.getElem?_eq_getElem (by omega)]
  rfl
/-- a slice that came of ample: its elements, two to fill, room for one more -/
def Amp {α : Type} (c : α → List Value) (z : List Value) (t : TypeId) (w : World) (g : Nat) (l : List α) (f : α) : Prop := w.heap[g]? = some (.cells (l.flatMap c ++ (c f ++ c f) ++ z).toArray t (0, 0))
theorem Amp.below {α : Type} {c : α → List Value} {z : List Value} {t : TypeId} {w w' : World} {g : Nat} {l : List α} {f : α} (h : Amp c z t w g l f) (hb : Below w.heap.size w w') : Amp c z t w' g l f := (hb.block _ (lt_of_block h)).trans h
theorem Amp.sat {α : Type} {c : α → List Value} {z : List Value} {t : TypeId} {w : World} {g n : Nat} {l : List α} {f : α} (h : Amp c z t w g l f) (hc : ∀ y, (c y).length = n) : SAt n c w (some ⟨g, 0, none⟩) l := fun i hi => by
  refine ⟨g, 0, rfl, lt_of_block h, fun j u hu => ?_⟩
  have hj : j < n := by
    rcases Nat.lt_or_ge j n with h | h
    · exact h
    · rw [List.getElem?_eq_none (by rw [hc]; exact h)] at hu; cases hu
  have hlt : i * n + j < l.length * n := by
    have : (i + 1) * n ≤ l.length * n := Nat.mul_le_mul_right _ hi
    rw [Nat.succ_mul] at this
    omega
  rw [Nat.zero_add, cell_of_row _ _ _ _ _ _ h, List.getElem?_toArray, List.append_assoc, List.getElem?_append_left (by rw [flat_length hc]; exact hlt), flat_get hc l i j hi hj]
  exact hu
theorem Amp.fill {α : Type} {c : α → List Value} {z : List Value} {t : TypeId} {w : World} {g n : Nat} {l : List α} {f : α} (h : Amp c z t w g l f) (hc : ∀ y, (c y).length = n) (k j : Nat) (hk : k < 2) (hj : j < n) : w.cell? ⟨g, (l.length + k) * n + j, none⟩ = (c f)[j]? := by
  have hle : (l.length + k) * n + j = l.length * n + (k * n + j) := by rw [Nat.add_mul, Nat.add_assoc]
  have hkn : k * n + j < 2 * n := by
    have : (k + 1) * n ≤ 2 * n := Nat.mul_le_mul_right _ hk
    rw [Nat.succ_mul] at this
    omega
  rw [cell_of_row _ _ _ _ _ _ h, List.getElem?_toArray, hle, List.append_assoc, List.getElem?_append_right (by rw [flat_length hc]; omega), flat_length hc, Nat.add_sub_cancel_left, List.getElem?_append_left (by rw [List.length_append, hc]; omega)]
  match k, hk with
  | 0, _ => rw [Nat.zero_mul, Nat.zero_add, List.getElem?_append_left (by rw [hc]; exact hj)]
  | 1, _ => rw [Nat.one_mul, List.getElem?_append_right (by rw [hc]; omega), hc, Nat.add_sub_cancel_left]
end Go.Proofs.YtpfmfigommmjiaaDoor
