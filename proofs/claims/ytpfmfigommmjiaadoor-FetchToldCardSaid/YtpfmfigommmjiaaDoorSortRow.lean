/- A row of the call's own handed to slices.SortFunc: how it holds its elements, and how it is owned behind the sort. -/
import Derived.Test.YtpfmfigommmjiaaDoorFtB
import Derived.Lib.OwnBridge
import Derived.Shelf.GgSortFunc.InsertionK
import Derived.Shelf.SlSortFuncK.RowK2
namespace Go.Proofs.YtpfmfigommmjiaaDoor
open Go.RowKit Go.Sort
variable {α : Type} [Inhabited α] {k : Nat} {c : α → List Value} {w w0 : World} {base g cap : Nat} {T : TypeId} {l : List α}
theorem flatK_flat (hc : ∀ y, (c y).length = k) (d : Array α) : (flatK c k d).toList = d.toList.flatMap c := by
  apply List.ext_getElem?
  intro t
  rcases Nat.lt_or_ge t (d.size * k) with h | h
  · have k0 : 0 < k := by
      rcases Nat.eq_zero_or_pos k with e | e
      · subst e; simp at h
      · exact e
    have hi : t / k < d.toList.length := by
      rw [Array.length_toList]
      exact Nat.div_lt_of_lt_mul (by rw [Nat.mul_comm]; exact h)
    have hj : t % k < k := Nat.mod_lt _ k0
    have e1 := flat_get hc d.toList (t / k) (t % k) hi hj
    have e2 : t / k * k + t % k = t := by rw [Nat.mul_comm]; exact Nat.div_add_mod t k
    rw [e2] at e1
    have e3 := get_flatK c k d t h
    have hs : t < (flatK c k d).size := by rw [size_flatK]; exact h
    rw [e1, Array.getElem?_toList, Array.getElem?_eq_getElem hs]
    rw [getElem!_pos _ t hs] at e3
    have hi' : t / k < d.size := by simpa using hi
    rw [e3, getElem!_pos d (t / k) hi', Array.getElem_toList]
    have hj' : t % k < (c d[t / k]).length := by rw [hc]; exact hj
    rw [getElem!_pos (c d[t / k]) (t % k) hj', List.getElem?_eq_getElem hj']
  · rw [List.getElem?_eq_none (by rw [Array.length_toList, size_flatK]; exact h), List.getElem?_eq_none (by rw [flat_length hc, Array.length_toList]; exact h)]
omit [Inhabited α] in
theorem own_block (h : w.ownsRow base T k (.slice (some ⟨g, 0, none⟩) l.length cap) l.length (l.flatMap c)) : base ≤ g ∧ g < w.heap.size ∧ l.length ≤ cap ∧ cap ≤ 9223372036854775807 ∧ ∃ cur, w.heap[g]? = some (.cells cur T (0, 0)) ∧ cur.size = cap * k ∧ cur.toList.take (l.length * k) = l.flatMap c := by
  rcases h.2 with ⟨e0, _⟩ | ⟨g', cap', cur, e0, hb, hg, hn, hm, hs, ht⟩
  · cases e0
  · injection e0 with e1 _ e3
    injection e1 with e1
    injection e1 with e1
    subst e1
    subst e3
    exact ⟨hb, lt_of_block hg, hn, by unfold maxLen at hm; exact hm, cur, hg, hs, ht⟩
theorem holdsK_own (hc : ∀ y, (c y).length = k) (h : w.ownsRow base T k (.slice (some ⟨g, 0, none⟩) l.length cap) l.length (l.flatMap c)) : HoldsK c k w g 0 l.toArray := by
  obtain ⟨_, hlt, hn, _, cur, hg, hs, ht⟩ := own_block h
  intro j hj
  have hj' : j < l.length * k := by simpa using hj
  refine ⟨?_, frozen_of_row _ _ _ _ _ hg⟩
  have e := flatK_flat hc l.toArray
  have e2 : (flatK c k l.toArray).toList[j]? = cur.toList[j]? := by
    rw [e, ← ht, List.getElem?_take, if_pos hj']
  rw [Nat.zero_add, cell_of_row _ _ _ _ _ _ hg, ← Array.getElem?_toList, ← e2, Array.getElem?_toList, Array.getElem?_eq_getElem (by rw [size_flatK]; simpa using hj')]
  rw [getElem!_pos (flatK c k l.toArray) j (by rw [size_flatK]; simpa using hj')]
  rfl
theorem own_sortK (hc : ∀ y, (c y).length = k) (h : w.ownsRow base T k (.slice (some ⟨g, 0, none⟩) l.length cap) l.length (l.flatMap c)) (m : Nat) (l' : List α) (hl : l'.length = l.length) (os : Array Obj) :
    (Proofs.sortWorldK c k w g 0 m l'.toArray os).ownsRow base T k (.slice (some ⟨g, 0, none⟩) l'.length cap) l'.length (l'.flatMap c) := by
  obtain ⟨hb, hlt, hn, hm, cur, hg, hs, ht⟩ := own_block h
  refine ⟨flat_length hc l', .inr ⟨g, cap, putCells id 0 (flatK c k l'.toArray) cur, rfl, hb, ?_, by omega, by unfold maxLen; exact hm, by simpa [putCells] using hs, ?_⟩⟩
  · unfold Proofs.sortWorldK
    have e : (putRowK c k (Sort.ahead w m) g 0 l'.toArray).heap[g]? = some (.cells (putCells id 0 (flatK c k l'.toArray) cur) T (0, 0)) := by
      simp [putRowK, putRow, mapBlock, Sort.ahead, Array.getElem?_modify, hg, onCells]
    show ((putRowK c k (Sort.ahead w m) g 0 l'.toArray).heap ++ os)[g]? = _
    rw [Array.getElem?_append_left (lt_of_block e), e]
  · have e := flatK_flat hc l'.toArray
    have hcap : l'.length * k ≤ cap * k := Nat.mul_le_mul_right _ (by omega)
    apply List.ext_getElem?
    intro j
    rw [List.getElem?_take, Array.getElem?_toList]
    by_cases hj : j < l'.length * k
    · rw [if_pos hj]
      simp only [putCells, Array.getElem?_mapIdx, Array.getElem?_eq_getElem (show j < cur.size by omega), Option.map_some]
      have hj2 : j < (flatK c k l'.toArray).size := by rw [size_flatK]; simpa using hj
      rw [if_pos (by omega), Nat.sub_zero, getElem!_pos (flatK c k l'.toArray) j hj2]
      have e' : l'.flatMap c = (flatK c k l'.toArray).toList := by rw [e]
      rw [e', Array.getElem?_toList, Array.getElem?_eq_getElem hj2]
      rfl
    · rw [if_neg hj, List.getElem?_eq_none (by rw [flat_length hc]; omega)]
theorem below_sortK {B : Nat} (h : Below B w0 w) (hg : B ≤ g) (hgw : g < w.heap.size) (m : Nat) (d : Array α) (os : Array Obj) : Below B w0 (Proofs.sortWorldK c k w g 0 m d os) := by
  have h1 : Below B w0 (putRowK c k (Sort.ahead w m) g 0 d) := Lib.below_putRow h hg
  refine ⟨h1.os, h1.tape, h1.output, Nat.le_trans h1.size (by show _ ≤ ((putRowK c k (Sort.ahead w m) g 0 d).heap ++ os).size; simp), fun j hj => ?_⟩
  rw [← h1.block j hj]
  show ((putRowK c k (Sort.ahead w m) g 0 d).heap ++ os)[j]? = _
  have hs : (putRowK c k (Sort.ahead w m) g 0 d).heap.size = w.heap.size := by simp [putRowK, putRow, mapBlock, Sort.ahead]
  rw [Array.getElem?_append_left (by omega)]
end Go.Proofs.YtpfmfigommmjiaaDoor
