/- Stores into a row of the call's own: what it owns behind them. -/
import Derived.Test.YtpfmfigommmjiaaDoorSortRow
import Derived.Test.YtpfmfigommmjiaaDoorFtC
namespace Go.Proofs.YtpfmfigommmjiaaDoor
open Go.RowKit
set_option linter.unusedVariables false
set_option linter.unusedSimpArgs false
section
variable {α : Type} {k : Nat} {c : α → List Value} {w w0 : World} {base g cap n : Nat} {T : TypeId} {l : List α}
theorem own_setCells {xs : List Value} (h : w.ownsRow base T k (.slice (some ⟨g, 0, none⟩) n cap) n xs) (o : Nat) (vs : List Value) (ho : o + vs.length ≤ xs.length) :
    (w.setCells g o vs).ownsRow base T k (.slice (some ⟨g, 0, none⟩) n cap) n (xs.take o ++ (vs ++ xs.drop (o + vs.length))) := by
  obtain ⟨hl, h2⟩ := h
  rcases h2 with ⟨e0, _⟩ | ⟨g', cap', cur, e0, hb, hg, hn, hm, hs, ht⟩
  · cases e0
  · injection e0 with e1 _ e3
    injection e1 with e1
    injection e1 with e1
    subst e1
    subst e3
    obtain ⟨cs', h1, h2, h3⟩ := heap_setCells g T vs o w cur hg
    refine ⟨?_, .inr ⟨g, cap, cs', rfl, hb, h1, hn, hm, by rw [h2, hs], ?_⟩⟩
    · simp only [List.length_append, List.length_take, List.length_drop]
      omega
    · have hcap : n * k ≤ cap * k := Nat.mul_le_mul_right _ hn
      apply List.ext_getElem?
      intro j
      rw [List.getElem?_take, Array.getElem?_toList, h3]
      have hx : j < n * k → cur[j]? = xs[j]? := fun hj => by
        rw [← ht, List.getElem?_take, if_pos hj, Array.getElem?_toList]
      by_cases hj : j < n * k
      · rw [if_pos hj]
        by_cases h4 : o ≤ j ∧ j < o + vs.length ∧ j < cur.size
        · rw [if_pos h4, List.getElem?_append_right (by rw [List.length_take]; omega), List.length_take, List.getElem?_append_left (by omega)]
          congr 1
          omega
        · rw [if_neg h4, hx hj]
          by_cases h5 : j < o
          · rw [List.getElem?_append_left (by rw [List.length_take]; omega), List.getElem?_take, if_pos h5]
          · have h6 : o + vs.length ≤ j := by
              rcases Nat.lt_or_ge j (o + vs.length) with h7 | h7
              · exact absurd ⟨by omega, h7, by omega⟩ h4
              · exact h7
            rw [List.getElem?_append_right (by rw [List.length_take]; omega), List.length_take, List.getElem?_append_right (by omega), List.getElem?_drop]
            congr 1
            omega
      · rw [if_neg hj, List.getElem?_eq_none]
        simp only [List.length_append, List.length_take, List.length_drop]
        omega
theorem flat_put (hc : ∀ y, (c y).length = k) : ∀ (l : List α) (i : Nat) (x : α) (h : i < l.length), (l.flatMap c).take (i * k) ++ (c x ++ (l.flatMap c).drop (i * k + k)) = (l.set i x).flatMap c
  | [], i, x, h => by cases h
  | p :: l, 0, x, h => by
    rw [List.flatMap_cons, List.set_cons_zero, List.flatMap_cons, Nat.zero_mul, List.take_zero, List.nil_append, Nat.zero_add, List.drop_append_of_le_length (by rw [hc]; exact Nat.le_refl _), List.drop_of_length_le (by rw [hc]; exact Nat.le_refl _), List.nil_append]
  | p :: l, i + 1, x, h => by
    rw [List.flatMap_cons, List.set_cons_succ, List.flatMap_cons, ← flat_put hc l i x (by simpa using h), List.take_append, List.drop_append, hc, List.take_of_length_le (by rw [hc, Nat.succ_mul]; omega), List.drop_of_length_le (by rw [hc, Nat.succ_mul]; omega)]
    rw [show (i + 1) * k - k = i * k by rw [Nat.succ_mul]; omega, show (i + 1) * k + k - k = i * k + k by rw [Nat.succ_mul]; omega, List.append_assoc, List.nil_append]
theorem flat_take (hc : ∀ y, (c y).length = k) : ∀ (l : List α) (i : Nat), i ≤ l.length → (l.flatMap c).take (i * k) = (l.take i).flatMap c
  | l, 0, _ => by simp
  | [], i + 1, h => by simp at h
  | p :: l, i + 1, h => by
    rw [List.flatMap_cons, List.take_succ_cons, List.flatMap_cons, ← flat_take hc l i (by simpa using h), List.take_append, hc, List.take_of_length_le (by rw [hc, Nat.succ_mul]; omega)]
    rw [show (i + 1) * k - k = i * k by rw [Nat.succ_mul]; omega]
/-- one element stored -/
theorem own_put (hc : ∀ y, (c y).length = k) (h : w.ownsRow base T k (.slice (some ⟨g, 0, none⟩) l.length cap) l.length (l.flatMap c)) (i : Nat) (hi : i < l.length) (x : α) :
    (w.setCells g (i * k) (c x)).ownsRow base T k (.slice (some ⟨g, 0, none⟩) (l.set i x).length cap) (l.set i x).length ((l.set i x).flatMap c) := by
  have hle : (i + 1) * k ≤ l.length * k := Nat.mul_le_mul_right _ hi
  rw [Nat.succ_mul] at hle
  have := own_setCells h (i * k) (c x) (by rw [hc, flat_length hc]; omega)
  rw [hc, flat_put hc l i x hi] at this
  rw [List.length_set]
  exact this
/-- the elements behind the first i overwritten by whatever -/
theorem own_clear (hc : ∀ y, (c y).length = k) (h : w.ownsRow base T k (.slice (some ⟨g, 0, none⟩) l.length cap) l.length (l.flatMap c)) (i : Nat) (hi : i ≤ l.length) (vs : List Value) (hv : i * k + vs.length = l.length * k) :
    (w.setCells g (i * k) vs).ownsRow base T k (.slice (some ⟨g, 0, none⟩) (l.take i).length cap) (l.take i).length ((l.take i).flatMap c) := by
  have h1 := own_setCells h (i * k) vs (by rw [flat_length hc]; omega)
  rw [List.drop_of_length_le (by rw [flat_length hc]; omega), List.append_nil, flat_take hc l i hi] at h1
  obtain ⟨_, h2⟩ := h1
  rcases h2 with ⟨e0, _⟩ | ⟨g', cap', cur, e0, hb, hg, hn, hm, hs, ht⟩
  · cases e0
  · injection e0 with e1 _ e3
    injection e1 with e1
    injection e1 with e1
    subst e1
    subst e3
    have hlt : (l.take i).length = i := by rw [List.length_take]; omega
    have hik : i * k ≤ l.length * k := Nat.mul_le_mul_right _ hi
    refine ⟨flat_length hc _, .inr ⟨g, cap, cur, rfl, hb, hg, by omega, hm, hs, ?_⟩⟩
    rw [hlt]
    have h3 : (cur.toList.take (l.length * k)).take (i * k) = cur.toList.take (i * k) := by rw [List.take_take, Nat.min_eq_left hik]
    rw [← h3, ht, List.take_append_of_le_length (by rw [flat_length hc, hlt]; exact Nat.le_refl _), List.take_of_length_le (by rw [flat_length hc, hlt]; exact Nat.le_refl _)]
end
/-- clear of a slice -/
theorem run_clear_any {P : Program} (w : World) (t e ty : TypeId) (z : Value) (ht : P.underlying t = some (.slice e)) (hv : (zeroValue e).run P w = .ok z w) (h1 : ∀ v ∈ z.cells.toList, v.oneCell' = true) (b o n c : Nat) (hn : 0 < n)
    (hc : ∀ j, j < n * z.cells.size → (w.cell? ⟨b, o + j, none⟩).isSome = true) (hf : ∀ j, j < n * z.cells.size → w.frozen? ⟨b, o + j, none⟩ = false) :
    (Builtin.clear_ #[t] ty #[.slice (some ⟨b, o, none⟩) n c]).run P w = .ok (.tuple #[]) (w.setCells b o (Builtin.zeroCells z.cells n).toList) ∧ (Builtin.zeroCells z.cells n).toList.length = n * z.cells.size := by
  have hl : (Builtin.zeroCells z.cells n).toList.length = n * z.cells.size := by simp [Builtin.zeroCells, Nat.mul_comm]
  refine ⟨?_, hl⟩
  have hst := run_storeCells_cells (P := P) b o (Builtin.zeroCells z.cells n).toList 0 w (by rw [hl]; simpa using hc) (by rw [hl]; simpa using hf) (by
    intro v hv'
    rw [Array.mem_toList_iff] at hv'
    unfold Builtin.zeroCells at hv'
    obtain ⟨j, hj, rfl⟩ := Array.mem_iff_getElem.1 hv'
    have hz : 0 < z.cells.size := by
      rcases Nat.eq_zero_or_pos z.cells.size with e | e
      · simp [e] at hj
      · exact e
    simp only [Array.getElem_map, Array.getElem_range]
    apply h1
    rw [Array.mem_toList_iff]
    have hm : j % z.cells.size < z.cells.size := Nat.mod_lt _ hz
    first
      | (rw [getElem!_pos z.cells _ hm]; exact Array.getElem_mem _)
      | (rw [Array.getD_eq_getD_getElem?, Array.getElem?_eq_getElem hm]; exact Array.getElem_mem _)
      | (simp [hm]))
  simp only [Nat.add_zero] at hst
  obtain ⟨m, rfl⟩ : ∃ m, n = m + 1 := ⟨n - 1, by omega⟩
  simp [Builtin.clear_, run_underlying ht, hv, hst]
end Go.Proofs.YtpfmfigommmjiaaDoor
