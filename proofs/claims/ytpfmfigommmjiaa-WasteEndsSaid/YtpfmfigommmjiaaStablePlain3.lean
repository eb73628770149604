/- The stable sort, plain: the halves of a cut; places of a list of parts. -/
import Derived.Test.YtpfmfigommmjiaaStablePlain2
namespace Go.Proofs.Ytpfmfigommmjiaa
set_option linter.unusedVariables false
set_option linter.unusedSimpArgs false
namespace Plain
section
variable {α : Type} {key : α → Int} {idx : α → Nat}
theorem at_mid (C D : List α) (p x : α) : (C ++ p :: x :: D)[C.length]? = some p ∧ (C ++ p :: x :: D)[C.length + 1]? = some x := by
  refine ⟨?_, ?_⟩
  · rw [List.getElem?_append_right (by omega), Nat.sub_self]; rfl
  · rw [List.getElem?_append_right (by omega), show C.length + 1 - C.length = 1 by omega]; rfl
theorem at_one' (C D : List α) (p : α) : (C ++ p :: D)[C.length]? = some p := by
  rw [List.getElem?_append_right (by omega), Nat.sub_self]; rfl
theorem at_left {A M B : List α} {i : Nat} (h : i < M.length) : (A ++ (M ++ B))[A.length + i]? = M[i]? := by
  rw [List.getElem?_append_right (by omega), show A.length + i - A.length = i by omega, List.getElem?_append_left h]
theorem at_right {A X Y B : List α} {i : Nat} (h : i < Y.length) : (A ++ ((X ++ Y) ++ B))[A.length + X.length + i]? = Y[i]? := by
  rw [List.append_assoc, List.getElem?_append_right (by omega), show A.length + X.length + i - A.length = X.length + i by omega, at_left h]
/-- what the halves of a cut bring along -/
structure Halves (key : α → Int) (idx : α → Nat) (X Y : List α) (s t : Nat) : Prop where
  w1 : (X.take s ++ Y.take t).Pairwise (WPr key idx)
  w2 : (X.drop s ++ Y.drop t).Pairwise (WPr key idx)
  s1 : (X.take s).Pairwise (SPr key)
  s2 : (Y.take t).Pairwise (SPr key)
  s3 : (X.drop s).Pairwise (SPr key)
  s4 : (Y.drop t).Pairwise (SPr key)
theorem halves {X Y : List α} (hw : (X ++ Y).Pairwise (WPr key idx)) (hx : X.Pairwise (SPr key)) (hy : Y.Pairwise (SPr key)) (s t : Nat) : Halves key idx X Y s t := by
  rw [List.pairwise_append] at hw
  obtain ⟨h1, h2, h3⟩ := hw
  refine ⟨?_, ?_, hx.sublist (List.take_sublist _ _), hy.sublist (List.take_sublist _ _), hx.sublist (List.drop_sublist _ _), hy.sublist (List.drop_sublist _ _)⟩
  · rw [List.pairwise_append]
    exact ⟨h1.sublist (List.take_sublist _ _), h2.sublist (List.take_sublist _ _), fun a ha b hb => h3 a (List.mem_of_mem_take ha) b (List.mem_of_mem_take hb)⟩
  · rw [List.pairwise_append]
    exact ⟨h1.sublist (List.drop_sublist _ _), h2.sublist (List.drop_sublist _ _), fun a ha b hb => h3 a (List.mem_of_mem_drop ha) b (List.mem_of_mem_drop hb)⟩
/-- no merge is wanted where one part is empty -/
theorem mrg_empty {X Y : List α} (hw : (X ++ Y).Pairwise (WPr key idx)) (hx : X.Pairwise (SPr key)) (hy : Y.Pairwise (SPr key)) (h : X = [] ∨ Y = []) : Mrg key idx X Y (X ++ Y) := by
  rcases h with rfl | rfl
  · exact .done hw (by simpa using hy)
  · exact .done hw (by simpa using hx)
/-- where one element comes to stand in the run behind it -/
theorem ins_left {x : α} {Y : List α} {k : Nat} (hw : ([x] ++ Y).Pairwise (WPr key idx)) (hy : Y.Pairwise (SPr key)) (hk : k ≤ Y.length) (hlo : k = 0 ∨ ∃ y, Y[k - 1]? = some y ∧ key y < key x) (hhi : k = Y.length ∨ ∃ y, Y[k]? = some y ∧ key x ≤ key y) : Mrg key idx [x] Y (Y.take k ++ ([x] ++ Y.drop k)) := by
  have e : Y.take k ++ Y.drop k = Y := List.take_append_drop k Y
  have h := Mrg.insL (x := x) (Y1 := Y.take k) (Y2 := Y.drop k) (idx := idx) (key := key) (by rw [e]; exact hw) (by rw [e]; exact hy) ?_ ?_
  · rw [e] at h; exact h
  · intro y hym
    obtain ⟨i, hi, rfl⟩ := List.mem_iff_getElem.1 hym
    rw [List.length_take] at hi
    rw [List.getElem_take]
    rcases hlo with h | ⟨z, h1, h2⟩
    · omega
    · have := sorted_at hy (i := i) (j := k - 1) (by omega) (List.getElem?_eq_getElem (by omega)) h1
      omega
  · intro y hym
    obtain ⟨i, hi, rfl⟩ := List.mem_iff_getElem.1 hym
    rw [List.length_drop] at hi
    rw [List.getElem_drop]
    rcases hhi with h | ⟨z, h1, h2⟩
    · omega
    · have := sorted_at hy (i := k) (j := k + i) (by omega) h1 (List.getElem?_eq_getElem (by omega))
      omega
theorem ins_right {y : α} {X : List α} {k : Nat} (hw : (X ++ [y]).Pairwise (WPr key idx)) (hx : X.Pairwise (SPr key)) (hk : k ≤ X.length) (hlo : k = 0 ∨ ∃ x, X[k - 1]? = some x ∧ key x ≤ key y) (hhi : k = X.length ∨ ∃ x, X[k]? = some x ∧ key y < key x) : Mrg key idx X [y] (X.take k ++ ([y] ++ X.drop k)) := by
  have e : X.take k ++ X.drop k = X := List.take_append_drop k X
  have h := Mrg.insR (y := y) (X1 := X.take k) (X2 := X.drop k) (idx := idx) (key := key) (by rw [e]; exact hw) (by rw [e]; exact hx) ?_ ?_
  · rw [e] at h; exact h
  · intro x hxm
    obtain ⟨i, hi, rfl⟩ := List.mem_iff_getElem.1 hxm
    rw [List.length_take] at hi
    rw [List.getElem_take]
    rcases hlo with h | ⟨z, h1, h2⟩
    · omega
    · have := sorted_at hx (i := i) (j := k - 1) (by omega) (List.getElem?_eq_getElem (by omega)) h1
      omega
  · intro x hxm
    obtain ⟨i, hi, rfl⟩ := List.mem_iff_getElem.1 hxm
    rw [List.length_drop] at hi
    rw [List.getElem_drop]
    rcases hhi with h | ⟨z, h1, h2⟩
    · omega
    · have := sorted_at hx (i := k) (j := k + i) (by omega) h1 (List.getElem?_eq_getElem (by omega))
      omega
end
end Plain
end Go.Proofs.Ytpfmfigommmjiaa
