/- The stable sort, plain: what its five functions make of a list. -/
import Derived.WalkKit
namespace Go.Proofs.Ytpfmfigommmjiaa
namespace Plain
/-- of equal keys the earlier one stands first -/
def WPr {α : Type} (key : α → Int) (idx : α → Nat) (x y : α) : Prop := key x = key y → idx x < idx y
def SPr {α : Type} (key : α → Int) (x y : α) : Prop := key x ≤ key y
/-- two runs merged -/
structure Mrg {α : Type} (key : α → Int) (idx : α → Nat) (X Y Z : List α) : Prop where
  perm : Z.Perm (X ++ Y)
  stable : Z.Pairwise (WPr key idx)
  sorted : Z.Pairwise (SPr key)
theorem Mrg.done {α : Type} {key : α → Int} {idx : α → Nat} {X Y : List α} (hw : (X ++ Y).Pairwise (WPr key idx)) (hs : (X ++ Y).Pairwise (SPr key)) : Mrg key idx X Y (X ++ Y) := ⟨.refl _, hw, hs⟩
/-- two merges side by side -/
theorem Mrg.join {α : Type} {key : α → Int} {idx : α → Nat} {X1 u v Y2 Z1 Z2 : List α} (hw : ((X1 ++ u) ++ (v ++ Y2)).Pairwise (WPr key idx)) (hx : (X1 ++ u).Pairwise (SPr key)) (hy : (v ++ Y2).Pairwise (SPr key))
    (huv : ∀ x ∈ u, ∀ y ∈ v, key y < key x) (hxy : ∀ x ∈ X1, ∀ y ∈ Y2, key x ≤ key y) (h1 : Mrg key idx X1 v Z1) (h2 : Mrg key idx u Y2 Z2) : Mrg key idx (X1 ++ u) (v ++ Y2) (Z1 ++ Z2) := by
  have m1 : ∀ z, z ∈ Z1 ↔ z ∈ X1 ∨ z ∈ v := fun z => by rw [h1.perm.mem_iff, List.mem_append]
  have m2 : ∀ z, z ∈ Z2 ↔ z ∈ u ∨ z ∈ Y2 := fun z => by rw [h2.perm.mem_iff, List.mem_append]
  rw [List.pairwise_append, List.pairwise_append, List.pairwise_append] at hw
  obtain ⟨⟨wX1, wu, wXu⟩, ⟨wv, wY2, wvY⟩, wc⟩ := hw
  rw [List.pairwise_append] at hx hy
  obtain ⟨sX1, su, sXu⟩ := hx
  obtain ⟨sv, sY2, svY⟩ := hy
  refine ⟨?_, ?_, ?_⟩
  · refine (h1.perm.append h2.perm).trans ?_
    rw [List.append_assoc, List.append_assoc]
    refine List.Perm.append_left X1 ?_
    rw [← List.append_assoc, ← List.append_assoc]
    exact List.perm_append_comm.append_right Y2
  · rw [List.pairwise_append]
    refine ⟨h1.stable, h2.stable, fun x hx y hy => ?_⟩
    rcases (m1 x).1 hx with hx | hx <;> rcases (m2 y).1 hy with hy | hy
    · exact wXu x hx y hy
    · exact wc x (List.mem_append_left _ hx) y (List.mem_append_right _ hy)
    · intro e
      have := huv y hy x hx
      omega
    · exact wvY x hx y hy
  · rw [List.pairwise_append]
    refine ⟨h1.sorted, h2.sorted, fun x hx y hy => ?_⟩
    rcases (m1 x).1 hx with hx | hx <;> rcases (m2 y).1 hy with hy | hy
    · exact sXu x hx y hy
    · exact hxy x hx y hy
    · exact Int.le_of_lt (huv y hy x hx)
    · exact svY x hx y hy
theorem Mrg.nil_left {α : Type} {key : α → Int} {idx : α → Nat} {Y : List α} (hw : Y.Pairwise (WPr key idx)) (hs : Y.Pairwise (SPr key)) : Mrg key idx [] Y Y := ⟨.refl _, hw, hs⟩
theorem Mrg.nil_right {α : Type} {key : α → Int} {idx : α → Nat} {X : List α} (hw : X.Pairwise (WPr key idx)) (hs : X.Pairwise (SPr key)) : Mrg key idx X [] X := ⟨by rw [List.append_nil], hw, hs⟩
/-- one element put into the run behind it -/
theorem Mrg.insL {α : Type} {key : α → Int} {idx : α → Nat} {x : α} {Y1 Y2 : List α} (hw : ([x] ++ (Y1 ++ Y2)).Pairwise (WPr key idx)) (hy : (Y1 ++ Y2).Pairwise (SPr key)) (h1 : ∀ y ∈ Y1, key y < key x) (h2 : ∀ y ∈ Y2, key x ≤ key y) : Mrg key idx [x] (Y1 ++ Y2) (Y1 ++ ([x] ++ Y2)) := by
  have hw2 := hw
  rw [List.pairwise_append, List.pairwise_append] at hw
  obtain ⟨_, ⟨wY1, wY2, _⟩, wc⟩ := hw
  have hy2 := hy
  rw [List.pairwise_append] at hy
  refine Mrg.join (X1 := []) (u := [x]) (v := Y1) (Y2 := Y2) hw2 (by simp) hy2 (fun a ha b hb => ?_) (fun a ha => by cases ha) (.nil_left wY1 hy.1) (.done ?_ ?_)
  · rw [List.mem_singleton] at ha
    subst ha
    exact h1 b hb
  · rw [List.pairwise_append]
    exact ⟨by simp, wY2, fun a ha b hb => wc a ha b (List.mem_append_right _ hb)⟩
  · rw [List.pairwise_append]
    refine ⟨by simp, hy.2.1, fun a ha b hb => ?_⟩
    rw [List.mem_singleton] at ha
    subst ha
    exact h2 b hb
/-- one element put into the run ahead of it -/
theorem Mrg.insR {α : Type} {key : α → Int} {idx : α → Nat} {y : α} {X1 X2 : List α} (hw : ((X1 ++ X2) ++ [y]).Pairwise (WPr key idx)) (hx : (X1 ++ X2).Pairwise (SPr key)) (h1 : ∀ x ∈ X1, key x ≤ key y) (h2 : ∀ x ∈ X2, key y < key x) : Mrg key idx (X1 ++ X2) [y] (X1 ++ ([y] ++ X2)) := by
  have hw2 := hw
  rw [List.pairwise_append, List.pairwise_append] at hw
  obtain ⟨⟨wX1, wX2, _⟩, _, wc⟩ := hw
  have hx2 := hx
  rw [List.pairwise_append] at hx
  have := Mrg.join (X1 := X1) (u := X2) (v := [y]) (Y2 := []) (Z1 := X1 ++ [y]) (Z2 := X2) (by simpa using hw2) hx2 (by simp) (fun a ha b hb => ?_) (fun a ha b hb => by cases hb) (.done ?_ ?_) (.nil_right wX2 hx.2.1)
  · rw [List.append_assoc] at this
    exact this
  · rw [List.mem_singleton] at hb
    subst hb
    exact h2 a ha
  · rw [List.pairwise_append]
    exact ⟨wX1, by simp, fun a ha b hb => wc a (List.mem_append_left _ ha) b hb⟩
  · rw [List.pairwise_append]
    refine ⟨hx.1, by simp, fun a ha b hb => ?_⟩
    rw [List.mem_singleton] at hb
    subst hb
    exact h1 a ha
/-- a list whose first so many places were swapped with as many further on -/
def Swp {α : Type} (L L' : List α) (a b k : Nat) : Prop := L'.length = L.length ∧ ∀ p, L'[p]? = if a ≤ p ∧ p < a + k then L[p + (b - a)]? else if b ≤ p ∧ p < b + k then L[p - (b - a)]? else L[p]?
theorem Swp.refl {α : Type} (L : List α) (a b : Nat) : Swp L L a b 0 := ⟨rfl, fun p => by
  rw [if_neg (by omega), if_neg (by omega)]⟩
theorem Swp.step {α : Type} {L L' : List α} {a b k : Nat} (h : Swp L L' a b k) (hk : a + k < b) (hb : b + k < L.length) {x y : α} (hx : L'[a + k]? = some x) (hy : L'[b + k]? = some y) : Swp L ((L'.set (a + k) y).set (b + k) x) a b (k + 1) := by
  obtain ⟨h1, h2⟩ := h
  refine ⟨by rw [List.length_set, List.length_set]; exact h1, fun p => ?_⟩
  have ex : L[a + k]? = some x := by
    rw [← hx, h2]
    rw [if_neg (by omega), if_neg (by omega)]
  have ey : L[b + k]? = some y := by
    rw [← hy, h2]
    rw [if_neg (by omega), if_neg (by omega)]
  rw [List.getElem?_set, List.getElem?_set]
  by_cases e1 : b + k = p
  · subst e1
    rw [if_pos rfl, if_pos (by rw [List.length_set]; omega), if_neg (by omega), if_pos (by omega), ← ex]
    congr 1
    omega
  · rw [if_neg e1]
    by_cases e2 : a + k = p
    · subst e2
      rw [if_pos rfl, if_pos (by omega), if_pos (by omega), ← ey]
      congr 1
      omega
    · rw [if_neg e2, h2]
      by_cases c1 : a ≤ p ∧ p < a + k
      · rw [if_pos c1, if_pos (by omega)]
      · rw [if_neg c1]
        by_cases c2 : b ≤ p ∧ p < b + k
        · rw [if_pos c2, if_neg (by omega), if_pos (by omega)]
        · rw [if_neg c2, if_neg (by omega), if_neg (by omega)]
/-- two parts of one length change places -/
theorem Swp.parts {α : Type} {A x M y B L' : List α} (hl : x.length = y.length) (h : Swp (A ++ (x ++ (M ++ (y ++ B)))) L' A.length (A.length + x.length + M.length) x.length) : L' = A ++ (y ++ (M ++ (x ++ B))) := by
  obtain ⟨h1, h2⟩ := h
  refine List.ext_getElem? fun p => ?_
  rw [h2]
  have e : A.length + x.length + M.length - A.length = x.length + M.length := by omega
  rw [e]
  simp only [List.getElem?_append]
  repeat' split
  all_goals first | omega | rfl | (congr 1; omega)
end Plain
end Go.Proofs.Ytpfmfigommmjiaa
