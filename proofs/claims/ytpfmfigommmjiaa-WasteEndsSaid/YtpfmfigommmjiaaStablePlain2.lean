/- The stable sort, plain: where two runs are cut, one element put in its place, blocks. -/
import Derived.Test.YtpfmfigommmjiaaStablePlain
namespace Go.Proofs.Ytpfmfigommmjiaa
set_option linter.unusedVariables false
set_option linter.unusedSimpArgs false
namespace Plain
section
variable {α : Type} {key : α → Int} {idx : α → Nat}
theorem sorted_at {X : List α} (h : X.Pairwise (SPr key)) {i j : Nat} {x y : α} (hij : i ≤ j) (hi : X[i]? = some x) (hj : X[j]? = some y) : key x ≤ key y := by
  obtain ⟨h1, rfl⟩ := List.getElem?_eq_some_iff.1 hi
  obtain ⟨h2, rfl⟩ := List.getElem?_eq_some_iff.1 hj
  rcases Nat.lt_or_ge i j with h3 | h3
  · exact List.pairwise_iff_getElem.1 h i j h1 h2 h3
  · obtain rfl : i = j := by omega
    exact Int.le_refl _
/-- the search: at c the right one is less than the left one -/
def LtC (key : α → Int) (X Y : List α) (a mid c : Nat) : Prop := ∃ x y, X[c - a]? = some x ∧ Y[mid - 1 - c]? = some y ∧ key y < key x
def GeC (key : α → Int) (X Y : List α) (a mid c : Nat) : Prop := ∃ x y, X[c - a]? = some x ∧ Y[mid - 1 - c]? = some y ∧ key x ≤ key y
/-- two runs, cut at a place that the search has found -/
theorem cut_mrg {X Y Z1 Z2 : List α} {a m b mid start : Nat} (hX : X.length = m - a) (hY : Y.length = b - m) (ham : a ≤ m) (hmb : m ≤ b) (hmid : a ≤ mid) (hmb2 : mid ≤ b)
    (hs0 : a ≤ start) (hs1 : start ≤ m) (hs2 : start ≤ mid) (hs3 : mid + m ≤ start + b)
    (hw : (X ++ Y).Pairwise (WPr key idx)) (hx : X.Pairwise (SPr key)) (hy : Y.Pairwise (SPr key))
    (hhi : start = m ∨ start = mid ∨ LtC key X Y a mid start) (hlo : start = a ∨ start + b = mid + m ∨ GeC key X Y a mid (start - 1))
    (h1 : Mrg key idx (X.take (start - a)) (Y.take (mid - start)) Z1) (h2 : Mrg key idx (X.drop (start - a)) (Y.drop (mid - start)) Z2) : Mrg key idx X Y (Z1 ++ Z2) := by
  have e1 : X.take (start - a) ++ X.drop (start - a) = X := List.take_append_drop _ _
  have e2 : Y.take (mid - start) ++ Y.drop (mid - start) = Y := List.take_append_drop _ _
  have h := Mrg.join (X1 := X.take (start - a)) (u := X.drop (start - a)) (v := Y.take (mid - start)) (Y2 := Y.drop (mid - start)) (by rw [e1, e2]; exact hw) (by rw [e1]; exact hx) (by rw [e2]; exact hy) ?_ ?_ h1 h2
  · rw [e1, e2] at h; exact h
  · intro x hxm y hym
    obtain ⟨i, hi, rfl⟩ := List.mem_iff_getElem.1 hxm
    obtain ⟨j, hj, rfl⟩ := List.mem_iff_getElem.1 hym
    rw [List.length_drop] at hi
    rw [List.length_take] at hj
    rw [List.getElem_drop, List.getElem_take]
    rcases hhi with h | h | ⟨x0, y0, g1, g2, g3⟩
    · omega
    · omega
    · have k1 := sorted_at hx (i := start - a) (j := start - a + i) (by omega) g1 (List.getElem?_eq_getElem (by omega))
      have k2 := sorted_at hy (i := j) (j := mid - 1 - start) (by omega) (List.getElem?_eq_getElem (by omega)) g2
      omega
  · intro x hxm y hym
    obtain ⟨i, hi, rfl⟩ := List.mem_iff_getElem.1 hxm
    obtain ⟨j, hj, rfl⟩ := List.mem_iff_getElem.1 hym
    rw [List.length_take] at hi
    rw [List.length_drop] at hj
    rw [List.getElem_drop, List.getElem_take]
    rcases hlo with h | h | ⟨x0, y0, g1, g2, g3⟩
    · omega
    · omega
    · have k1 := sorted_at hx (i := i) (j := start - 1 - a) (by omega) (List.getElem?_eq_getElem (by omega)) g1
      have k2 := sorted_at hy (i := mid - 1 - (start - 1)) (j := mid - start + j) (by omega) g2 (List.getElem?_eq_getElem (by omega))
      omega
/-- two neighbours that change places -/
theorem swap_two {C D : List α} {p x : α} {j : Nat} (hj : j = C.length) : ((C ++ p :: x :: D).set (j + 1) p).set j x = C ++ x :: p :: D := by
  subst hj
  rw [List.set_append_right _ _ (by omega), List.set_append_right _ _ (by omega), Nat.sub_self, show C.length + 1 - C.length = 1 by omega]
  rfl
theorem swap_two' {C D : List α} {p x : α} {j : Nat} (hj : j = C.length) : ((C ++ p :: x :: D).set j x).set (j + 1) p = C ++ x :: p :: D := by
  subst hj
  rw [List.set_append_right _ _ (by omega), List.set_append_right _ _ (by omega), Nat.sub_self, show C.length + 1 - C.length = 1 by omega]
  rfl
/-- a part that is put in order -/
structure Ins (key : α → Int) (idx : α → Nat) (M Z : List α) : Prop where
  perm : Z.Perm M
  stable : Z.Pairwise (WPr key idx)
structure InsIn (key : α → Int) (idx : α → Nat) (M P1 : List α) (x : α) (P2 R : List α) : Prop where
  ok : Ins key idx M (P1 ++ (x :: (P2 ++ R)))
  sorted : (P1 ++ P2).Pairwise (SPr key)
  less : ∀ p ∈ P2, key x < key p
theorem InsIn.start {M P R : List α} {x : α} (h : Ins key idx M (P ++ (x :: R))) (hs : P.Pairwise (SPr key)) : InsIn key idx M P x [] R := ⟨h, by rw [List.append_nil]; exact hs, by simp⟩
theorem InsIn.step {M P1 P2 R : List α} {x p : α} (h : InsIn key idx M (P1 ++ [p]) x P2 R) (hl : key x < key p) : InsIn key idx M P1 x (p :: P2) R := by
  refine ⟨⟨?_, ?_⟩, ?_, fun q hq => ?_⟩
  · refine List.Perm.trans ?_ h.ok.perm
    rw [List.append_assoc]
    exact List.Perm.append_left P1 (List.Perm.swap _ _ _)
  · have hw := h.ok.stable
    rw [List.append_assoc, List.pairwise_append] at hw
    obtain ⟨w1, w2, w3⟩ := hw
    rw [List.singleton_append, List.pairwise_cons, List.pairwise_cons] at w2
    obtain ⟨v1, v2, v3⟩ := w2
    rw [List.pairwise_append]
    refine ⟨w1, ?_, fun a ha b hb => w3 a ha b ?_⟩
    · rw [List.pairwise_cons]
      refine ⟨fun b hb => ?_, ?_⟩
      · rw [List.cons_append, List.mem_cons] at hb
        rcases hb with rfl | hb
        · intro e; omega
        · exact v2 b hb
      · rw [List.cons_append, List.pairwise_cons]
        exact ⟨fun b hb => v1 b (List.mem_cons_of_mem _ hb), v3⟩
    · simp only [List.singleton_append, List.cons_append, List.nil_append, List.mem_cons] at hb ⊢
      rcases hb with h | h | h
      · exact .inr (.inl h)
      · exact .inl h
      · exact .inr (.inr h)
  · have hs := h.sorted
    rw [List.append_assoc] at hs
    exact hs
  · rcases List.mem_cons.1 hq with rfl | hq
    · exact hl
    · exact h.less q hq
theorem InsIn.stop {M P1 P2 R : List α} {x : α} (h : InsIn key idx M P1 x P2 R) (hl : ∀ Q p, P1 = Q ++ [p] → key p ≤ key x) : Ins key idx M ((P1 ++ (x :: P2)) ++ R) ∧ (P1 ++ (x :: P2)).Pairwise (SPr key) := by
  refine ⟨by rw [List.append_assoc]; exact h.ok, ?_⟩
  have hs := h.sorted
  rw [List.pairwise_append] at hs
  obtain ⟨s1, s2, s3⟩ := hs
  rw [List.pairwise_append, List.pairwise_cons]
  refine ⟨s1, ⟨fun b hb => Int.le_of_lt (h.less b hb), s2⟩, fun a ha b hb => ?_⟩
  rcases List.mem_cons.1 hb with rfl | hb
  · rcases List.eq_nil_or_concat P1 with rfl | ⟨Q, p, rfl⟩
    · cases ha
    · have hp := hl Q p (by rw [List.concat_eq_append])
      rw [List.concat_eq_append] at ha s1
      rcases List.mem_append.1 ha with ha | ha
      · rw [List.pairwise_append] at s1
        have : key a ≤ key p := s1.2.2 a ha p (by simp)
        exact Int.le_trans this hp
      · rw [List.mem_singleton] at ha
        subst ha
        exact hp
  · exact s3 a ha b hb
/-- a part of a list, put in order, keeps the whole's order of equals -/
theorem stable_part {A M Z B : List α} (h : (A ++ (M ++ B)).Pairwise (WPr key idx)) (hp : Z.Perm M) (hz : Z.Pairwise (WPr key idx)) : (A ++ (Z ++ B)).Pairwise (WPr key idx) := by
  rw [List.pairwise_append, List.pairwise_append] at h
  obtain ⟨h1, ⟨_, h3, h4⟩, h5⟩ := h
  rw [List.pairwise_append, List.pairwise_append]
  refine ⟨h1, ⟨hz, h3, fun a ha b hb => h4 a (hp.mem_iff.1 ha) b hb⟩, fun a ha b hb => h5 a ha b ?_⟩
  rcases List.mem_append.1 hb with hb | hb
  · exact List.mem_append_left _ (hp.mem_iff.1 hb)
  · exact List.mem_append_right _ hb
/-- blocks of one length, each in order -/
def Blks (key : α → Int) (n : Nat) (bl : List (List α)) : Prop := ∀ X ∈ bl, X.length = n ∧ X.Pairwise (SPr key)
theorem Blks.len {n : Nat} : ∀ {bl : List (List α)}, Blks key n bl → bl.flatten.length = bl.length * n
  | [], _ => by simp
  | X :: bl, h => by
    have := Blks.len (bl := bl) fun Y hY => h Y (List.mem_cons_of_mem _ hY)
    rw [List.flatten_cons, List.length_append, this, (h X (by simp)).1, List.length_cons, Nat.succ_mul, Nat.add_comm]
theorem Blks.snoc {n : Nat} {bl : List (List α)} {X : List α} (h : Blks key n bl) (hl : X.length = n) (hs : X.Pairwise (SPr key)) : Blks key n (bl ++ [X]) := fun Y hY => by
  rcases List.mem_append.1 hY with hY | hY
  · exact h Y hY
  · rw [List.mem_singleton] at hY
    subst hY
    exact ⟨hl, hs⟩
theorem Blks.tail {n : Nat} {X : List α} {bl : List (List α)} (h : Blks key n (X :: bl)) : Blks key n bl := fun Y hY => h Y (List.mem_cons_of_mem _ hY)
/-- few blocks: all is in order -/
theorem Blks.all {n : Nat} {bl : List (List α)} {X : List α} (h : Blks key n bl) (hX : X.Pairwise (SPr key)) (hn : (bl.flatten ++ X).length ≤ n) (hX2 : X.length < n) : (bl.flatten ++ X).Pairwise (SPr key) := by
  match bl, h with
  | [], _ => simpa using hX
  | [Y], h =>
    have hl := (h Y (by simp)).1
    rw [List.length_append] at hn
    have : X = [] := List.eq_nil_of_length_eq_zero (by simp only [List.flatten_cons, List.flatten_nil, List.append_nil] at hn; omega)
    subst this
    simpa using (h Y (by simp)).2
  | Y :: Y2 :: r, h =>
    have h1 := (h Y (by simp)).1
    have h2 := (h Y2 (by simp)).1
    simp only [List.flatten_cons, List.length_append] at hn
    omega
end
end Plain
end Go.Proofs.Ytpfmfigommmjiaa
