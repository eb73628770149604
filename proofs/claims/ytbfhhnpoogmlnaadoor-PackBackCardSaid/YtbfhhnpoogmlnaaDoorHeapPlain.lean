/- A heap in a list: what pushing and popping keep. -/
import Derived.WalkKit
namespace Go.Proofs.YtbfhhnpoogmlnaaDoor
namespace Plain
set_option linter.unusedVariables false
section
variable {α : Type} (le : α → α → Prop)
/-- a heap -/
def Hp (L : List α) : Prop := ∀ i (_ : 0 < i) (h : i < L.length), le (L[(i - 1) / 2]'(by omega)) L[i]
/-- a heap but at i, whose element may be too small -/
def HpUp (L : List α) (i : Nat) : Prop := (∀ j (_ : 0 < j) (_ : j ≠ i) (h : j < L.length), le (L[(j - 1) / 2]'(by omega)) L[j]) ∧ ∀ j (_ : 0 < j) (_ : 0 < i) (_ : (j - 1) / 2 = i) (h : j < L.length), le (L[(i - 1) / 2]'(by omega)) L[j]
/-- a heap but at i, whose element may be too great -/
def HpDn (L : List α) (i : Nat) : Prop := (∀ j (_ : 0 < j) (_ : (j - 1) / 2 ≠ i) (h : j < L.length), le (L[(j - 1) / 2]'(by omega)) L[j]) ∧ ∀ j (_ : 0 < j) (_ : 0 < i) (_ : (j - 1) / 2 = i) (h : j < L.length), le (L[(i - 1) / 2]'(by omega)) L[j]
def swp (L : List α) (i j : Nat) (hi : i < L.length) (hj : j < L.length) : List α := (L.set i L[j]).set j L[i]
theorem swp_len (L : List α) (i j : Nat) (hi : i < L.length) (hj : j < L.length) : (swp L i j hi hj).length = L.length := by simp [swp]
theorem swp_get (L : List α) (i j : Nat) (hi : i < L.length) (hj : j < L.length) (k : Nat) (hk : k < (swp L i j hi hj).length) : (swp L i j hi hj)[k] = if k = j then L[i] else if k = i then L[j] else L[k]'(by rw [swp_len] at hk; exact hk) := by
  simp only [swp, List.getElem_set]
  by_cases h1 : k = j
  · subst h1; simp
  · rw [if_neg (Ne.symm h1), if_neg h1]
    by_cases h2 : k = i
    · subst h2; simp
    · rw [if_neg (Ne.symm h2), if_neg h2]
theorem swp_perm (L : List α) (i j : Nat) (hi : i < L.length) (hj : j < L.length) : (swp L i j hi hj).Perm L := by
  exact List.set_set_perm hi hj
variable {le}
theorem HpUp.push {L : List α} (h : Hp le L) (x : α) : HpUp le (L ++ [x]) L.length := by
  refine ⟨fun j h0 hne hj => ?_, fun j h0 hi hp hj => ?_⟩
  · rw [List.length_append, List.length_singleton] at hj
    have := h j h0 (by omega)
    rw [List.getElem_append_left (by omega), List.getElem_append_left (by omega)]
    exact this
  · rw [List.length_append, List.length_singleton] at hj
    omega
theorem HpUp.done {L : List α} {i : Nat} (h : HpUp le L i) (hd : ∀ (h0 : 0 < i) (hi : i < L.length), le (L[(i - 1) / 2]'(by omega)) L[i]) : Hp le L := fun j h0 hj => by
  by_cases e : j = i
  · subst e; exact hd h0 hj
  · exact h.1 j h0 e hj
theorem HpUp.step (htr : ∀ a b c, le a b → le b c → le a c) (hto : ∀ a b, le a b ∨ le b a) {L : List α} {i : Nat} (h0 : 0 < i) (hi : i < L.length) (h : HpUp le L i) (hn : ¬ le (L[(i - 1) / 2]'(by omega)) L[i]) : HpUp le (swp L ((i - 1) / 2) i (by omega) hi) ((i - 1) / 2) := by
  have hlt : le L[i] (L[(i - 1) / 2]'(by omega)) := (hto _ _).resolve_right hn
  refine ⟨fun j j0 hne hj => ?_, fun j j0 hp0 hp hj => ?_⟩
  · rw [swp_get, swp_get]
    rw [swp_len] at hj
    by_cases e1 : j = i
    · subst e1
      rw [if_pos rfl, if_neg (by omega), if_pos rfl]
      exact hlt
    · rw [if_neg e1, if_neg hne]
      by_cases e2 : (j - 1) / 2 = i
      · rw [if_pos e2]
        exact h.2 j j0 h0 e2 hj
      · rw [if_neg e2]
        by_cases e3 : (j - 1) / 2 = (i - 1) / 2
        · rw [if_pos e3]
          have := h.1 j j0 e1 hj
          simp only [e3] at this
          exact htr _ _ _ hlt this
        · rw [if_neg e3]
          exact h.1 j j0 e1 hj
  · rw [swp_get, swp_get]
    rw [swp_len] at hj
    have g1 : ((i - 1) / 2 - 1) / 2 ≠ i := by omega
    have g2 : ((i - 1) / 2 - 1) / 2 ≠ (i - 1) / 2 := by omega
    rw [if_neg g1, if_neg g2]
    have hpp := h.1 ((i - 1) / 2) hp0 (by omega) (by omega)
    by_cases e1 : j = i
    · subst e1
      rw [if_pos rfl]
      exact hpp
    · rw [if_neg e1, if_neg (by omega)]
      have := h.1 j j0 e1 hj
      simp only [hp] at this
      exact htr _ _ _ hpp this
theorem Hp.min (htr : ∀ a b c, le a b → le b c → le a c) (hrf : ∀ a, le a a) {L : List α} (h : Hp le L) : ∀ i (hi : i < L.length), le (L[0]'(by omega)) L[i] := by
  intro i
  induction i using Nat.strongRecOn with
  | ind i ih =>
    intro hi
    rcases Nat.eq_zero_or_pos i with rfl | h0
    · exact hrf _
    · exact htr _ _ _ (ih ((i - 1) / 2) (by omega) (by omega)) (h i h0 hi)
/-- the last element laid at the front -/
theorem HpDn.pop {L : List α} (h : Hp le L) (h0 : 0 < L.length) : HpDn le ((L.set 0 (L[L.length - 1]'(by omega))).take (L.length - 1)) 0 := by
  refine ⟨fun j j0 hne hj => ?_, fun j _ hi _ _ => absurd hi (Nat.lt_irrefl _)⟩
  rw [List.length_take, List.length_set] at hj
  rw [List.getElem_take, List.getElem_take, List.getElem_set, List.getElem_set, if_neg (by omega), if_neg (by omega)]
  exact h j j0 (by omega)
theorem pop_perm {L : List α} (h0 : 0 < L.length) : L.Perm (L[0] :: (L.set 0 (L[L.length - 1]'(by omega))).take (L.length - 1)) := by
  match L, h0 with
  | [a], _ => simp
  | a :: b :: M, _ =>
    simp only [List.length_cons, Nat.add_sub_cancel, List.getElem_cons_zero, List.set_cons_zero, List.take_succ_cons]
    refine List.Perm.cons a ?_
    have e : (a :: b :: M)[M.length + 1] = (b :: M)[M.length]'(by simp) := rfl
    rw [e]
    have h1 : (b :: M).take M.length ++ [(b :: M)[M.length]'(by simp)] = b :: M := by
      have := List.take_append_getElem (l := b :: M) (i := M.length) (by simp)
      rw [this]
      exact List.take_of_length_le (by simp)
    have h2 : (b :: M).Perm ((b :: M)[M.length]'(by simp) :: (b :: M).take M.length) := by
      conv => lhs; rw [← h1]
      exact List.perm_append_singleton _ _
    exact h2
theorem HpDn.done {L : List α} {i : Nat} (h : HpDn le L i) (hd : ∀ j (_ : 0 < j) (_ : (j - 1) / 2 = i) (hj : j < L.length), le (L[i]'(by omega)) L[j]) : Hp le L := fun j h0 hj => by
  by_cases e : (j - 1) / 2 = i
  · have := hd j h0 e hj
    simp only [e]
    exact this
  · exact h.1 j h0 e hj
/-- the least child comes up -/
theorem HpDn.step (htr : ∀ a b c, le a b → le b c → le a c) {L : List α} {i k : Nat} (hi : i < L.length) (hk : k < L.length) (k0 : 0 < k) (hki : (k - 1) / 2 = i) (h : HpDn le L i) (hlt : le L[k] L[i]) (hmin : ∀ j (_ : 0 < j) (_ : (j - 1) / 2 = i) (hj : j < L.length), le L[k] L[j]) : HpDn le (swp L k i hk hi) k := by
  refine ⟨fun j j0 hne hj => ?_, fun j j0 hp0 hp hj => ?_⟩
  · rw [swp_get, swp_get]
    rw [swp_len] at hj
    by_cases e1 : j = k
    · subst e1
      rw [if_pos hki, if_neg (by omega), if_pos rfl]
      exact hlt
    · by_cases e2 : (j - 1) / 2 = i
      · rw [if_pos e2, if_neg (by omega), if_neg e1]
        exact hmin j j0 e2 hj
      · rw [if_neg e2, if_neg hne]
        by_cases e3 : j = i
        · rw [if_pos e3]
          subst e3
          have := h.2 k k0 j0 hki hk
          exact this
        · rw [if_neg e3, if_neg e1]
          exact h.1 j j0 e2 hj
  · rw [swp_get, swp_get]
    rw [swp_len] at hj
    rw [if_pos hki, if_neg (by omega), if_neg (by omega)]
    have := h.1 j j0 (by omega) hj
    simp only [hp] at this
    exact this
end
end Plain
end Go.Proofs.YtbfhhnpoogmlnaaDoor
