/- HuffLeast: its walk. -/
import Derived.Test.YtbfhhnpoogmlnaaDoorHuffTot
namespace Go.Proofs.YtbfhhnpoogmlnaaDoor
open Go.RowKit Plain
set_option linter.unusedVariables false
set_option linter.unusedSimpArgs false
theorem at0_bnd {f : List Int} {B : Nat} (h : ∀ (i : Nat) (h : i < f.length), f[i] ≤ (B : Int)) (i : Nat) : at0 (natF f) i ≤ B := by
  rcases Nat.lt_or_ge i f.length with h1 | h1
  · rw [at0_nat f i h1]
    have := h i h1
    omega
  · rw [at0, List.getD_eq_getElem?_getD, List.getElem?_eq_none (by rw [natF_len]; exact h1)]
    exact Nat.zero_le _
theorem sumIf_sum (p : Nat → Bool) (g : Nat → Nat) : ∀ n, sumIf p g n = sumS g ((List.range n).filter p)
  | 0 => rfl
  | n + 1 => by
    rw [List.range_succ, List.filter_append, sumS_append, ← sumIf_sum p g n]
    by_cases h : p n = true
    · simp [sumIf, h, sumS]
    · simp [sumIf, h, sumS]
theorem sumS_sub {g : Nat → Nat} {p q : Nat → Bool} (h : ∀ s, p s = true → q s = true) : ∀ (l : List Nat), sumS g (l.filter p) ≤ sumS g (l.filter q)
  | [] => Nat.le_refl _
  | a :: l => by
    have ih := sumS_sub (g := g) h l
    by_cases hp : p a = true
    · rw [List.filter_cons_of_pos hp, List.filter_cons_of_pos (h a hp), sumS_cons, sumS_cons]; omega
    · rw [List.filter_cons_of_neg hp]
      by_cases hq : q a = true
      · rw [List.filter_cons_of_pos hq, sumS_cons]; omega
      · rw [List.filter_cons_of_neg hq]; exact ih
theorem at0_natD (l : List Int) (i : Nat) : at0 (natF l) i = (l.getD i 0).toNat := by
  rcases Nat.lt_or_ge i l.length with h | h
  · rw [at0_nat l i h, List.getD_eq_getElem?_getD, List.getElem?_eq_getElem h]; rfl
  · rw [at0, List.getD_eq_getElem?_getD, List.getElem?_eq_none (by rw [natF_len]; exact h), List.getD_eq_getElem?_getD, List.getElem?_eq_none h]; rfl
/-- the Kraft sum over what is there is no more than that of all lengths -/
theorem kS_le_ks {F : List Nat} {l : List Int} (hl : F.length = l.length) (hp : ∀ s ∈ syms F, 0 < l.getD s 0) : kS (natF l) (syms F) ≤ ks l := by
  have e : ks l = sumS (wt l) ((List.range l.length).filter fun t => decide (0 < l.getD t 0)) := sumIf_sum _ _ _
  have e2 : kS (natF l) (syms F) = sumS (wt l) (syms F) := sumS_congr fun s _ => by rw [at0_natD]; rfl
  rw [e, e2]
  unfold syms
  rw [hl]
  have h2 : ∀ (L : List Nat), (∀ s ∈ L, s < l.length) → sumS (wt l) (L.filter fun s => decide (0 < at0 F s)) ≤ sumS (wt l) (L.filter fun t => decide (0 < l.getD t 0)) := fun L => by
    induction L with
    | nil => exact fun _ => Nat.le_refl _
    | cons a L ih =>
      intro hL
      have ih := ih fun s hs => hL s (List.mem_cons_of_mem _ hs)
      by_cases h1 : 0 < at0 F a
      · have h3 : 0 < l.getD a 0 := hp a (syms_mem.2 h1)
        rw [List.filter_cons_of_pos (by simpa using h1), List.filter_cons_of_pos (by simpa using h3), sumS_cons, sumS_cons]; omega
      · rw [List.filter_cons_of_neg (by simpa using h1)]
        by_cases h3 : 0 < l.getD a 0
        · rw [List.filter_cons_of_pos (by simpa using h3), sumS_cons]; omega
        · rw [List.filter_cons_of_neg (by simpa using h3)]; exact ih
  exact h2 _ fun s hs => List.mem_range.1 hs
theorem tot_511 {o : List Nat} (h : FinH [5, 1, 1] o) : tot [5, 1, 1] o = 9 := by
  have hs : syms [5, 1, 1] = [0, 1, 2] := by decide
  have ht : ∀ l : List Nat, tot [5, 1, 1] l = 5 * at0 l 0 + (at0 l 1 + at0 l 2) := fun l => by
    simp [tot, sumS, at0, List.range_succ]
  have h1 := h.opt [1, 2, 2] (fun s _ => by
    match s with
    | 0 | 1 | 2 => simp [at0]
    | s + 3 => simp [at0]) (by rw [hs]; decide +kernel) (fun h => by rw [hs] at h; simp at h)
  rw [ht, ht] at h1
  have p0 := (h.pos 0).1 (by decide)
  have p1 := (h.pos 1).1 (by decide)
  have p2 := (h.pos 2).1 (by decide)
  have hk := h.kf
  rw [hs] at hk
  simp only [kS, sumS, List.map_cons, List.map_nil, List.sum_cons, List.sum_nil, List.length_cons, List.length_nil] at hk
  have e0 : at0 o 0 = 1 := by simp [at0] at h1 p0 p1 p2 ⊢; omega
  have e1 : 2 ≤ at0 o 1 := by
    rcases Nat.lt_or_ge 1 (at0 o 1) with h2 | h2
    · exact h2
    · exfalso
      have e : at0 o 1 = 1 := by omega
      rw [e0, e] at hk
      have : 0 < 2 ^ (48 - at0 o 2) := Nat.two_pow_pos _
      simp at hk
      omega
  have e2 : 2 ≤ at0 o 2 := by
    rcases Nat.lt_or_ge 1 (at0 o 2) with h2 | h2
    · exact h2
    · exfalso
      have e : at0 o 2 = 1 := by omega
      rw [e0, e] at hk
      have : 0 < 2 ^ (48 - at0 o 1) := Nat.two_pow_pos _
      simp at hk
      omega
  rw [ht]
  have h3 : 5 * at0 o 0 + (at0 o 1 + at0 o 2) ≤ 9 := h1
  omega
end Go.Proofs.YtbfhhnpoogmlnaaDoor
