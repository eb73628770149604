/- Plain laws of the canonical codes: lengths with a Kraft sum of at most a whole have codes, and none is a beginning of another. -/
import Derived.WalkKit
namespace Go.Proofs.YtbfhhnpoogmlnaaDoor
namespace Plain
/-- the sum of what is told, over the first n -/
def sumIf (p : Nat → Bool) (f : Nat → Nat) : Nat → Nat
  | 0 => 0
  | n + 1 => sumIf p f n + if p n then f n else 0
theorem sumIf_congr {p q : Nat → Bool} {f : Nat → Nat} : ∀ (n : Nat), (∀ t, t < n → p t = q t) → sumIf p f n = sumIf q f n
  | 0, _ => rfl
  | n + 1, h => by rw [sumIf, sumIf, sumIf_congr n (fun t ht => h t (by omega)), h n (by omega)]
theorem sumIf_le {p q : Nat → Bool} {f : Nat → Nat} : ∀ (n : Nat), (∀ t, t < n → p t = true → q t = true) → sumIf p f n ≤ sumIf q f n
  | 0, _ => Nat.le_refl _
  | n + 1, h => by
    have ih := sumIf_le (f := f) n (fun t ht => h t (by omega))
    rw [sumIf, sumIf]
    by_cases hp : p n = true
    · rw [if_pos hp, if_pos (h n (by omega) hp)]; omega
    · rw [if_neg hp]; split <;> omega
theorem sumIf_more {p q : Nat → Bool} {f : Nat → Nat} {i : Nat} : ∀ (n : Nat), (∀ t, t < n → p t = true → q t = true) → i < n → p i = false → q i = true → sumIf p f n + f i ≤ sumIf q f n
  | 0, _, hi, _, _ => by omega
  | n + 1, h, hi, h1, h2 => by
    rw [sumIf, sumIf]
    by_cases e : i = n
    · subst e
      have := sumIf_le (f := f) i (fun t ht => h t (by omega))
      rw [if_neg (by simp [h1]), if_pos h2]
      omega
    · have ih := sumIf_more (f := f) n (fun t ht => h t (by omega)) (by omega) h1 h2
      by_cases hp : p n = true
      · rw [if_pos hp, if_pos (h n (by omega) hp)]; omega
      · rw [if_neg hp]; split <;> omega
theorem sumIf_one {p q : Nat → Bool} {f : Nat → Nat} {i : Nat} : ∀ (n : Nat), (∀ t, t < n → t ≠ i → p t = q t) → i < n → p i = false → q i = true → sumIf q f n = sumIf p f n + f i
  | 0, _, hi, _, _ => by omega
  | n + 1, h, hi, h1, h2 => by
    rw [sumIf, sumIf]
    by_cases e : i = n
    · subst e
      have := sumIf_congr (f := f) i (fun t ht => h t (by omega) (by omega))
      rw [if_pos h2, if_neg (by rw [h1]; decide), this]
      omega
    · have ih := sumIf_one (f := f) n (fun t ht => h t (by omega)) (by omega) h1 h2
      rw [h n (by omega) (fun e' => e e'.symm), ih]
      omega
/-- what a length takes of the whole -/
def wt (l : List Int) (t : Nat) : Nat := 2 ^ (48 - (l.getD t 0).toNat)
/-- is a sign ahead of the place (n, s)? -/
def ahead (l : List Int) (n s t : Nat) : Bool := decide (0 < l.getD t 0 ∧ (l.getD t 0 < n ∨ l.getD t 0 = n ∧ t < s))
/-- what all ahead of a place take -/
def pos (l : List Int) (n s : Nat) : Nat := sumIf (ahead l n s) (wt l) l.length
/-- the Kraft sum -/
def ks (l : List Int) : Nat := sumIf (fun t => decide (0 < l.getD t 0)) (wt l) l.length
theorem pos_start (l : List Int) : pos l 1 0 = 0 := by
  unfold pos
  have : ∀ n, sumIf (ahead l 1 0) (wt l) n = 0 := by
    intro n
    induction n with
    | zero => rfl
    | succ n ih => rw [sumIf, ih, if_neg (by simp [ahead]; omega)]
  exact this _
theorem pos_skip (l : List Int) (n s : Nat) (hn : l.getD s 0 ≠ n) : pos l n (s + 1) = pos l n s := by
  unfold pos
  apply sumIf_congr
  intro t ht
  unfold ahead
  apply decide_eq_decide.2
  by_cases h : t = s
  · subst h; omega
  · omega
theorem pos_take (l : List Int) (n s : Nat) (hs : s < l.length) (h0 : 0 < n) (hn : l.getD s 0 = n) : pos l n (s + 1) = pos l n s + wt l s := by
  unfold pos
  refine sumIf_one (i := s) _ (fun t ht hne => ?_) hs ?_ ?_
  · unfold ahead
    apply decide_eq_decide.2
    omega
  · simp only [ahead, decide_eq_false_iff_not]; omega
  · simp only [ahead, decide_eq_true_eq]; omega
theorem pos_round (l : List Int) (n : Nat) : pos l (n + 1) 0 = pos l n l.length := by
  unfold pos
  apply sumIf_congr
  intro t ht
  unfold ahead
  apply decide_eq_decide.2
  omega
theorem pos_le (l : List Int) (n s : Nat) : pos l n s ≤ ks l := by
  unfold pos ks
  apply sumIf_le
  intro t ht h
  simp only [ahead, decide_eq_true_eq] at h ⊢
  exact h.1
/-- a sign's place, and its own part, lie in the whole -/
theorem pos_in (l : List Int) (i : Nat) (hi : i < l.length) (h : 0 < l.getD i 0) : pos l (l.getD i 0).toNat i + wt l i ≤ ks l := by
  unfold pos ks
  refine sumIf_more (i := i) _ (fun t ht h => ?_) hi ?_ ?_
  · simp only [ahead, decide_eq_true_eq] at h ⊢
    exact h.1
  · simp only [ahead, decide_eq_false_iff_not]; omega
  · simpa using h
theorem pos_apart (l : List Int) (i j : Nat) (hi : i < l.length) (h0 : 0 < l.getD i 0) (h : l.getD i 0 < l.getD j 0 ∨ l.getD i 0 = l.getD j 0 ∧ i < j) : pos l (l.getD i 0).toNat i + wt l i ≤ pos l (l.getD j 0).toNat j := by
  unfold pos
  refine sumIf_more (i := i) _ (fun t ht h => ?_) hi ?_ ?_
  · simp only [ahead, decide_eq_true_eq] at h ⊢
    omega
  · simp only [ahead, decide_eq_false_iff_not]; omega
  · simp only [ahead, decide_eq_true_eq]; omega
/-- the codes -/
def IsCode (l : List Int) (c : List Nat) : Prop := c.length = l.length ∧ ∀ t, t < l.length → 0 < l.getD t 0 → c.getD t 0 * wt l t = pos l (l.getD t 0).toNat t
theorem wt_pos (l : List Int) (t : Nat) : 0 < wt l t := Nat.two_pow_pos _
/-- each code has no more bits than its length -/
theorem code_short {l : List Int} {c : List Nat} (h : IsCode l c) (hb : ∀ n ∈ l, n ≤ 48) (hk : ks l ≤ 2 ^ 48) {i : Nat} (hi : i < l.length) (h0 : 0 < l.getD i 0) : c.getD i 0 / 2 ^ (l.getD i 0).toNat = 0 := by
  apply Nat.div_eq_of_lt
  have h1 := h.2 i hi h0
  have h2 := pos_in l i hi h0
  have hle : l.getD i 0 ≤ 48 := by rw [List.getD_eq_getElem?_getD, List.getElem?_eq_getElem hi]; exact hb _ (List.getElem_mem hi)
  have e : 2 ^ 48 = 2 ^ (l.getD i 0).toNat * wt l i := by unfold wt; rw [← Nat.pow_add]; congr 1; omega
  have hw := wt_pos l i
  rcases Nat.lt_or_ge (c.getD i 0) (2 ^ (l.getD i 0).toNat) with hlt | hge
  · exact hlt
  · have := Nat.mul_le_mul_right (wt l i) hge
    omega
/-- no code is a beginning of another -/
theorem code_free {l : List Int} {c : List Nat} (h : IsCode l c) (hb : ∀ n ∈ l, n ≤ 48) {i j : Nat} (hi : i < l.length) (hj : j < l.length) (hne : i ≠ j) (h0 : 0 < l.getD i 0) (hle : l.getD i 0 ≤ l.getD j 0) : c.getD j 0 / 2 ^ (l.getD j 0 - l.getD i 0).toNat ≠ c.getD i 0 := by
  intro e
  have h1 := h.2 i hi h0
  have h2 := h.2 j hj (by omega)
  have hbj : l.getD j 0 ≤ 48 := by rw [List.getD_eq_getElem?_getD, List.getElem?_eq_getElem hj]; exact hb _ (List.getElem_mem hj)
  have hw : wt l i = 2 ^ (l.getD j 0 - l.getD i 0).toNat * wt l j := by unfold wt; rw [← Nat.pow_add]; congr 1; omega
  have hwj := wt_pos l j
  have hlo : pos l (l.getD i 0).toNat i ≤ pos l (l.getD j 0).toNat j := by
    rw [← h1, ← h2, ← e, hw, ← Nat.mul_assoc]
    exact Nat.mul_le_mul_right _ (Nat.div_mul_le_self _ _)
  have hhi : pos l (l.getD j 0).toNat j < pos l (l.getD i 0).toNat i + wt l i := by
    rw [← h1, ← h2, ← e, hw]
    have := Nat.lt_div_mul_add (a := c.getD j 0) (b := 2 ^ (l.getD j 0 - l.getD i 0).toNat) (Nat.two_pow_pos _)
    have := Nat.mul_lt_mul_of_pos_right this hwj
    rw [Nat.add_mul, Nat.mul_assoc] at this
    exact this
  by_cases hlt : l.getD i 0 < l.getD j 0 ∨ l.getD i 0 = l.getD j 0 ∧ i < j
  · have := pos_apart l i j hi h0 hlt
    omega
  · have := pos_apart l j i hj (by omega) (by omega)
    omega
theorem code_one {l : List Int} {c d : List Nat} (h : IsCode l c) (h' : IsCode l d) (hz : ∀ t, t < l.length → ¬ 0 < l.getD t 0 → c.getD t 0 = d.getD t 0) : c = d := by
  apply List.ext_getElem?
  intro i
  by_cases hi : i < l.length
  · have e : c.getD i 0 = d.getD i 0 := by
      by_cases h0 : 0 < l.getD i 0
      · exact Nat.eq_of_mul_eq_mul_right (wt_pos l i) ((h.2 i hi h0).trans (h'.2 i hi h0).symm)
      · exact hz i hi h0
    have hc : i < c.length := by rw [h.1]; exact hi
    have hd : i < d.length := by rw [h'.1]; exact hi
    simp only [List.getD_eq_getElem?_getD, List.getElem?_eq_getElem hc, List.getElem?_eq_getElem hd, Option.getD_some] at e
    rw [List.getElem?_eq_getElem hc, List.getElem?_eq_getElem hd, e]
  · rw [List.getElem?_eq_none (by rw [h.1]; omega), List.getElem?_eq_none (by rw [h'.1]; omega)]
theorem ks_le (l : List Int) : ks l ≤ l.length * 140737488355328 := by
  unfold ks
  have hw : ∀ n, 0 < l.getD n 0 → wt l n ≤ 140737488355328 := by
    intro n h
    have h1 : wt l n ≤ 2 ^ 47 := Nat.pow_le_pow_right (by decide) (by omega)
    have h2 : (2 : Nat) ^ 47 = 140737488355328 := by decide +kernel
    rwa [h2] at h1
  have : ∀ n, sumIf (fun t => decide (0 < l.getD t 0)) (wt l) n ≤ n * 140737488355328 := by
    intro n
    induction n with
    | zero => simp [sumIf]
    | succ n ih =>
      rw [sumIf, Nat.succ_mul]
      split
      · rename_i h
        exact Nat.add_le_add ih (hw n (of_decide_eq_true h))
      · exact Nat.le_trans ih (Nat.le_add_right _ _)
  exact this _
end Plain
end Go.Proofs.YtbfhhnpoogmlnaaDoor
