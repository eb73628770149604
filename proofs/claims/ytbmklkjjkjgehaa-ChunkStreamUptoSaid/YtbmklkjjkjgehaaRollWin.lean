/- Plain facts on the rolling checksum: a window of sixteen bytes that rolls. -/
import Derived.Test.YtbmklkjjkjgehaaRollSum
namespace Go.Proofs.Ytbmklkjjkjgehaa.Plain
theorem shf_zero' : shf 0 = 0 := by decide +kernel
def shfN : Nat → Nat → Nat
  | 0, n => n
  | k + 1, n => shfN k (shf n)
theorem shfN_succ (k n : Nat) : shfN (k + 1) n = shf (shfN k n) := by
  induction k generalizing n with
  | zero => rfl
  | succ k ih => exact ih (shf n)
theorem shfN_lt (k n : Nat) (h : n < 2 ^ 31) : shfN k n < 2 ^ 31 := by
  induction k generalizing n with
  | zero => exact h
  | succ k ih => exact ih _ (shf_lt n (Nat.lt_trans h (by decide)))
theorem rfold_shfN (o : Nat) (l : List Nat) : rfold o l = rfold 0 l ^^^ shfN l.length o := by
  have h := rfold_xor 0 o l (List.replicate l.length 0) (by simp)
  have h1 : List.zipWith (· ^^^ ·) l (List.replicate l.length 0) = l := by
    induction l with
    | nil => rfl
    | cons x l ih =>
      simp [List.replicate_succ]
      have := ih (rfold_xor 0 o l (List.replicate l.length 0) (by simp))
      exact this
  have h2 : ∀ (k n : Nat), rfold n (List.replicate k 0) = shfN k n := by
    intro k
    induction k with
    | zero => intro n; rfl
    | succ k ih =>
      intro n
      show rfold (shf n ^^^ 0) (List.replicate k 0) = shfN k (shf n)
      rw [Nat.xor_zero, ih]
  rw [h1, h2, Nat.zero_xor] at h
  exact h
theorem rfold_zeros (k : Nat) (l : List Nat) : rfold 0 (List.replicate k 0 ++ l) = rfold 0 l := by
  induction k with
  | zero => simp
  | succ k ih =>
    rw [List.replicate_succ, List.cons_append]
    show rfold (shf 0 ^^^ 0) (List.replicate k 0 ++ l) = _
    rw [shf_zero', Nat.xor_zero, ih]
/-- the padded list's last sixteen -/
theorem rof_pad (l : List Nat) : rof l = rfold 0 ((List.replicate 16 0 ++ l).drop l.length) := by
  unfold rof
  rcases Nat.lt_or_ge l.length 16 with h | h
  · rw [show l.length - 16 = 0 by omega, List.drop_zero, List.drop_append]
    simp only [List.drop_replicate, List.length_replicate]
    rw [rfold_zeros, show l.length - 16 = 0 by omega, List.drop_zero]
  · rw [List.drop_append]
    simp only [List.drop_replicate, List.length_replicate]
    rw [show 16 - l.length = 0 by omega]
    simp
theorem rof_push (l : List Nat) (b : Nat) : rof (l ++ [b]) = shf (rof l ^^^ shfN 15 ((List.replicate 16 0 ++ l).getD l.length 0)) ^^^ b := by
  rw [rof_pad, rof_pad, ← List.append_assoc]
  have hlen : (List.replicate 16 0 ++ l).length = l.length + 16 := by simp
  generalize List.replicate 16 0 ++ l = P at *
  have hd : P.drop l.length = P.getD l.length 0 :: P.drop (l.length + 1) := by
    rw [List.drop_eq_getElem_cons (by omega), List.getD_eq_getElem?_getD, List.getElem?_eq_getElem (by omega)]
    rfl
  have e1 : rfold 0 (P.drop l.length) = rfold (P.getD l.length 0) (P.drop (l.length + 1)) := by
    rw [hd]
    show rfold (shf 0 ^^^ _) _ = _
    rw [shf_zero', Nat.zero_xor]
  have e2 := rfold_shfN (P.getD l.length 0) (P.drop (l.length + 1))
  rw [List.length_drop, hlen, show l.length + 16 - (l.length + 1) = 15 by omega] at e2
  have e3 : (P ++ [b]).drop (l.length + 1) = P.drop (l.length + 1) ++ [b] := by rw [List.drop_append_of_le_length (by omega)]
  rw [List.length_append, List.length_singleton, e3, rfold_snoc, e1, e2, Nat.xor_assoc, Nat.xor_self, Nat.xor_zero]
/-- the window of what was pushed -/
def Win (l win : List Nat) : Prop := win.length = 16 ∧ (∀ c ∈ win, c < 256) ∧ ∀ d, d < 16 → win.getD ((l.length + d) % 16) 0 = (List.replicate 16 0 ++ l).getD (l.length + d) 0
theorem Win.nil : Win [] (List.replicate 16 0) := ⟨by simp, by simp, by decide⟩
theorem Win.push {l win : List Nat} (h : Win l win) (b : Nat) (hb : b < 256) : Win (l ++ [b]) (win.set (l.length % 16) b) := by
  refine ⟨by simp [h.1], ?_, ?_⟩
  · intro c hc
    rcases List.mem_or_eq_of_mem_set hc with h1 | rfl
    · exact h.2.1 c h1
    · exact hb
  · intro d hd
    have hl := h.1
    have hP := fun d hd => h.2.2 d hd
    have hlen : (List.replicate 16 0 ++ l).length = l.length + 16 := by simp
    rw [← List.append_assoc, List.length_append, List.length_singleton]
    generalize List.replicate 16 0 ++ l = P at *
    simp only [List.getD_eq_getElem?_getD, List.getElem?_set] at *
    by_cases e : d = 15
    · subst e
      rw [if_pos (by omega), if_pos (by omega)]
      rw [List.getElem?_append_right (by omega), hlen, show l.length + 1 + 15 - (l.length + 16) = 0 by omega]
      rfl
    · rw [if_neg (by omega)]
      have := hP (d + 1) (by omega)
      rw [show l.length + 1 + d = l.length + (d + 1) by omega, this, List.getElem?_append_left (by omega)]
theorem Win.old {l win : List Nat} (h : Win l win) : win.getD (l.length % 16) 0 = (List.replicate 16 0 ++ l).getD l.length 0 := by
  have := h.2.2 0 (by omega)
  simpa using this
theorem rof_last (s t : List Nat) (h : 16 ≤ t.length) : rof (s ++ t) = rof t := by
  unfold rof
  rw [List.length_append, List.drop_append, List.drop_eq_nil_of_le (by omega), List.nil_append]
  congr 2
  omega
end Go.Proofs.Ytbmklkjjkjgehaa.Plain
