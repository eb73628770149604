/- Plain law of press: what is written in the compressed form is read back. -/
import Derived.Test.YtbfhhnpoogmlnaaDoorPressPlain
namespace Go.Proofs.YtbfhhnpoogmlnaaDoor
namespace Plain
/-- bytes that hold these bits, with some zero bits behind them -/
def WB (o : List Nat) (k : Nat) (B : List Nat) : Prop := o.flatMap (bitsL · 8) = B ++ List.replicate k 0 ∧ k < 8 ∧ (0 < k → o ≠ []) ∧ ∀ b ∈ o, b < 256
theorem WB.nil : WB [] 0 [] := ⟨rfl, by decide, fun h => absurd h (by decide), by simp⟩
theorem bits_put : ∀ k, k < 8 → ∀ x, x < 256 → ∀ b, b < 2 → (bitsL x 8).drop (7 - k) = List.replicate (k + 1) 0 → bitsL (x ||| b * 2 ^ k) 8 = (bitsL x 8).take (7 - k) ++ b :: List.replicate k 0 ∧ x ||| b * 2 ^ k < 256 := by decide +kernel
theorem flat8_len : ∀ t : List Nat, (t.flatMap (bitsL · 8)).length = 8 * t.length
  | [] => rfl
  | x :: t => by rw [List.flatMap_cons, List.length_append, bitsL_length, flat8_len t, List.length_cons]; omega
/-- one bit more -/
theorem WB.put {o B : List Nat} {k b : Nat} (h : o.flatMap (bitsL · 8) = B ++ List.replicate (k + 1) 0) (hk : k < 8) (hne : o ≠ []) (hlt : ∀ c ∈ o, c < 256) (hb : b < 2) :
    WB (o.set (o.length - 1) (o.getD (o.length - 1) 0 ||| b * 2 ^ k)) k (B ++ [b]) := by
  obtain ⟨p, x, rfl⟩ := snoc_of o hne
  have hx : x < 256 := hlt x (by simp)
  have hg : (p ++ [x]).getD ((p ++ [x]).length - 1) 0 = x := by
    rw [List.length_append, List.length_singleton, Nat.add_sub_cancel, List.getD_eq_getElem?_getD, List.getElem?_append_right (Nat.le_refl _), Nat.sub_self]
    rfl
  have hs : ∀ v, (p ++ [x]).set ((p ++ [x]).length - 1) v = p ++ [v] := fun v => by
    rw [List.length_append, List.length_singleton, Nat.add_sub_cancel, List.set_append_right _ _ (Nat.le_refl _), Nat.sub_self]
    rfl
  rw [hg, hs]
  rw [List.flatMap_append, List.flatMap_singleton] at h
  have hl := congrArg List.length h
  simp only [List.length_append, bitsL_length, List.length_replicate] at hl
  have h1 : (bitsL x 8).drop (7 - k) = List.replicate (k + 1) 0 := by
    have h2 := congrArg (List.drop B.length) h
    rw [List.drop_append_of_le_length (Nat.le_refl _), List.drop_length, List.nil_append, show B.length = (p.flatMap (bitsL · 8)).length + (7 - k) by omega, List.drop_append] at h2
    rw [← h2]
    simp
  have h3 : B = p.flatMap (bitsL · 8) ++ (bitsL x 8).take (7 - k) := by
    have h2 := congrArg (List.take B.length) h
    rw [List.take_left, show B.length = (p.flatMap (bitsL · 8)).length + (7 - k) by omega, List.take_append] at h2
    rw [← h2, List.take_of_length_le (by omega), Nat.add_sub_cancel_left]
  obtain ⟨h4, h5⟩ := bits_put k hk x hx b hb h1
  refine ⟨?_, hk, fun _ => by simp, fun c hc => ?_⟩
  · rw [List.flatMap_append, List.flatMap_singleton, h4, h3]
    simp
  · rcases List.mem_append.1 hc with hc | hc
    · exact hlt c (List.mem_append_left _ hc)
    · rw [List.mem_singleton] at hc; subst hc; exact h5
theorem WB.grow {o B : List Nat} (h : WB o 0 B) : (o ++ [0]).flatMap (bitsL · 8) = B ++ List.replicate (7 + 1) 0 ∧ ∀ c ∈ o ++ [0], c < 256 := by
  refine ⟨?_, fun c hc => ?_⟩
  · rw [List.flatMap_append, List.flatMap_singleton, h.1]
    simp only [List.replicate_zero, List.append_nil]
    rfl
  · rcases List.mem_append.1 hc with hc | hc
    · exact h.2.2.2 c hc
    · rw [List.mem_singleton] at hc; omega
/-- all bits of a string of bytes are what was written, with less than eight zeros behind -/
theorem WB.strm {o B : List Nat} {k : Nat} (h : WB o k B) : Plain.strm o 8 = B ++ List.replicate k 0 := by rw [strm_flat]; exact h.1
end Plain
end Go.Proofs.YtbfhhnpoogmlnaaDoor
