/- Plain facts on xor over natural numbers: a map that respects xor is known by its values at the powers of two. -/

namespace Go.Proofs.YtpfmfigommmjiaaDoor.Plain
def Lin (f : Nat → Nat) : Prop := ∀ a b, f (a ^^^ b) = f a ^^^ f b
theorem Lin.zero {f : Nat → Nat} (h : Lin f) : f 0 = 0 := by
  have := h 0 0
  simpa using this
theorem Lin.comp {f g : Nat → Nat} (hf : Lin f) (hg : Lin g) : Lin (fun x => f (g x)) := fun a b => by
  show f (g (a ^^^ b)) = _
  rw [hg, hf]
theorem Lin.xor {f g : Nat → Nat} (hf : Lin f) (hg : Lin g) : Lin (fun x => f x ^^^ g x) := fun a b => by
  show f (a ^^^ b) ^^^ g (a ^^^ b) = (f a ^^^ g a) ^^^ (f b ^^^ g b)
  rw [hf, hg]
  ac_rfl
theorem Lin.id : Lin (fun x => x) := fun _ _ => rfl
theorem Lin.shl (i : Nat) : Lin (fun x => x <<< i) := fun _ _ => Nat.shiftLeft_xor_distrib
theorem Lin.shr (i : Nat) : Lin (fun x => x >>> i) := fun _ _ => Nat.shiftRight_xor_distrib
theorem Lin.bit (i c : Nat) : Lin (fun x => bif x.testBit i then c else 0) := fun a b => by
  show (bif (a ^^^ b).testBit i then c else 0) = (bif a.testBit i then c else 0) ^^^ (bif b.testBit i then c else 0)
  rw [Nat.testBit_xor]
  cases a.testBit i <;> cases b.testBit i <;> simp
theorem xor_top {a n : Nat} (h : a < 2 ^ (n + 1)) (ht : a.testBit n = true) : a ^^^ 2 ^ n < 2 ^ n := by
  apply Nat.lt_pow_two_of_testBit
  intro i hi
  rw [Nat.testBit_xor]
  by_cases e : i = n
  · subst e; simp [ht]
  · have h1 : a.testBit i = false := Nat.testBit_lt_two_pow (Nat.lt_of_lt_of_le h (Nat.pow_le_pow_right (by omega) (by omega)))
    rw [h1, Nat.testBit_two_pow]
    simp; omega
theorem lt_of_top {a n : Nat} (h : a < 2 ^ (n + 1)) (ht : a.testBit n = false) : a < 2 ^ n := by
  apply Nat.lt_pow_two_of_testBit
  intro i hi
  by_cases e : i = n
  · subst e; exact ht
  · exact Nat.testBit_lt_two_pow (Nat.lt_of_lt_of_le h (Nat.pow_le_pow_right (by omega) (by omega)))
theorem lin_ext {f g : Nat → Nat} (hf : Lin f) (hg : Lin g) : ∀ n, (∀ i, i < n → f (2 ^ i) = g (2 ^ i)) → ∀ a, a < 2 ^ n → f a = g a := by
  intro n
  induction n with
  | zero =>
    intro _ a ha
    have : a = 0 := by omega
    rw [this, hf.zero, hg.zero]
  | succ n ih =>
    intro h a ha
    cases ht : a.testBit n with
    | false => exact ih (fun i hi => h i (by omega)) a (lt_of_top ha ht)
    | true =>
      have e : a = (a ^^^ 2 ^ n) ^^^ 2 ^ n := by rw [Nat.xor_assoc, Nat.xor_self, Nat.xor_zero]
      rw [e, hf, hg, h n (by omega), ih (fun i hi => h i (by omega)) _ (xor_top ha ht)]
end Go.Proofs.YtpfmfigommmjiaaDoor.Plain
