/- Plain facts on filters of 1024 bits: setting and testing bits, union. -/
namespace Go.Proofs.Ythfjonicolhjnaa.Plain
def setb (l : List Nat) (k : Nat) : List Nat := l.set (k / 64) (l.getD (k / 64) 0 ||| 2 ^ (k % 64))
def bitb (l : List Nat) (k : Nat) : Bool := (l.getD (k / 64) 0).testBit (k % 64)
theorem setb_length (l : List Nat) (k : Nat) : (setb l k).length = l.length := by simp [setb]
theorem pow64_lt (k : Nat) : 2 ^ (k % 64) < 18446744073709551616 := by
  have h : 2 ^ (k % 64) ≤ 2 ^ 63 := Nat.pow_le_pow_right (by decide) (by omega)
  exact Nat.lt_of_le_of_lt h (by decide)
theorem or_lt64 {a b : Nat} (ha : a < 18446744073709551616) (hb : b < 18446744073709551616) : a ||| b < 18446744073709551616 :=
  Nat.or_lt_two_pow (n := 64) ha hb
theorem getD_lt64 (l : List Nat) (h : ∀ c ∈ l, c < 18446744073709551616) (i : Nat) : l.getD i 0 < 18446744073709551616 := by
  rw [List.getD_eq_getElem?_getD]
  by_cases hi : i < l.length
  · rw [List.getElem?_eq_getElem hi]; exact h _ (List.getElem_mem _)
  · rw [List.getElem?_eq_none (by omega)]; decide
theorem setb_lt (l : List Nat) (k : Nat) (h : ∀ c ∈ l, c < 18446744073709551616) : ∀ c ∈ setb l k, c < 18446744073709551616 := by
  intro c hc
  rcases List.mem_or_eq_of_mem_set hc with h1 | rfl
  · exact h c h1
  · exact or_lt64 (getD_lt64 l h _) (pow64_lt k)
end Go.Proofs.Ythfjonicolhjnaa.Plain
