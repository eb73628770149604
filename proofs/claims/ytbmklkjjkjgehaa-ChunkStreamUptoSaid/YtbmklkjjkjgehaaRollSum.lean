/- Plain facts on the rolling checksum: it is linear. -/
import Derived.Test.YtbmklkjjkjgehaaRollPlain
namespace Go.Proofs.Ytbmklkjjkjgehaa.Plain
/-- times x^8 -/
def shf (n : Nat) : Nat := red (n <<< 8)
theorem shf_lin : Lin shf := Lin.comp (f := red) (g := fun n => n <<< 8) red_lin (Lin.shl 8)
theorem shf_lt (n : Nat) (h : n < 2 ^ 32) : shf n < 2 ^ 31 := by
  apply red_lt
  rw [Nat.shiftLeft_eq]
  exact Nat.lt_of_lt_of_le (Nat.mul_lt_mul_of_pos_right h (by decide)) (by decide)
def rfold (n : Nat) (l : List Nat) : Nat := l.foldl (fun n b => shf n ^^^ b) n
theorem rfold_snoc (n : Nat) (l : List Nat) (b : Nat) : rfold n (l ++ [b]) = shf (rfold n l) ^^^ b := by simp [rfold, List.foldl_append]
theorem rfold_lt (n : Nat) (l : List Nat) (hn : n < 2 ^ 31) (hl : ∀ b ∈ l, b < 256) : rfold n l < 2 ^ 31 := by
  induction l generalizing n with
  | nil => exact hn
  | cons b l ih =>
    refine ih _ ?_ fun c hc => hl c (List.mem_cons_of_mem _ hc)
    exact Nat.xor_lt_two_pow (shf_lt n (Nat.lt_trans hn (by decide))) (Nat.lt_trans (hl b (by simp)) (by decide))
def rof (l : List Nat) : Nat := rfold 0 (l.drop (l.length - 16))
theorem rof_lt (l : List Nat) (hl : ∀ b ∈ l, b < 256) : rof l < 2 ^ 31 := rfold_lt 0 _ (by decide) fun b hb => hl b (List.mem_of_mem_drop hb)
theorem rfold_xor (n m : Nat) (l k : List Nat) (h : l.length = k.length) : rfold (n ^^^ m) (List.zipWith (· ^^^ ·) l k) = rfold n l ^^^ rfold m k := by
  induction l generalizing n m k with
  | nil => cases k with
    | nil => rfl
    | cons => simp at h
  | cons b l ih => cases k with
    | nil => simp at h
    | cons c k =>
      show rfold (shf (n ^^^ m) ^^^ (b ^^^ c)) (List.zipWith (· ^^^ ·) l k) = rfold (shf n ^^^ b) l ^^^ rfold (shf m ^^^ c) k
      rw [shf_lin, ← ih _ _ _ (by simpa using h)]
      congr 1
      ac_rfl
theorem rof_xor (l k : List Nat) (h : l.length = k.length) : rof (List.zipWith (· ^^^ ·) l k) = rof l ^^^ rof k := by
  unfold rof
  rw [List.length_zipWith, List.drop_zipWith, ← h, Nat.min_self]
  have := rfold_xor 0 0 (l.drop (l.length - 16)) (k.drop (l.length - 16)) (by simp [h])
  simpa using this
end Go.Proofs.Ytbmklkjjkjgehaa.Plain
