/- Plain facts on filters: adding sets four bits and only adds; union is a semilattice. -/
import Derived.Test.YthfjonicolhjnaaBloomJoin
namespace Go.Proofs.Ythfjonicolhjnaa
open Plain
namespace Plain
/-- a filter -/
def IsB (l : List Nat) : Prop := l.length = 16 ∧ ∀ c ∈ l, c < 18446744073709551616
theorem setb_ok {l : List Nat} (h : IsB l) (k : Nat) : IsB (setb l k) := ⟨by rw [setb_length]; exact h.1, setb_lt l k h.2⟩
theorem bjoin_ok {l m : List Nat} (hl : IsB l) (hm : IsB m) : IsB (bjoin l m) := ⟨bjoin_length l m hl.1 hm.1, bjoin_lt l m hl.2 hm.2⟩
theorem zeros_ok : IsB (List.replicate 16 0) := ⟨by simp, by simp⟩
theorem setb_getD (l : List Nat) (k i : Nat) (h : l.length = 16) (hk : k < 1024) : (setb l k).getD i 0 = if i = k / 64 then l.getD (k / 64) 0 ||| 2 ^ (k % 64) else l.getD i 0 :=
  set_getD' _ _ _ _ (by rw [h]; omega)
theorem bitb_setb (l : List Nat) (k j : Nat) (h : l.length = 16) (hk : k < 1024) : bitb (setb l k) j = (bitb l j || decide (j = k)) := by
  unfold bitb
  rw [setb_getD l k _ h hk]
  by_cases e : j / 64 = k / 64
  · rw [if_pos e, Nat.testBit_or, Nat.testBit_two_pow, e]
    congr 1
    rw [decide_eq_decide]
    omega
  · rw [if_neg e]
    have : j ≠ k := fun h => e (by rw [h])
    simp [this]
theorem bitb_bjoin (l m : List Nat) (j : Nat) (hl : l.length = 16) (hm : m.length = 16) (hj : j < 1024) : bitb (bjoin l m) j = (bitb l j || bitb m j) := by
  unfold bitb
  rw [bjoin_getD l m hl hm _ (by omega), Nat.testBit_or]
/-- filters are known by their bits -/
theorem ext_bits {l m : List Nat} (hl : IsB l) (hm : IsB m) (h : ∀ j, j < 1024 → bitb l j = bitb m j) : l = m := by
  apply ext_getD (by rw [hl.1, hm.1])
  intro i hi
  rw [hl.1] at hi
  apply Nat.eq_of_testBit_eq
  intro b
  by_cases hb : b < 64
  · have := h (i * 64 + b) (by omega)
    unfold bitb at this
    rw [show (i * 64 + b) / 64 = i by omega, show (i * 64 + b) % 64 = b by omega] at this
    exact this
  · have h1 := getD_lt64 l hl.2 i
    have h2 := getD_lt64 m hm.2 i
    have hp : 18446744073709551616 ≤ 2 ^ b := by
      have : 2 ^ 64 ≤ 2 ^ b := Nat.pow_le_pow_right (by decide) (by omega)
      exact this
    rw [Nat.testBit_lt_two_pow (Nat.lt_of_lt_of_le h1 hp), Nat.testBit_lt_two_pow (Nat.lt_of_lt_of_le h2 hp)]
/-- what Add gives -/
def badd (l : List Nat) (p0 p1 p2 p3 : Nat) : List Nat := setb (setb (setb (setb l p0) p1) p2) p3
def bhas (l : List Nat) (p0 p1 p2 p3 : Nat) : Bool := bitb l p0 && bitb l p1 && bitb l p2 && bitb l p3
theorem badd_ok {l : List Nat} (h : IsB l) (p0 p1 p2 p3 : Nat) : IsB (badd l p0 p1 p2 p3) := setb_ok (setb_ok (setb_ok (setb_ok h _) _) _) _
theorem bitb_badd (l : List Nat) (p0 p1 p2 p3 j : Nat) (h : IsB l) (h0 : p0 < 1024) (h1 : p1 < 1024) (h2 : p2 < 1024) (h3 : p3 < 1024) :
    bitb (badd l p0 p1 p2 p3) j = (bitb l j || decide (j = p0) || decide (j = p1) || decide (j = p2) || decide (j = p3)) := by
  unfold badd
  rw [bitb_setb _ _ _ (by simp only [setb_length]; exact h.1) h3, bitb_setb _ _ _ (by simp only [setb_length]; exact h.1) h2, bitb_setb _ _ _ (by simp only [setb_length]; exact h.1) h1, bitb_setb _ _ _ h.1 h0]
theorem bjoin_comm (l m : List Nat) : bjoin l m = bjoin m l := by
  unfold bjoin
  rw [List.zipWith_comm]
  congr 1
  funext a b
  exact Nat.or_comm _ _
theorem bjoin_assoc {l m k : List Nat} (hl : IsB l) (hm : IsB m) (hk : IsB k) : bjoin (bjoin l m) k = bjoin l (bjoin m k) := by
  apply ext_bits (bjoin_ok (bjoin_ok hl hm) hk) (bjoin_ok hl (bjoin_ok hm hk))
  intro j hj
  rw [bitb_bjoin _ _ _ (bjoin_ok hl hm).1 hk.1 hj, bitb_bjoin _ _ _ hl.1 hm.1 hj, bitb_bjoin _ _ _ hl.1 (bjoin_ok hm hk).1 hj, bitb_bjoin _ _ _ hm.1 hk.1 hj, Bool.or_assoc]
theorem bjoin_self {l : List Nat} (hl : IsB l) : bjoin l l = l := by
  apply ext_bits (bjoin_ok hl hl) hl
  intro j hj
  rw [bitb_bjoin _ _ _ hl.1 hl.1 hj, Bool.or_self]
theorem bitb_zeros (j : Nat) : bitb (List.replicate 16 0) j = false := by
  unfold bitb
  have : (List.replicate 16 0).getD (j / 64) 0 = 0 := by
    rw [List.getD_eq_getElem?_getD, List.getElem?_replicate]
    split <;> rfl
  rw [this, Nat.zero_testBit]
theorem bjoin_zeros {l : List Nat} (hl : IsB l) : bjoin (List.replicate 16 0) l = l := by
  apply ext_bits (bjoin_ok zeros_ok hl) hl
  intro j hj
  rw [bitb_bjoin _ _ _ zeros_ok.1 hl.1 hj, bitb_zeros, Bool.false_or]
end Plain
end Go.Proofs.Ythfjonicolhjnaa
