/- Plain facts for BloomJoins. -/
import Derived.Test.YthfjonicolhjnaaBloomCalls
namespace Go.Proofs.Ythfjonicolhjnaa
open Go.RowKit Plain
theorem badd_join {l : List Nat} (hl : IsB l) (a : List Nat) : badd l (bpos a 0) (bpos a 1) (bpos a 2) (bpos a 3) = bjoin l (badd (List.replicate 16 0) (bpos a 0) (bpos a 1) (bpos a 2) (bpos a 3)) := by
  have h0 : ∀ i, bpos a i < 1024 := fun i => Nat.mod_lt _ (by decide)
  refine ext_bits (badd_ok hl _ _ _ _) (bjoin_ok hl (badd_ok zeros_ok _ _ _ _)) fun j hj => ?_
  rw [bitb_bjoin _ _ _ hl.1 (badd_ok zeros_ok _ _ _ _).1 hj, bitb_badd _ _ _ _ _ _ hl (h0 0) (h0 1) (h0 2) (h0 3), bitb_badd _ _ _ _ _ _ zeros_ok (h0 0) (h0 1) (h0 2) (h0 3), bitb_zeros]
  simp [Bool.or_assoc]
theorem has_badd {l : List Nat} (hl : IsB l) (a : List Nat) : (bitb (badd l (bpos a 0) (bpos a 1) (bpos a 2) (bpos a 3)) (bpos a 0) && bitb (badd l (bpos a 0) (bpos a 1) (bpos a 2) (bpos a 3)) (bpos a 1) && bitb (badd l (bpos a 0) (bpos a 1) (bpos a 2) (bpos a 3)) (bpos a 2) && bitb (badd l (bpos a 0) (bpos a 1) (bpos a 2) (bpos a 3)) (bpos a 3)) = true := by
  have h0 : ∀ i, bpos a i < 1024 := fun i => Nat.mod_lt _ (by decide)
  rw [bitb_badd _ _ _ _ _ _ hl (h0 0) (h0 1) (h0 2) (h0 3), bitb_badd _ _ _ _ _ _ hl (h0 0) (h0 1) (h0 2) (h0 3), bitb_badd _ _ _ _ _ _ hl (h0 0) (h0 1) (h0 2) (h0 3), bitb_badd _ _ _ _ _ _ hl (h0 0) (h0 1) (h0 2) (h0 3)]
  simp
theorem has_bjoin {l m : List Nat} (hl : IsB l) (hm : IsB m) (a : List Nat) (h : (bitb l (bpos a 0) && bitb l (bpos a 1) && bitb l (bpos a 2) && bitb l (bpos a 3)) = true) :
    (bitb (bjoin l m) (bpos a 0) && bitb (bjoin l m) (bpos a 1) && bitb (bjoin l m) (bpos a 2) && bitb (bjoin l m) (bpos a 3)) = true := by
  have h0 : ∀ i, bpos a i < 1024 := fun i => Nat.mod_lt _ (by decide)
  rw [bitb_bjoin _ _ _ hl.1 hm.1 (h0 0), bitb_bjoin _ _ _ hl.1 hm.1 (h0 1), bitb_bjoin _ _ _ hl.1 hm.1 (h0 2), bitb_bjoin _ _ _ hl.1 hm.1 (h0 3)]
  simp only [Bool.and_eq_true] at h
  simp [h.1.1.1, h.1.1.2, h.1.2, h.2]
end Go.Proofs.Ythfjonicolhjnaa
