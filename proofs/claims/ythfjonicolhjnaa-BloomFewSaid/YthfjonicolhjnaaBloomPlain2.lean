/- Plain facts on filters into which a list of names was put. -/
import Derived.Test.YthfjonicolhjnaaBloomFacts2
namespace Go.Proofs.Ythfjonicolhjnaa
open Go.RowKit Plain
namespace Plain
def addl (l x : List Nat) : List Nat := badd l (bpos x 0) (bpos x 1) (bpos x 2) (bpos x 3)
def hasl (l x : List Nat) : Bool := bitb l (bpos x 0) && bitb l (bpos x 1) && bitb l (bpos x 2) && bitb l (bpos x 3)
theorem bpos_lt (x : List Nat) (i : Nat) : bpos x i < 1024 := Nat.mod_lt _ (by decide)
theorem addl_ok {l : List Nat} (h : IsB l) (x : List Nat) : IsB (addl l x) := badd_ok h _ _ _ _
theorem fold_ok {l : List Nat} (h : IsB l) : ∀ ids : List (List Nat), IsB (ids.foldl addl l)
  | [] => h
  | x :: ids => fold_ok (addl_ok h x) ids
theorem bitb_addl {l : List Nat} (h : IsB l) (x : List Nat) (j : Nat) (hb : bitb l j = true) : bitb (addl l x) j = true := by
  unfold addl
  rw [bitb_badd _ _ _ _ _ _ h (bpos_lt x 0) (bpos_lt x 1) (bpos_lt x 2) (bpos_lt x 3), hb]
  simp
theorem bitb_fold (j : Nat) : ∀ (ids : List (List Nat)) {l : List Nat}, IsB l → bitb l j = true → bitb (ids.foldl addl l) j = true
  | [], _, _, hb => hb
  | x :: ids, _, h, hb => bitb_fold j ids (addl_ok h x) (bitb_addl h x j hb)
theorem hasl_addl {l : List Nat} (h : IsB l) (x : List Nat) : hasl (addl l x) x = true := has_badd h x
theorem hasl_fold {l : List Nat} (h : IsB l) (ids : List (List Nat)) (x : List Nat) (hx : hasl l x = true) : hasl (ids.foldl addl l) x = true := by
  unfold hasl at hx ⊢
  simp only [Bool.and_eq_true] at hx ⊢
  exact ⟨⟨⟨bitb_fold _ ids h hx.1.1.1, bitb_fold _ ids h hx.1.1.2⟩, bitb_fold _ ids h hx.1.2⟩, bitb_fold _ ids h hx.2⟩
theorem hasl_mem (x : List Nat) : ∀ (ids : List (List Nat)) {l : List Nat}, IsB l → x ∈ ids → hasl (ids.foldl addl l) x = true
  | y :: ids, _, h, hm => by
    rcases List.mem_cons.1 hm with rfl | hm
    · exact hasl_fold (addl_ok h x) ids x (hasl_addl h x)
    · exact hasl_mem x ids (addl_ok h y) hm
theorem join_fold {l : List Nat} (h : IsB l) (ids : List (List Nat)) : bjoin l (ids.foldl addl l) = ids.foldl addl l := by
  refine ext_bits (bjoin_ok h (fold_ok h ids)) (fold_ok h ids) fun j hj => ?_
  rw [bitb_bjoin _ _ _ h.1 (fold_ok h ids).1 hj]
  cases hb : bitb l j with
  | false => rfl
  | true => rw [bitb_fold j ids h hb]; rfl
theorem hasl_zeros (x : List Nat) : hasl (List.replicate 16 0) x = false := by
  unfold hasl
  rw [bitb_zeros]
  rfl
end Plain
end Go.Proofs.Ythfjonicolhjnaa
