/- Plain law of MixChain: two different strings of one narrow sum have steps that collide. -/
import Derived.Test.YtcocdlhjfbpkfaaMixApartPlain
namespace Go.Proofs.Ytcocdlhjfbpkfaa
open Go.RowKit Plain
namespace Plain
/-- the steps of a list of bytes, but for the last one: state, block, result -/
def tr (mask x : Nat) (l : List Nat) : List (Nat × Nat × Nat) :=
  if _h : l.length = 0 then [] else (x, leL (pad8 l), mstep x (leL (pad8 l)) &&& mask) :: tr mask (mstep x (leL (pad8 l)) &&& mask) (l.drop 8)
termination_by l.length
decreasing_by simp only [List.length_drop]; omega
theorem tr_nil (mask x : Nat) (l : List Nat) (h : l.length = 0) : tr mask x l = [] := by rw [tr, dif_pos h]
theorem tr_step (mask x : Nat) (l : List Nat) (h : l.length ≠ 0) : tr mask x l = (x, leL (pad8 l), mstep x (leL (pad8 l)) &&& mask) :: tr mask (mstep x (leL (pad8 l)) &&& mask) (l.drop 8) := by rw [tr, dif_neg h]
/-- all steps -/
def trAll (mask : Nat) (l : List Nat) : List (Nat × Nat × Nat) := tr mask 0 l ++ [(mfold mask 0 l, l.length, msum mask l)]
theorem chain_fold (mask : Nat) : ∀ (n : Nat) (l m : List Nat) (x y : Nat), l.length ≤ n → l.length = m.length → (∀ c ∈ l, c < 256) → (∀ c ∈ m, c < 256) →
    (∀ p ∈ tr mask x l, ∀ q ∈ tr mask y m, p.2.2 = q.2.2 → p.1 = q.1 ∧ p.2.1 = q.2.1) → mfold mask x l = mfold mask y m → x = y ∧ l = m
  | 0, l, m, x, y, hn, hlm, _, _, _, h => by
    have h0 : l.length = 0 := by omega
    have h1 : m.length = 0 := by omega
    rw [mfold_nil mask x l h0, mfold_nil mask y m h1] at h
    exact ⟨h, (List.eq_nil_of_length_eq_zero h0).trans (List.eq_nil_of_length_eq_zero h1).symm⟩
  | n + 1, l, m, x, y, hn, hlm, hl, hm, hc, h => by
    by_cases h0 : l.length = 0
    · have h1 : m.length = 0 := by omega
      rw [mfold_nil mask x l h0, mfold_nil mask y m h1] at h
      exact ⟨h, (List.eq_nil_of_length_eq_zero h0).trans (List.eq_nil_of_length_eq_zero h1).symm⟩
    · have h1 : m.length ≠ 0 := by omega
      rw [mfold_step mask x l h0, mfold_step mask y m h1] at h
      rw [tr_step mask x l h0, tr_step mask y m h1] at hc
      obtain ⟨e1, e2⟩ := chain_fold mask n (l.drop 8) (m.drop 8) _ _ (by rw [List.length_drop]; omega) (by rw [List.length_drop, List.length_drop, hlm]) (fun c hc => hl c (List.mem_of_mem_drop hc)) (fun c hc => hm c (List.mem_of_mem_drop hc))
        (fun p hp q hq => hc p (List.mem_cons_of_mem _ hp) q (List.mem_cons_of_mem _ hq)) h
      obtain ⟨a1, a2⟩ := hc _ List.mem_cons_self _ List.mem_cons_self e1
      have h3 := pad8_take hlm (leL_inj (pad8_length l) (pad8_length m) (pad8_lt l hl) (pad8_lt m hm) a2)
      exact ⟨a1, by rw [← List.take_append_drop 8 l, ← List.take_append_drop 8 m, h3, e2]⟩
theorem chain (mask : Nat) (l m : List Nat) (hl : ∀ c ∈ l, c < 256) (hm : ∀ c ∈ m, c < 256) (hne : l ≠ m) (h : msum mask l = msum mask m) :
    ∃ p ∈ trAll mask l, ∃ q ∈ trAll mask m, p.2.2 = q.2.2 ∧ (p.1 ≠ q.1 ∨ p.2.1 ≠ q.2.1) := by
  apply Classical.byContradiction
  intro hno
  have hc : ∀ p ∈ trAll mask l, ∀ q ∈ trAll mask m, p.2.2 = q.2.2 → p.1 = q.1 ∧ p.2.1 = q.2.1 := by
    intro p hp q hq e
    constructor
    · apply Classical.byContradiction
      intro hx
      exact hno ⟨p, hp, q, hq, e, .inl hx⟩
    · apply Classical.byContradiction
      intro hx
      exact hno ⟨p, hp, q, hq, e, .inr hx⟩
  obtain ⟨e1, e2⟩ := hc (mfold mask 0 l, l.length, msum mask l) (by simp [trAll]) (mfold mask 0 m, m.length, msum mask m) (by simp [trAll]) h
  exact hne (chain_fold mask l.length l m 0 0 (Nat.le_refl _) e2 hl hm (fun p hp q hq => hc p (List.mem_append_left _ hp) q (List.mem_append_left _ hq)) e1).2
end Plain
end Go.Proofs.Ytcocdlhjfbpkfaa
