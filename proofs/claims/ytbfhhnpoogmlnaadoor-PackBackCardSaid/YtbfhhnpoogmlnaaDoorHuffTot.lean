/- The walk of lumkeep.total; lengths as lists of ints. -/
import Derived.Test.YtbfhhnpoogmlnaaDoorHuffLen
namespace Go.Proofs.YtbfhhnpoogmlnaaDoor
open Go.RowKit Plain
set_option linter.unusedVariables false
set_option linter.unusedSimpArgs false
theorem natF_len (f : List Int) : (natF f).length = f.length := by simp [natF]
theorem natF_get (f : List Int) (i : Nat) (h : i < (natF f).length) : (natF f)[i] = (f[i]'(by rw [natF_len] at h; exact h)).toNat := by simp [natF]
theorem sat_nat {w : World} {a : Option Addr} {f : List Int} (h : SAt 1 iC w a f) (h0 : ∀ (i : Nat) (h : i < f.length), 0 ≤ f[i]) : SAt 1 nI w a (natF f) := fun i hi => by
  have hi2 : i < f.length := by rw [natF_len] at hi; exact hi
  obtain ⟨g, off, e, hg, hr⟩ := h i hi2
  refine ⟨g, off, e, hg, fun j u hu => hr j u ?_⟩
  rw [natF_get] at hu
  have e2 : nI (f[i]'hi2).toNat = iC f[i] := by
    simp only [nI, iC]
    have := h0 i hi2
    rw [Int.toNat_of_nonneg this]
  rw [e2] at hu
  exact hu
theorem sat_nC {w : World} {g : Nat} {o : List Nat} (h : w.heap[g]? = some (.cells (nC o) 3 (0, 0))) : SAt 1 nI w (some ⟨g, 0, none⟩) o := fun i hi => by
  refine ⟨g, 0, rfl, lt_of_block h, fun j u hu => ?_⟩
  rw [cell_of_row _ _ _ _ _ _ h]
  match j, hu with
  | 0, hu =>
    have e : 0 + i * 1 + 0 = i := by omega
    rw [e, nC_get o i hi, ← hu]
    simp [nI, List.getD_eq_getElem?_getD, List.getElem?_eq_getElem hi]
  | j + 1, hu => simp [nI] at hu
theorem sat_int_of_nat {w : World} {a : Option Addr} {o : List Nat} (h : SAt 1 nI w a o) : SAt 1 iC w a (o.map fun n : Nat => (n : Int)) := fun i hi => by
  have hi2 : i < o.length := by simpa using hi
  obtain ⟨g, off, e, hg, hr⟩ := h i hi2
  refine ⟨g, off, e, hg, fun j u hu => hr j u ?_⟩
  rw [List.getElem_map] at hu
  exact hu
def totTo (f l : List Nat) (i : Nat) : Nat := sumS (fun s => at0 f s * at0 l s) (List.range i)
theorem totTo_succ (f l : List Nat) (i : Nat) : totTo f l (i + 1) = totTo f l i + at0 f i * at0 l i := by
  unfold totTo
  rw [List.range_succ, sumS_append, sumS_cons]
  simp [sumS]
theorem totTo_le {f l : List Nat} {B : Nat} (h : ∀ i, at0 f i * at0 l i ≤ B) (i : Nat) : totTo f l i ≤ i * B := by
  induction i with
  | zero => simp [totTo, sumS]
  | succ i ih =>
    have h3 := h i
    rw [totTo_succ, Nat.succ_mul]
    omega
theorem mul_bnd {x y : Nat} (h : x ≤ 1048576) (g : y ≤ 48) : x * y ≤ 50331648 := by
  have := Nat.mul_le_mul h g
  omega
end Go.Proofs.YtbfhhnpoogmlnaaDoor
