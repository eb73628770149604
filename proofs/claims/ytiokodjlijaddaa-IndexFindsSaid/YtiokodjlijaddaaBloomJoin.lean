/- The walk of bloom.Join: the union of filters. -/
import Derived.Test.YtiokodjlijaddaaBloomHas
namespace Go.Proofs.Ytiokodjlijaddaa
open Go.RowKit Plain
namespace Plain
def bjoin (l m : List Nat) : List Nat := List.zipWith (· ||| ·) l m
theorem bjoin_length (l m : List Nat) (hl : l.length = 16) (hm : m.length = 16) : (bjoin l m).length = 16 := by simp [bjoin, hl, hm]
theorem bjoin_getD (l m : List Nat) (hl : l.length = 16) (hm : m.length = 16) (i : Nat) (hi : i < 16) : (bjoin l m).getD i 0 = l.getD i 0 ||| m.getD i 0 := by
  simp [bjoin, List.getD_eq_getElem?_getD, List.getElem?_zipWith, List.getElem?_eq_getElem (show i < l.length by omega), List.getElem?_eq_getElem (show i < m.length by omega)]
theorem bjoin_lt (l m : List Nat) (hl : ∀ c ∈ l, c < 18446744073709551616) (hm : ∀ c ∈ m, c < 18446744073709551616) : ∀ c ∈ bjoin l m, c < 18446744073709551616 := by
  intro c hc
  obtain ⟨i, hi, rfl⟩ := List.mem_iff_getElem.1 hc
  simp only [bjoin, List.getElem_zipWith]
  exact or_lt64 (hl _ (List.getElem_mem _)) (hm _ (List.getElem_mem _))
theorem ext_getD {a b : List Nat} (h : a.length = b.length) (h2 : ∀ i, i < a.length → a.getD i 0 = b.getD i 0) : a = b := by
  apply List.ext_getElem h
  intro i h1 h3
  have := h2 i h1
  simpa [List.getD_eq_getElem?_getD, List.getElem?_eq_getElem h1, List.getElem?_eq_getElem h3] using this
theorem flatten_get (ls : List (List Nat)) (h : ∀ l ∈ ls, l.length = 16) (k j : Nat) (hk : k < ls.length) (hj : j < 16) : ls.flatten[k * 16 + j]? = (ls[k])[j]? := by
  induction ls generalizing k with
  | nil => simp at hk
  | cons l ls ih =>
    have hl := h l (by simp)
    cases k with
    | zero =>
      simp only [List.flatten_cons, Nat.zero_mul, Nat.zero_add, List.getElem_cons_zero]
      rw [List.getElem?_append_left (by omega)]
    | succ k =>
      simp only [List.flatten_cons, List.getElem_cons_succ]
      rw [List.getElem?_append_right (by omega), show (k + 1) * 16 + j - l.length = k * 16 + j by omega]
      exact ih (fun m hm => h m (by simp [hm])) k (by simpa using hk)
/-- the first j words of l are joined with m's -/
def Part (l m A : List Nat) (j : Nat) : Prop := A.length = 16 ∧ ∀ i, i < 16 → A.getD i 0 = if i < j then l.getD i 0 ||| m.getD i 0 else l.getD i 0
theorem Part.zero {l m : List Nat} (hl : l.length = 16) : Part l m l 0 := ⟨hl, fun i _ => by rw [if_neg (by omega)]⟩
theorem Part.done {l m A : List Nat} (hl : l.length = 16) (hm : m.length = 16) (h : Part l m A 16) : A = bjoin l m := by
  apply ext_getD
  · rw [h.1, bjoin_length l m hl hm]
  · intro i hi
    rw [h.1] at hi
    rw [h.2 i hi, if_pos hi, bjoin_getD l m hl hm i hi]
theorem set_getD' (l : List Nat) (k v i : Nat) (hk : k < l.length) : (l.set k v).getD i 0 = if i = k then v else l.getD i 0 := by
  simp only [List.getD_eq_getElem?_getD, List.getElem?_set]
  by_cases h : i = k
  · subst h; simp [hk]
  · simp [h, Ne.symm h]
theorem Part.next {l m A : List Nat} {j : Nat} (h : Part l m A j) (hj : j < 16) : A.getD j 0 = l.getD j 0 ∧ Part l m (A.set j (l.getD j 0 ||| m.getD j 0)) (j + 1) := by
  refine ⟨by rw [h.2 j hj, if_neg (by omega)], by rw [List.length_set]; exact h.1, fun i hi => ?_⟩
  rw [set_getD' _ _ _ _ (by rw [h.1]; exact hj)]
  by_cases e : i = j
  · subst e; rw [if_pos rfl, if_pos (by omega)]
  · rw [if_neg e, h.2 i hi]
    by_cases c : i < j
    · rw [if_pos c, if_pos (by omega)]
    · rw [if_neg c, if_neg (by omega)]
end Plain
theorem run_index_word {P : Program} (w : World) (t e : TypeId) (n : Nat) (m : List Nat) (j : Nat) (ht : P.underlying t = some (.array n e)) (he : P.underlying e = some (.int .u64)) (hi : (P.info? e).map (·.size) = some 1)
    (hj : j < n) (hm : m.length = n) : (Instr.index t (.agg (uC m)) (.int .i64 (j : Int))).run P w = .ok (.int .u64 ((m.getD j 0 : Nat) : Int)) w := by
  have := run_index_ints (P := P) w t e n .i64 .u64 (uC m) (j : Int) ht he hi (by omega) (by omega) (by rw [uC_size]; exact hm)
  rw [this]
  congr 1
  have h2 : (uC m)[j]? = some (.int .u64 ((m.getD j 0 : Nat) : Int)) := by
    simp [uC, List.getElem?_map, List.getD_eq_getElem?_getD, List.getElem?_eq_getElem (show j < m.length by omega), uV]
  have h3 : (uC m)[j]? = some ((uC m)[j]'(by rw [uC_size]; omega)) := Array.getElem?_eq_getElem (by rw [uC_size]; omega)
  exact Option.some.inj (h3.symm.trans h2)
end Go.Proofs.Ytiokodjlijaddaa
