/- What is left behind the first pieces, and the map of it. -/
import Derived.Test.YtbmklkjjkjgehaaChunkSome
import Derived.Maps.Own
import Derived.Maps.OwnOps
import Derived.Maps.OwnSet
import Derived.Maps.Views
import Derived.WalkArith
namespace Go.Proofs.Ytbmklkjjkjgehaa
open Go.RowKit Plain Go.Maps
/-- how much is left behind the first m pieces -/
def LF (cs : List ByteArray) (m : Nat) : Nat := (((cs.drop m).map strN).flatten).length
theorem LF_step (cs : List ByteArray) (m : Nat) (h : m < cs.length) : LF cs m = cs[m].size + LF cs (m + 1) := by
  unfold LF
  rw [List.drop_eq_getElem_cons h, List.map_cons, List.flatten_cons, List.length_append, strN_length]
theorem LF_anti (cs : List ByteArray) (hp : ∀ i (h : i < cs.length), 1 ≤ cs[i].size) : ∀ (d m : Nat), m + d + 1 ≤ cs.length → LF cs (m + d + 1) < LF cs m
  | 0, m, h => by have := LF_step cs m (by omega); have := hp m (by omega); rw [Nat.add_zero]; omega
  | d + 1, m, h => by
    have h1 := LF_anti cs hp d m (by omega)
    have h2 := LF_step cs (m + d + 1) (by omega)
    have h3 := hp (m + d + 1) (by omega)
    rw [show m + (d + 1) + 1 = m + d + 1 + 1 by omega]
    omega
theorem LF_inj {cs : List ByteArray} (hp : ∀ i (h : i < cs.length), 1 ≤ cs[i].size) {i j : Nat} (hi : i < cs.length) (hj : j < cs.length) (e : LF cs i = LF cs j) : i = j := by
  rcases Nat.lt_trichotomy i j with h | h | h
  · obtain ⟨d, rfl⟩ : ∃ d, j = i + d + 1 := ⟨j - i - 1, by omega⟩
    have := LF_anti cs hp d i (by omega); omega
  · exact h
  · obtain ⟨d, rfl⟩ : ∃ d, i = j + d + 1 := ⟨i - j - 1, by omega⟩
    have := LF_anti cs hp d j (by omega); omega
/-- the map: how much is left behind the first pieces: their number -/
def ML (cs : List ByteArray) : Nat → DataW Unit
  | 0 => .map []
  | m + 1 => (ML cs m).put (.int .i64 ((LF cs m : Nat) : Int)) (.lit (.int .i64 (m : Int)))
theorem ML_tidy (cs : List ByteArray) : ∀ m, Tidy (ML cs m)
  | 0 => tidy_empty
  | m + 1 => (ML_tidy cs m).put (by simp [WideAt.IsKeyLit]) _
theorem ML_none (cs : List ByteArray) : ∀ m k, (∀ p, p < m → LF cs p ≠ k) → Maps.has (ML cs m) (.int .i64 ((k : Nat) : Int)) = false
  | 0, k, _ => rfl
  | m + 1, k, h => by
    rw [ML, has_put_other]
    · exact ML_none cs m k fun p hp => h p (by omega)
    · intro e
      have : (k : Int) = ((LF cs m : Nat) : Int) := by injection e
      exact h m (by omega) (by omega)
theorem ML_has (cs : List ByteArray) : ∀ m p, p < m → Maps.has (ML cs m) (.int .i64 ((LF cs p : Nat) : Int)) = true
  | 0, p, h => by omega
  | m + 1, p, h => by
    rw [ML]
    by_cases e : LF cs p = LF cs m
    · rw [e]; exact has_put_same (ML_tidy cs m).isMap (by simp [WideAt.IsKeyLit]) _
    · rw [has_put_other]
      · exact ML_has cs m p (by
          rcases Nat.lt_or_ge p m with h1 | h1
          · exact h1
          · exact absurd (by rw [show p = m by omega]) e)
      · intro e2
        have : ((LF cs p : Nat) : Int) = ((LF cs m : Nat) : Int) := by injection e2
        omega
theorem ML_at {cs : List ByteArray} (hp : ∀ i (h : i < cs.length), 1 ≤ cs[i].size) (z : DataW Unit) : ∀ m, m ≤ cs.length → ∀ p, p < m → (ML cs m).atKey (.int .i64 ((LF cs p : Nat) : Int)) z = .lit (.int .i64 (p : Int))
  | 0, _, p, h => by omega
  | m + 1, hm, p, h => by
    rw [ML]
    by_cases e : p = m
    · subst e
      exact atKey_put_same (ML_tidy cs p).isMap (by simp [WideAt.IsKeyLit]) _ _
    · rw [atKey_put_other]
      · exact ML_at hp z m (by omega) p (by omega)
      · intro e'
        have : ((LF cs p : Nat) : Int) = ((LF cs m : Nat) : Int) := by injection e'
        exact e (LF_inj hp (by omega) (by omega) (by omega))
theorem zero_int (w : World) : (zeroValue 3).run Try.prog w = .ok (.int .i64 0) w := by kernel_rfl
theorem law_int : Keyed Try.prog 3 := int_keyed Try.underlying3
theorem wf_5000 (n : Nat) (h : n ≤ 5000) : (Lit.int .i64 ((n : Nat) : Int)).wf = true := Go.WalkArith.wf_i64 (by omega)
theorem map_flat_len {R : Rule} {l : List Nat} {cs : List ByteArray} (h : R.Cuts l (cs.map strN)) : LF cs 0 = l.length := by
  unfold LF; rw [List.drop_zero, h.join]
theorem LF_le (cs : List ByteArray) (m : Nat) : LF cs m ≤ LF cs 0 := by
  unfold LF
  rw [List.drop_zero]
  conv => rhs; rw [← List.take_append_drop m cs, List.map_append, List.flatten_append, List.length_append]
  omega
theorem pieces_pos {R : Rule} (ok : R.ok) {l : List Nat} {cs : List ByteArray} (h : R.Cuts l (cs.map strN)) : ∀ i (hi : i < cs.length), 1 ≤ cs[i].size := fun i hi => by
  have := (h.bounds ok i (by rw [List.length_map]; exact hi)).1
  simpa only [List.getElem_map, strN_length] using this
theorem meet_eq {R : Rule} {a b e : ByteArray} {cs ds : List ByteArray} (h : R.Cuts (strN (a ++ e)) (cs.map strN)) (g : R.Cuts (strN (b ++ e)) (ds.map strN)) (i j : Nat) (hl : LF cs i = LF ds j) (he : LF ds j ≤ e.size) : cs.drop i = ds.drop j := by
  have hA : ∀ s t : ByteArray, strN (s ++ t) = strN s ++ strN t := fun s t => by simp [strN]
  rw [hA] at h g
  unfold LF at hl he
  rw [List.map_drop, List.map_drop] at hl
  rw [List.map_drop] at he
  have := Rule.Cuts.meets h g i j hl (by rw [strN_length]; exact he)
  apply strs_inj
  rw [List.map_drop, List.map_drop, this]
end Go.Proofs.Ytbmklkjjkjgehaa
