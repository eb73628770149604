/- The plain laws of WasteEnds. -/
import Derived.Test.YtpfmfigommmjiaaWasteP
namespace Go.Proofs.Ytpfmfigommmjiaa
open Go.RowKit
set_option linter.unusedVariables false
set_option linter.unusedSimpArgs false
namespace Plain
theorem ends_nan {l : List Wst} {over : Nat} {a : List Nat} (h : ChOk l over a) (hn : isNaN over = true) : a = [] := by
  rcases List.eq_nil_or_concat a with rfl | ⟨b, i, rfl⟩
  · rfl
  · have : i ∈ cand l over := h.perm.mem_iff.1 (by rw [List.concat_eq_append]; simp)
    obtain ⟨w, _, _, h3, _⟩ := cand_mem.1 this
    rw [hn] at h3
    cases h3
theorem ends_one {l : List Wst} {over : Nat} {a : List Nat} (hl : WsOk l) (h : ChOk l over a) (hn : place over = 4607182418800017408) : a = [] := by
  rcases List.eq_nil_or_concat a with rfl | ⟨b, i, rfl⟩
  · rfl
  · have : i ∈ cand l over := h.perm.mem_iff.1 (by rw [List.concat_eq_append]; simp)
    obtain ⟨w, h1, _, _, h4⟩ := cand_mem.1 this
    have := shF_le (hl.2 w (List.mem_of_getElem? h1))
    omega
theorem cand_len {l : List Wst} {over : Nat} (hn : isNaN over = false) (hp : place over < 0) : ∀ i, i ≤ l.length → ((List.range i).filter (abB l over)).length = ((l.take i).filter fun w => decide (0 < w.1)).length
  | 0, _ => by simp
  | i + 1, hi => by
    have ih := cand_len (l := l) hn hp i (by omega)
    have hil : i < l.length := by omega
    have htk : l.take (i + 1) = l.take i ++ [l[i]] := List.take_succ_eq_append_getElem hil
    rw [List.range_succ, List.filter_append, List.length_append, ih, htk, List.filter_append, List.length_append]
    congr 1
    by_cases hw : 0 < (l[i]).1
    · have : abB l over i = true := abB_iff.2 ⟨l[i], List.getElem?_eq_getElem (by omega), hw, hn, by omega⟩
      simp [this, hw]
    · have : abB l over i = false := by
        rw [Bool.eq_false_iff]
        intro h
        obtain ⟨w, h1, h2, _⟩ := abB_iff.1 h
        rw [List.getElem?_eq_getElem (by omega)] at h1
        have h1 := Option.some.inj h1
        rw [h1] at hw
        exact hw h2
      simp [this, hw]
theorem ends_all {l : List Wst} {over : Nat} {a : List Nat} (h : ChOk l over a) (hn : isNaN over = false) (hp : place over < 0) : a.length = (l.filter fun w => decide (0 < w.1)).length := by
  have := cand_len (l := l) hn hp l.length (Nat.le_refl _)
  rw [List.take_length] at this
  rw [h.perm.length_eq]
  exact this
theorem ch_nodup {l : List Wst} {over : Nat} {a : List Nat} (h : ChOk l over a) : a.Nodup := h.perm.nodup_iff.2 (List.nodup_range.sublist List.filter_sublist)
theorem ch_lt {l : List Wst} {over : Nat} {a : List Nat} (h : ChOk l over a) : ∀ i ∈ a, i < l.length := fun i hi => by
  obtain ⟨w, h1, _⟩ := cand_mem.1 (h.perm.mem_iff.1 hi)
  exact (List.getElem?_eq_some_iff.1 h1).1
/-- the sums of some packs -/
def totS (l : List Wst) (a : List Nat) : Int := (a.map fun i => (l[i]?.getD (0, 0)).1).sum
def totD (l : List Wst) (a : List Nat) : Int := (a.map fun i => (l[i]?.getD (0, 0)).2).sum
theorem tot_snoc (l : List Wst) (a : List Nat) (i : Nat) (w : Wst) (h : l[i]? = some w) : totS l (a ++ [i]) = totS l a + w.1 ∧ totD l (a ++ [i]) = totD l a + w.2 := by
  unfold totS totD
  rw [List.map_append, List.sum_append, List.map_append, List.sum_append]
  simp [h]
theorem tot_bound {l : List Wst} (hl : WsOk l) : ∀ a : List Nat, 0 ≤ totD l a ∧ totD l a ≤ totS l a ∧ totS l a ≤ a.length * 1099511627776
  | [] => by simp [totS, totD]
  | i :: a => by
    have ih := tot_bound hl a
    have e1 : totS l (i :: a) = (l[i]?.getD (0, 0)).1 + totS l a := by simp [totS]
    have e2 : totD l (i :: a) = (l[i]?.getD (0, 0)).2 + totD l a := by simp [totD]
    have hw : 0 ≤ (l[i]?.getD (0, 0)).1 ∧ (l[i]?.getD (0, 0)).1 ≤ 1099511627776 ∧ 0 ≤ (l[i]?.getD (0, 0)).2 ∧ (l[i]?.getD (0, 0)).2 ≤ (l[i]?.getD (0, 0)).1 := by
      cases h : l[i]? with
      | none => simp
      | some w => exact hl.2 w (List.mem_of_getElem? h)
    rw [e1, e2, List.length_cons]
    generalize l[i]?.getD (0, 0) = w at *
    have : ((a.length + 1 : Nat) : Int) * 1099511627776 = (a.length : Int) * 1099511627776 + 1099511627776 := by
      rw [Int.natCast_add, Int.add_mul]
      rfl
    rw [this]
    omega
/-- NaN, one, minus infinity -/
theorem pl_one : isNaN 4607182418800017408 = false ∧ place 4607182418800017408 = 4607182418800017408 := by decide
theorem pl_ninf : isNaN 18442240474082181120 = false ∧ place 18442240474082181120 < 0 := by decide
end Plain
end Go.Proofs.Ytpfmfigommmjiaa
