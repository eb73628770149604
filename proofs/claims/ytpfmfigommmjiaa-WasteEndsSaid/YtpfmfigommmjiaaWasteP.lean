/- The plain laws of waste: what is chosen, in which order. -/
import Derived.Test.YtpfmfigommmjiaaWasteFloat
import Derived.Test.YtpfmfigommmjiaaStablePlain2
namespace Go.Proofs.Ytpfmfigommmjiaa
open Go.RowKit
set_option linter.unusedVariables false
set_option linter.unusedSimpArgs false
namespace Plain
/-- size, dead -/
abbrev Wst := Int × Int
def WOk1 (w : Wst) : Prop := 0 ≤ w.1 ∧ w.1 ≤ 1099511627776 ∧ 0 ≤ w.2 ∧ w.2 ≤ w.1
def WsOk (l : List Wst) : Prop := l.length ≤ 100 ∧ ∀ w ∈ l, WOk1 w
/-- the word of a share -/
def shF (w : Wst) : Nat := if w.1 = 0 then 0 else (Ieee.double.div (fW w.2.toNat) (fW w.1.toNat)).getD 0
theorem log2_le52 {n : Nat} (h : n ≤ 1099511627776) : n.log2 ≤ 52 := by
  rcases Nat.eq_zero_or_pos n with rfl | h0
  · decide
  · have := (Nat.log2_lt (n := n) (k := 41) (by omega)).2 (by rw [show (2 : Nat) ^ 41 = 2199023255552 from rfl]; omega)
    omega
theorem shF_div {w : Wst} (h : WOk1 w) (h0 : w.1 ≠ 0) : Ieee.double.div (fW w.2.toNat) (fW w.1.toNat) = some (shF w) ∧ shF w ≤ 4607182418800017408 := by
  obtain ⟨h1, h2, h3, h4⟩ := h
  obtain ⟨q, e, hq⟩ := share_ok w.2.toNat w.1.toNat (by omega) (by omega) (log2_le52 (by omega)) (log2_le52 (by omega))
  unfold shF
  rw [if_neg h0, e]
  exact ⟨rfl, hq⟩
theorem shF_le {w : Wst} (h : WOk1 w) : shF w ≤ 4607182418800017408 := by
  by_cases h0 : w.1 = 0
  · unfold shF; rw [if_pos h0]; omega
  · exact (shF_div h h0).2
theorem low_word {x : Nat} (h : x ≤ 4607182418800017408) : rung x = x ∧ isNeg x = false ∧ isNaN x = false ∧ place x = (x : Int) := by
  have h1 : rung x = x := by unfold rung; exact Nat.mod_eq_of_lt (by omega)
  have h2 : isNeg x = false := by unfold isNeg; rw [Nat.div_eq_of_lt (by omega)]; rfl
  refine ⟨h1, h2, ?_, ?_⟩
  · unfold isNaN; rw [h1]; exact decide_eq_false (by omega)
  · unfold place; rw [h1, h2]; rfl
/-- the key by which what is chosen is put in order: greater shares first -/
def keyW (l : List Wst) (i : Nat) : Int := match l[i]? with
  | some w => -(shF w : Int)
  | none => 0
/-- its share is above a number -/
def Above (l : List Wst) (over : Nat) (i : Nat) : Prop := ∃ w, l[i]? = some w ∧ 0 < w.1 ∧ isNaN over = false ∧ place over < (shF w : Int)
noncomputable def abB (l : List Wst) (over i : Nat) : Bool := @decide (Above l over i) (Classical.propDecidable _)
theorem abB_iff {l : List Wst} {over i : Nat} : abB l over i = true ↔ Above l over i := by
  unfold abB
  exact @decide_eq_true_iff _ (Classical.propDecidable _)
noncomputable def cand (l : List Wst) (over : Nat) : List Nat := (List.range l.length).filter (abB l over)
theorem cand_mem {l : List Wst} {over i : Nat} : i ∈ cand l over ↔ Above l over i := by
  unfold cand
  rw [List.mem_filter, List.mem_range, abB_iff]
  refine ⟨fun h => h.2, fun h => ⟨?_, h⟩⟩
  obtain ⟨w, h1, _⟩ := h
  exact (List.getElem?_eq_some_iff.1 h1).1
/-- what Choose chooses -/
structure ChOk (l : List Wst) (over : Nat) (a : List Nat) : Prop where
  perm : a.Perm (cand l over)
  stable : a.Pairwise (WPr (keyW l) id)
  sorted : a.Pairwise (SPr (keyW l))
theorem sort_uniq {α : Type} {key : α → Int} {idx : α → Nat} {a b : List α} (hp : a.Perm b) (ha : a.Pairwise (WPr key idx)) (ha2 : a.Pairwise (SPr key)) (hb : b.Pairwise (WPr key idx)) (hb2 : b.Pairwise (SPr key)) : a = b := by
  refine List.Perm.eq_of_pairwise (le := fun x y => key x < key y ∨ (key x = key y ∧ idx x < idx y)) (fun x y _ _ h1 h2 => ?_) ?_ ?_ hp
  · rcases h1 with h1 | ⟨h1, h3⟩ <;> rcases h2 with h2 | ⟨h2, h4⟩ <;> omega
  · exact (ha.and ha2).imp fun h => by
      obtain ⟨h1, h2⟩ := h
      have h2 : key _ ≤ key _ := h2
      rcases Int.lt_or_eq_of_le h2 with h3 | h3
      · exact .inl h3
      · exact .inr ⟨h3, h1 h3⟩
  · exact (hb.and hb2).imp fun h => by
      obtain ⟨h1, h2⟩ := h
      have h2 : key _ ≤ key _ := h2
      rcases Int.lt_or_eq_of_le h2 with h3 | h3
      · exact .inl h3
      · exact .inr ⟨h3, h1 h3⟩
/-- a list in which what has a mark stands ahead of what has none -/
theorem split_marks {α : Type} (p : α → Bool) : ∀ {l : List α}, l.Pairwise (fun x y => p y = true → p x = true) → l = l.filter p ++ l.filter (fun x => !p x)
  | [], _ => rfl
  | x :: l, h => by
    rw [List.pairwise_cons] at h
    obtain ⟨h1, h2⟩ := h
    cases hx : p x with
    | true =>
      have ih := split_marks p h2
      rw [List.filter_cons_of_pos hx, List.filter_cons_of_neg (by simp [hx]), List.cons_append, ← ih]
    | false =>
      have hn : ∀ y ∈ l, p y = false := fun y hy => by
        cases hy2 : p y with
        | false => rfl
        | true =>
          have := h1 y hy hy2
          rw [hx] at this
          cases this
      have e1 : (x :: l).filter p = [] := by
        rw [List.filter_eq_nil_iff]
        intro y hy
        rcases List.mem_cons.1 hy with rfl | hy
        · simp [hx]
        · simp [hn y hy]
      have e2 : (x :: l).filter (fun x => !p x) = x :: l := by
        rw [List.filter_eq_self]
        intro y hy
        rcases List.mem_cons.1 hy with rfl | hy
        · simp [hx]
        · simp [hn y hy]
      rw [e1, e2, List.nil_append]
/-- who asks for more is told a beginning -/
theorem ranks_law {l : List Wst} {low high : Nat} {a b : List Nat} (ha : ChOk l low a) (hb : ChOk l high b) (hl : isNaN low = false) (hh : isNaN high = false) (hlh : place low ≤ place high) : b.length ≤ a.length ∧ a.take b.length = b := by
  have hmem : ∀ i ∈ a, Above l low i := fun i hi => cand_mem.1 (ha.perm.mem_iff.1 hi)
  have hup : ∀ i, Above l high i → Above l low i := fun i hi => by
    obtain ⟨w, h1, h2, h3, h4⟩ := hi
    exact ⟨w, h1, h2, hl, by omega⟩
  have hs : a = a.filter (abB l high) ++ a.filter (fun i => !abB l high i) := by
    refine split_marks _ ?_
    refine List.Pairwise.imp_of_mem ?_ ha.sorted
    intro x y hx hy hxy hay
    rw [abB_iff] at hay ⊢
    obtain ⟨w, h1, h2, h3, h4⟩ := hmem x hx
    obtain ⟨v, g1, g2, g3, g4⟩ := hay
    refine ⟨w, h1, h2, hh, ?_⟩
    have hxy : keyW l x ≤ keyW l y := hxy
    unfold keyW at hxy
    rw [h1, g1] at hxy
    simp only at hxy
    omega
  have hp : (a.filter (abB l high)).Perm (cand l high) := by
    refine (ha.perm.filter _).trans ?_
    unfold cand
    rw [List.filter_filter]
    refine List.Perm.of_eq (List.filter_congr fun i _ => ?_)
    rw [Bool.eq_iff_iff, Bool.and_eq_true, abB_iff, abB_iff]
    exact ⟨fun h => h.1, fun h => ⟨h, hup i h⟩⟩
  have e : a.filter (abB l high) = b := sort_uniq (hp.trans hb.perm.symm) (ha.stable.filter _) (ha.sorted.filter _) hb.stable hb.sorted
  rw [e] at hs
  rw [hs]
  refine ⟨by rw [List.length_append]; omega, by rw [List.take_left']; rfl⟩
theorem sorted_shares {l : List Wst} {over : Nat} {a : List Nat} (ha : ChOk l over a) (hl : WsOk l) {i : Nat} {x y : Nat} (hx : a[i]? = some x) (hy : a[i + 1]? = some y) : ∃ w v, l[x]? = some w ∧ l[y]? = some v ∧ shF v ≤ shF w := by
  obtain ⟨w, h1, _⟩ := cand_mem.1 (ha.perm.mem_iff.1 (List.mem_of_getElem? hx))
  obtain ⟨v, g1, _⟩ := cand_mem.1 (ha.perm.mem_iff.1 (List.mem_of_getElem? hy))
  refine ⟨w, v, h1, g1, ?_⟩
  have := sorted_at ha.sorted (Nat.le_succ i) hx hy
  unfold keyW at this
  rw [h1, g1] at this
  simp only at this
  omega
end Plain
end Go.Proofs.Ytpfmfigommmjiaa
