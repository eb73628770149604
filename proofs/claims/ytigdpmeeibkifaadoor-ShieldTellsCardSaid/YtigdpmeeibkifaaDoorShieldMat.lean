/- Matrices of bytes in memory: a row of slices, each a row of bytes of its own. -/
import Derived.Test.YtigdpmeeibkifaaDoorShieldComb
namespace Go.Proofs.YtigdpmeeibkifaaDoor
open Go.RowKit Plain
set_option linter.unusedVariables false
set_option linter.unusedSimpArgs false
abbrev rowV (ids : Nat → Nat) (n r : Nat) : Value := .slice (some ⟨ids r, 0, none⟩) n n
/-- K rows of n bytes -/
structure Mat (w : World) (A oa : Nat) (ids : Nat → Nat) (M : Mtx) (n K : Nat) : Prop where
  outer : ∃ cs : Array Value, w.heap[A]? = some (.cells cs 34 (0, 0)) ∧ ∀ r, r < K → cs[oa + r]? = some (rowV ids n r)
  rows : ∀ r, r < K → BRow w 5 (ids r) (mapr n (M r))
  inj : ∀ r s, r < K → s < K → ids r = ids s → r = s
variable {w : World} {A oa n K : Nat} {ids : Nat → Nat} {M : Mtx}
theorem Mat.cell (h : Mat w A oa ids M n K) {r : Nat} (hr : r < K) : w.cell? ⟨A, oa + r, none⟩ = some (.slice (some ⟨ids r, 0, none⟩) n n) := by
  obtain ⟨cs, h1, h2⟩ := h.outer
  rw [cell_of_row w A _ _ _ _ h1]
  exact h2 r hr
theorem Mat.frozen (h : Mat w A oa ids M n K) (r : Nat) : w.frozen? ⟨A, oa + r, none⟩ = false := by
  obtain ⟨cs, h1, h2⟩ := h.outer
  exact frozen_of_row w A _ _ _ h1
theorem Mat.byte (h : Mat w A oa ids M n K) {r k : Nat} (hr : r < K) (hk : k < n) : w.cell? ⟨ids r, k, none⟩ = some (.int .u8 ((M r k : Nat) : Int)) := by
  have := (h.rows r hr).cell (k := k) (by rw [mapr_length]; exact hk)
  rwa [mapr_getD hk] at this
theorem Mat.bfrozen (h : Mat w A oa ids M n K) {r : Nat} (hr : r < K) (k : Nat) : w.frozen? ⟨ids r, k, none⟩ = false := (h.rows r hr).frozen k
theorem Mat.ltA (h : Mat w A oa ids M n K) : A < w.heap.size := by
  obtain ⟨cs, h1, _⟩ := h.outer
  exact lt_of_block h1
theorem Mat.ne (h : Mat w A oa ids M n K) {r : Nat} (hr : r < K) : ids r ≠ A := by
  obtain ⟨cs, h1, _⟩ := h.outer
  have h2 := h.rows r hr
  unfold BRow at h2
  exact type_ne h2 h1 (by decide)
theorem Mat.drew (h : Mat w A oa ids M n K) : Mat w.drew A oa ids M n K := ⟨h.outer, h.rows, h.inj⟩
theorem Mat.below {w' : World} (h : Mat w A oa ids M n K) (hb : Below w.heap.size w w') : Mat w' A oa ids M n K := by
  obtain ⟨cs, h1, h2⟩ := h.outer
  exact ⟨⟨cs, (hb.block A (lt_of_block h1)).trans h1, h2⟩, fun r hr => (h.rows r hr).below hb, h.inj⟩
theorem Mat.congr {M' : Mtx} (h : Mat w A oa ids M n K) (e : ∀ r, r < K → ∀ k, k < n → M r k = M' r k) : Mat w A oa ids M' n K :=
  ⟨h.outer, fun r hr => by rw [← mapr_congr (e r hr)]; exact h.rows r hr, h.inj⟩
theorem Mat.less {K' : Nat} (h : Mat w A oa ids M n K) (hK : K' ≤ K) : Mat w A oa ids M n K' := by
  obtain ⟨cs, h1, h2⟩ := h.outer
  exact ⟨⟨cs, h1, fun r hr => h2 r (by omega)⟩, fun r hr => h.rows r (by omega), fun r s hr hs e => h.inj r s (by omega) (by omega) e⟩
def upd (M : Mtx) (r k v : Nat) : Mtx := fun r' k' => if r' = r ∧ k' = k then v else M r' k'
theorem Mat.set (h : Mat w A oa ids M n K) {r : Nat} (hr : r < K) (k v : Nat) : Mat (w.setCell ⟨ids r, k, none⟩ (.int .u8 (v : Int))) A oa ids (upd M r k v) n K := by
  obtain ⟨cs, h1, h2⟩ := h.outer
  refine ⟨⟨cs, (heap_setCell_other w ⟨ids r, k, none⟩ A _ (Ne.symm (h.ne hr))).trans h1, h2⟩, fun s hs => ?_, h.inj⟩
  by_cases e : s = r
  · subst e
    have := (h.rows s hs).set k v
    rw [mapr_set] at this
    have e2 : (mapr n fun k' => if k' = k then v else M s k') = mapr n (upd M s k v s) := mapr_congr fun k' _ => by unfold upd; simp
    rwa [e2] at this
  · have hb := h.rows s hs
    have e2 : mapr n (M s) = mapr n (upd M r k v s) := mapr_congr fun k' _ => by unfold upd; rw [if_neg (fun q => e q.1)]
    rw [← e2]
    unfold BRow at hb ⊢
    exact (heap_setCell_other w ⟨ids r, k, none⟩ (ids s) _ (fun q => e (h.inj s r hs hr q))).trans hb
theorem Mat.other (h : Mat w A oa ids M n K) {b : Nat} (hA : A ≠ b) (hr : ∀ r, r < K → ids r ≠ b) (o : Nat) (u : Value) : Mat (w.setCell ⟨b, o, none⟩ u) A oa ids M n K := by
  obtain ⟨cs, h1, h2⟩ := h.outer
  refine ⟨⟨cs, (heap_setCell_other w ⟨b, o, none⟩ A _ hA).trans h1, h2⟩, fun s hs => ?_, h.inj⟩
  have hb := h.rows s hs
  unfold BRow at hb ⊢
  exact (heap_setCell_other w ⟨b, o, none⟩ (ids s) _ (hr s hs)).trans hb
def swapI (ids : Nat → Nat) (c p : Nat) : Nat → Nat := fun r => if r = c then ids p else if r = p then ids c else ids r
theorem Mat.swap (h : Mat w A oa ids M n K) {c p : Nat} (hc : c < K) (hp : p < K) :
    Mat ((w.setCell ⟨A, oa + c, none⟩ (rowV ids n p)).setCell ⟨A, oa + p, none⟩ (rowV ids n c)) A oa (swapI ids c p) (swapM M c p) n K := by
  obtain ⟨cs, h1, h2⟩ := h.outer
  have k1 := heap_setCell_same w A (oa + c) cs _ (rowV ids n p) h1
  have k2 := heap_setCell_same _ A (oa + p) _ _ (rowV ids n c) k1
  refine ⟨⟨_, k2, fun r hr => ?_⟩, fun r hr => ?_, fun r s hr hs e => ?_⟩
  · have l1 := (Array.getElem?_eq_some_iff.1 (h2 c hc)).1
    have l2 := (Array.getElem?_eq_some_iff.1 (h2 p hp)).1
    unfold swapI rowV
    by_cases e2 : r = p
    · by_cases e1 : r = c
      · have : c = p := by omega
        subst this
        simp only [e1, if_true]
        simp [l1]
      · simp only [if_neg e1, if_pos e2]
        rw [e2]
        simp [l2]
    · by_cases e1 : r = c
      · simp only [if_pos e1]
        rw [e1, Array.getElem?_setIfInBounds, if_neg (by omega), Array.getElem?_setIfInBounds, if_pos rfl, if_pos l1]
      · simp only [if_neg e1, if_neg e2]
        rw [Array.getElem?_setIfInBounds, if_neg (by omega), Array.getElem?_setIfInBounds, if_neg (by omega)]
        exact h2 r hr
  · have keep : ∀ s, s < K → BRow ((w.setCell ⟨A, oa + c, none⟩ (rowV ids n p)).setCell ⟨A, oa + p, none⟩ (rowV ids n c)) 5 (ids s) (mapr n (M s)) := fun s hs => by
      have hb := h.rows s hs
      unfold BRow at hb ⊢
      exact (heap_setCell_other _ ⟨A, oa + p, none⟩ (ids s) _ (h.ne hs)).trans ((heap_setCell_other w ⟨A, oa + c, none⟩ (ids s) _ (h.ne hs)).trans hb)
    unfold swapI swapM
    by_cases e1 : r = c
    · rw [if_pos e1, if_pos e1]; exact keep p hp
    · rw [if_neg e1, if_neg e1]
      by_cases e2 : r = p
      · rw [if_pos e2, if_pos e2]; exact keep c hc
      · rw [if_neg e2, if_neg e2]; exact keep r hr
  · have hσ : ∀ x, swapI ids c p x = ids (if x = c then p else if x = p then c else x) := fun x => by
      unfold swapI
      by_cases e1 : x = c
      · rw [if_pos e1, if_pos e1]
      · by_cases e2 : x = p
        · rw [if_neg e1, if_pos e2, if_neg e1, if_pos e2]
        · rw [if_neg e1, if_neg e2, if_neg e1, if_neg e2]
    rw [hσ, hσ] at e
    have hlt : ∀ x, x < K → (if x = c then p else if x = p then c else x) < K := fun x hx => by split <;> (try split) <;> assumption
    have := h.inj _ _ (hlt r hr) (hlt s hs) e
    split at this <;> split at this <;> (try split at this) <;> (try split at this) <;> omega
/-- only rows of bytes, and of such rows, have turned -/
def Kpr (w w' : World) : Prop := w.heap.size ≤ w'.heap.size ∧ ∀ (k : Nat) (cs : Array Value) (t : TypeId) (fr : Nat × Nat), w.heap[k]? = some (Obj.cells cs t fr) → t ≠ 5 → t ≠ 34 → w'.heap[k]? = w.heap[k]?
theorem Kpr.refl (u : World) : Kpr u u := ⟨Nat.le_refl _, fun _ _ _ _ _ _ _ => rfl⟩
theorem Kpr.trans {a b c : World} (h : Kpr a b) (g : Kpr b c) : Kpr a c := ⟨Nat.le_trans h.1 g.1, fun k cs t fr e h1 h2 => by
  have e1 := h.2 k cs t fr e h1 h2
  exact (g.2 k cs t fr (e1.trans e) h1 h2).trans e1⟩
theorem Kpr.below {u u' : World} (h : Below u.heap.size u u') : Kpr u u' := ⟨h.size, fun k cs t fr e _ _ => h.block k (lt_of_block e)⟩
theorem Kpr.set {u : World} {b : Nat} {cs : Array Value} {t : TypeId} {fr : Nat × Nat} (hb : u.heap[b]? = some (.cells cs t fr)) (ht : t = 5 ∨ t = 34) (o : Nat) (v : Value) : Kpr u (u.setCell ⟨b, o, none⟩ v) := by
  refine ⟨by simp, fun k cs' t' fr' e h1 h2 => heap_setCell_other u ⟨b, o, none⟩ k v (fun hk => ?_)⟩
  have hk : k = b := hk
  subst hk
  rw [hb] at e
  injection e with e
  injection e with _ e _
  subst e
  rcases ht with ht | ht
  · exact h1 ht
  · exact h2 ht
theorem Mat.kprB (h : Mat w A oa ids M n K) {r : Nat} (hr : r < K) (k : Nat) (v : Value) : Kpr w (w.setCell ⟨ids r, k, none⟩ v) := by
  have := h.rows r hr
  unfold BRow at this
  exact Kpr.set this (.inl rfl) k v
theorem Mat.kprA (h : Mat w A oa ids M n K) (k : Nat) (v : Value) : Kpr w (w.setCell ⟨A, k, none⟩ v) := by
  obtain ⟨cs, h1, _⟩ := h.outer
  exact Kpr.set h1 (.inr rfl) k v
end Go.Proofs.YtigdpmeeibkifaaDoor
