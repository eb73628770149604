/- A row of bytes that a string was turned into: cells that may be written, with spare ones behind. -/
import Derived.Test.YtpfmfigommmjiaaDoorFtA
import Derived.Lib.ConvBytes
namespace Go.Proofs.YtpfmfigommmjiaaDoor
open Go.RowKit
theorem byte_at2 (s : ByteArray) (k : Nat) (h : k < s.size) : (s[k]).toNat = (strN s).getD k 0 := by
  rw [← strN_getD, List.getD_eq_getElem?_getD, List.getElem?_eq_getElem (by rw [Array.length_toList]; exact h)]
  rfl
/-- block B begins with the bytes l, which may be written -/
def CRow (w : World) (B : Nat) (l : List Nat) : Prop := ∃ (C : Array Value) (t : TypeId) (lo hi : Nat), w.heap[B]? = some (.cells C t (lo, hi)) ∧ l.length ≤ lo ∧ ∀ j, j < l.length → C[j]? = some (.int .u8 ((l.getD j 0 : Nat) : Int))
theorem CRow.cell {w : World} {B : Nat} {l : List Nat} (h : CRow w B l) {k : Nat} (hk : k < l.length) : w.cell? ⟨B, k, none⟩ = some (.int .u8 ((l.getD k 0 : Nat) : Int)) := by
  obtain ⟨C, t, lo, hi, h1, h2, h3⟩ := h
  simp [World.cell?, h1, h3 k hk]
theorem CRow.frozen {w : World} {B : Nat} {l : List Nat} (h : CRow w B l) {k : Nat} (hk : k < l.length) : w.frozen? ⟨B, k, none⟩ = false := by
  obtain ⟨C, t, lo, hi, h1, h2, h3⟩ := h
  simp only [World.frozen?, h1]
  have : decide (lo ≤ k) = false := decide_eq_false (by omega)
  simp [this]
theorem CRow.lt {w : World} {B : Nat} {l : List Nat} (h : CRow w B l) : B < w.heap.size := by
  obtain ⟨C, t, lo, hi, h1, _⟩ := h
  exact lt_of_block h1
theorem CRow.below {w w' : World} {B : Nat} {l : List Nat} (h : CRow w B l) (hb : Below w.heap.size w w') : CRow w' B l := by
  obtain ⟨C, t, lo, hi, h1, h2, h3⟩ := h
  exact ⟨C, t, lo, hi, (hb.block B (lt_of_block h1)).trans h1, h2, h3⟩
theorem CRow.drew {w : World} {B : Nat} {l : List Nat} (h : CRow w B l) : CRow w.drew B l := h
theorem CRow.bytes {w : World} {B : Nat} {l : List Nat} (h : CRow w B l) (s : ByteArray) (hs : strN s = l) : Lib.Bytes w B 0 s := by
  intro i hi
  subst hs
  have := h.cell (k := i) (by rw [strN_length]; exact hi)
  rw [Nat.zero_add, this, byte_at2]
theorem CRow.set {w : World} {B : Nat} {l : List Nat} (h : CRow w B l) (k v : Nat) : CRow (w.setCell ⟨B, k, none⟩ (.int .u8 (v : Int))) B (l.set k v) := by
  obtain ⟨C, t, lo, hi, h1, h2, h3⟩ := h
  refine ⟨C.setIfInBounds k (.int .u8 (v : Int)), t, lo, hi, ?_, by rw [List.length_set]; exact h2, ?_⟩
  · simp only [World.setCell, Array.getElem?_modify, h1]
    simp
  · intro j hj
    rw [List.length_set] at hj
    rw [Array.getElem?_setIfInBounds]
    have hjc := h3 j hj
    have hjs : j < C.size := by
      rcases Nat.lt_or_ge j C.size with h | h
      · exact h
      · rw [Array.getElem?_eq_none h] at hjc; cases hjc
    by_cases e : k = j
    · subst e
      simp [hjs, List.getD_eq_getElem?_getD, hj]
    · rw [if_neg e, hjc, List.getD_eq_getElem?_getD, List.getD_eq_getElem?_getD, List.getElem?_set_ne e]
theorem crow_bytes (w : World) (e : TypeId) (s : ByteArray) : CRow (Lib.bytesWorld w e s) w.heap.size (strN s) := by
  have h := Lib.bytesWorld_at_new w e s
  have hc := fun j hj => bytesWorld_cellN w e s j hj
  have hcc : ∀ j, j < s.size → (Lib.bytesCells w e s)[j]? = some (.int .u8 (((strN s).getD j 0 : Nat) : Int)) := by
    intro j hj
    have := hc j hj
    simp only [World.cell?, h] at this
    simpa using this
  refine ⟨_, _, _, _, h, ?_, fun j hj => hcc j (by rw [strN_length] at hj; exact hj)⟩
  rw [strN_length]
  rcases Nat.lt_or_ge (Lib.bytesCells w e s).size s.size with hlt | hge
  · have := hcc (Lib.bytesCells w e s).size hlt
    rw [Array.getElem?_eq_none (Nat.le_refl _)] at this
    cases this
  · exact hge
end Go.Proofs.YtpfmfigommmjiaaDoor
