/- someWorld: what it is, and that walk.Check takes it. -/
import Derived.Test.YtokckcmkbnhhhaaDoorDeltaJoin
namespace Go.Proofs.YtokckcmkbnhhhaaDoor
open Go.RowKit Plain Go.Maps
def sw1 : It := (⟨#[47, 100]⟩, 2, 0, 0, ⟨#[]⟩)
def sw2 : It := (⟨#[47, 100, 47, 102]⟩, 1, 0, 0, "0123456789abcdef0123456789abcdef!".toUTF8)
def swL : List It := [sw1, sw2]
def SwEnd (w0 : World) (e : Ending) (w : World) : Prop := Below w0.heap.size w0 w ∧ ∃ (a : Option Addr), e = .returned (.slice a swL.length 2) ∧ SAt 5 iC w a swL
set_option maxRecDepth 100000 in
theorem someWorld_any (w : World) : Calls Tryd.prog 32 #[] w (SwEnd w) := by
  have HB : Hid (Below w.heap.size w (w.alloc (.cells (swL.flatMap iC).toArray 60))) := (Below.refl _ _).alloc (Nat.le_refl _) _
  have HO : Hid (SAt 5 iC (w.alloc (.cells (swL.flatMap iC).toArray 60)) (some ⟨w.heap.size, 0, none⟩) swL) := by
    intro i hi
    refine ⟨w.heap.size, 0, rfl, by simp, ?_⟩
    intro j u hu
    have hi2 : i < 2 := hi
    rw [cell_of_row _ _ _ _ _ _ (heap_alloc_new w _)]
    have hj : j < 5 := by
      rcases Nat.lt_or_ge j 5 with h | h
      · exact h
      · rw [List.getElem?_eq_none (by rw [iC_length]; exact h)] at hu; cases hu
    rw [Nat.zero_add, List.getElem?_toArray, flat_get iC_length swL i j hi hj]
    exact hu
  go_enter Tryd.func32, Tryd.ntmps32
  go_wp2_with fail
  go_ret
  exact ⟨HB.out, _, rfl, HO.out⟩
theorem nk_sw1 : nk sw1.1 = [[100]] ∧ nc sw1.1 = 0 := by
  constructor <;> decide
theorem nk_sw2 : nk sw2.1 = [[100], [102]] ∧ nc sw2.1 = 0 := by
  constructor <;> decide
theorem icode_sw1 : icode sw1 = 0 := by
  unfold icode
  rw [nk_sw1.1, nk_sw1.2]
  decide
theorem icode_sw2 : icode sw2 = 0 := by
  unfold icode
  rw [nk_sw2.1, nk_sw2.2]
  decide
theorem parent_sw1 : parent sw1.1 = ⟨#[]⟩ := by decide
theorem parent_sw2 : parent sw2.1 = sw1.1 := by decide
theorem sw_code : wcode swL = 0 := by
  unfold wcode swL
  rw [if_neg (by decide)]
  rw [wgo_on icode_sw1 (by simp) (by rw [parent_sw1]; rfl)]
  rw [wgo_on icode_sw2 (by intro p hp; cases hp; rw [nk_sw1.1, nk_sw2.1]; decide) (by rw [parent_sw2]; rfl)]
  rfl
end Go.Proofs.YtokckcmkbnhhhaaDoor
