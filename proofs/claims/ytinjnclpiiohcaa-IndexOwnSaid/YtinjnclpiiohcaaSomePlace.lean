/- The place that the laws name; a slice of it alone. -/
import Derived.Test.YtinjnclpiiohcaaIdxCheck
namespace Go.Proofs.Ytinjnclpiiohcaa
open Go.RowKit Plain
def spP : Pl := ((1, 0, 0, 0, 0, 0, 0, 0), 1, 0, 0, 0)
theorem xOk_sp : xOk [spP] := ⟨by decide, fun p hp => by
  simp only [List.mem_singleton] at hp
  subst hp
  decide, fun i h => by simp at h⟩
theorem xOk_nil : xOk [] := ⟨by decide, fun p hp => by simp at hp, fun i h => by simp at h⟩
set_option maxRecDepth 100000 in
theorem somePlace_lit (u : World) : Calls Try.prog 32 #[] u fun e w' => e = .returned (.agg #[.int .u8 1, .int .u8 0, .int .u8 0, .int .u8 0, .int .u8 0, .int .u8 0, .int .u8 0, .int .u8 0, .int .i64 1, .int .i64 0, .int .i64 0, .int .i64 0]) ∧ Below u.heap.size u w' := by
  go_enter Try.func32, Try.ntmps32
  go_wp2_with fail
  exact bodyPost_ret (results_cell_row (p := 0) (ty := 69) rfl _ _ u.heap.size 69 _ (0, 0) _ rfl (heap_alloc_new u _) Try.underlying69 rfl (by kernel_rfl)) rfl ⟨rfl, (Below.refl _ _).alloc (Nat.le_refl _) _⟩
theorem row_rangeB {w : World} {b : Nat} {t : TypeId} {l : List Value} (h : w.heap[b]? = some (.cells l.toArray t (0, 0))) : w.rangeAt b 0 l := fun j v hj => by
  rw [Nat.zero_add, cell_of_row _ _ _ _ _ _ h]
  simpa using hj
theorem sat_sp (u : World) : SAt 12 plC (u.alloc (.cells #[.int .u8 1, .int .u8 0, .int .u8 0, .int .u8 0, .int .u8 0, .int .u8 0, .int .u8 0, .int .u8 0, .int .i64 1, .int .i64 0, .int .i64 0, .int .i64 0] 69)) (some ⟨u.heap.size, 0, none⟩) [spP] := by
  intro i hi
  obtain rfl : i = 0 := by simpa using hi
  exact ⟨u.heap.size, 0, rfl, by simp, row_rangeB (l := plC spP) (heap_alloc_new u _)⟩
end Go.Proofs.Ytinjnclpiiohcaa
