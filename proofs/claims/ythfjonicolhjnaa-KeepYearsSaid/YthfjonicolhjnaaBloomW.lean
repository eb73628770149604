/- The walks of package bloom: positions. -/
import Derived.Test.YthfjonicolhjnaaRows
import Derived.Test.YthfjonicolhjnaaMem
import Derived.Test.YthfjonicolhjnaaBits2
import Derived.BigQuiet
import Derived.Deep.QuietTactic
import Derived.Deep.RegionHeld3
import Derived.Deep.MidRow
namespace Go.Proofs.Ythfjonicolhjnaa
open Go.RowKit
set_option maxRecDepth 100000 in
theorem be32_any (b off cap a0 a1 a2 a3 : Nat) (w : World) (h0 : w.cell? ⟨b, off, none⟩ = some (.int .u8 a0)) (h1 : w.cell? ⟨b, off + 1, none⟩ = some (.int .u8 a1)) (h2 : w.cell? ⟨b, off + 2, none⟩ = some (.int .u8 a2)) (h3 : w.cell? ⟨b, off + 3, none⟩ = some (.int .u8 a3)) (l0 : a0 < 256) (l1 : a1 < 256) (l2 : a2 < 256) (l3 : a3 < 256) :
    Calls Try.prog 35 #[.agg #[], .slice (some ⟨b, off, none⟩) 4 cap] w fun e w' => e = .returned (.int .u32 (be32 a0 a1 a2 a3)) ∧ Below w.heap.size w w' := by
  have hb := World.block_lt_of_cell? w _ h0
  go_enter Try.func35, Try.ntmps35
  go_wp2
  go_quiet (fail)
  go_wp2
  go_ret
  exact ⟨ret_int (be32_val a0 a1 a2 a3 l0 l1 l2 l3), below_drewN ((Below.refl _ _).alloc (Nat.le_refl _) _) _⟩
/-- an identifier's cells -/
def idC (a : List Nat) : Array Value := (a.map bV).toArray
/-- its first and its second number -/
def idHi (a : List Nat) : Nat := be32 (a.getD 0 0) (a.getD 1 0) (a.getD 2 0) (a.getD 3 0)
def idLo (a : List Nat) : Nat := be32 (a.getD 4 0) (a.getD 5 0) (a.getD 6 0) (a.getD 7 0)
def bpos (a : List Nat) (i : Nat) : Nat := (idHi a + i * idLo a) % 1024
set_option maxRecDepth 100000 in
theorem pos_aux (a0 a1 a2 a3 a4 a5 a6 a7 x y : Nat) (w : World) (hx : x < 4294967296) (hy : y < 4294967296)
    (C1 : Hid (∀ (wx : World) (B cap : Nat), wx.heap[B]? = some (.cells #[.int .u8 a0, .int .u8 a1, .int .u8 a2, .int .u8 a3, .int .u8 a4, .int .u8 a5, .int .u8 a6, .int .u8 a7] 27 (0, 0)) → Calls Try.prog 35 #[.agg #[], .slice (some ⟨B, 0, none⟩) 4 cap] wx fun e w' => e = .returned (.int .u32 x) ∧ Below wx.heap.size wx w'))
    (C2 : Hid (∀ (wx : World) (B cap : Nat), wx.heap[B]? = some (.cells #[.int .u8 a0, .int .u8 a1, .int .u8 a2, .int .u8 a3, .int .u8 a4, .int .u8 a5, .int .u8 a6, .int .u8 a7] 27 (0, 0)) → Calls Try.prog 35 #[.agg #[], .slice (some ⟨B, 4, none⟩) 4 cap] wx fun e w' => e = .returned (.int .u32 y) ∧ Below wx.heap.size wx w')) :
    Calls Try.prog 27 #[.agg #[.int .u8 a0, .int .u8 a1, .int .u8 a2, .int .u8 a3, .int .u8 a4, .int .u8 a5, .int .u8 a6, .int .u8 a7]] w fun e w' => e = .returned (.agg #[.int .u32 ((x + 0 * y) % 1024 : Nat), .int .u32 ((x + 1 * y) % 1024 : Nat), .int .u32 ((x + 2 * y) % 1024 : Nat), .int .u32 ((x + 3 * y) % 1024 : Nat)]) ∧ Below w.heap.size w w' := by
  go_enter Try.func27, Try.ntmps27
  go_wp2
  have hA : (((w.alloc (.cells #[.int .u8 a0, .int .u8 a1, .int .u8 a2, .int .u8 a3, .int .u8 a4, .int .u8 a5, .int .u8 a6, .int .u8 a7] 27)).alloc (.cells #[.int .u32 0, .int .u32 0, .int .u32 0, .int .u32 0] 60))).heap[w.heap.size]? = some (.cells #[.int .u8 a0, .int .u8 a1, .int .u8 a2, .int .u8 a3, .int .u8 a4, .int .u8 a5, .int .u8 a6, .int .u8 a7] 27 (0, 0)) := heap_alloc2_old _ _ _
  have hB : (((w.alloc (.cells #[.int .u8 a0, .int .u8 a1, .int .u8 a2, .int .u8 a3, .int .u8 a4, .int .u8 a5, .int .u8 a6, .int .u8 a7] 27)).alloc (.cells #[.int .u32 0, .int .u32 0, .int .u32 0, .int .u32 0] 60))).heap[w.heap.size + 1]? = some (.cells #[.int .u32 0, .int .u32 0, .int .u32 0, .int .u32 0] 60 (0, 0)) := heap_alloc2_new _ _ _
  have hBl : Below w.heap.size w ((w.alloc (.cells #[.int .u8 a0, .int .u8 a1, .int .u8 a2, .int .u8 a3, .int .u8 a4, .int .u8 a5, .int .u8 a6, .int .u8 a7] 27)).alloc (.cells #[.int .u32 0, .int .u32 0, .int .u32 0, .int .u32 0] 60)) := ((Below.refl _ _).alloc (Nat.le_refl _) _).alloc (by simp) _
  generalize (w.alloc (.cells #[.int .u8 a0, .int .u8 a1, .int .u8 a2, .int .u8 a3, .int .u8 a4, .int .u8 a5, .int .u8 a6, .int .u8 a7] 27)).alloc (.cells #[.int .u32 0, .int .u32 0, .int .u32 0, .int .u32 0] 60) = w1 at *
  go_region_held3 (fun w' => w'.heap[w.heap.size]? = some (.cells #[.int .u8 a0, .int .u8 a1, .int .u8 a2, .int .u8 a3, .int .u8 a4, .int .u8 a5, .int .u8 a6, .int .u8 a7] 27 (0, 0)) ∧ w'.heap[w.heap.size + 1]? = some (.cells #[.int .u32 0, .int .u32 0, .int .u32 0, .int .u32 0] 60 (0, 0)) ∧ Below w.heap.size w w') (first | exact ⟨hA, hB, hBl.drew⟩ | go_keep | (go_split_ands; exact ⟨(hb.block _ (lt_of_block (by assumption))).trans (by assumption), (hb.block _ (lt_of_block (by assumption))).trans (by assumption), Below.step (by assumption) hb⟩)) (first | (go_at_call 35; with_reducible refine (C1.out _ _ _ ?_).mono ?_; (go_split_ands; assumption); rintro e w2 ⟨rfl, hb⟩) | (go_at_call 35; with_reducible refine (C2.out _ _ _ ?_).mono ?_; (go_split_ands; assumption); rintro e w2 ⟨rfl, hb⟩))
  go_split_ands
  rename_i r1 r2 r3
  clear C1 C2 hA hB hBl
  have hsz : w.heap.size + 1 < w2.heap.size := lt_of_block r2
  have c0 : w2.cell? ⟨w.heap.size + 1, 0, none⟩ = some (.int .u32 0) := by rw [cell_of_row _ _ _ _ _ _ r2]; rfl
  have c1 : w2.cell? ⟨w.heap.size + 1, 1, none⟩ = some (.int .u32 0) := by rw [cell_of_row _ _ _ _ _ _ r2]; rfl
  have c2 : w2.cell? ⟨w.heap.size + 1, 2, none⟩ = some (.int .u32 0) := by rw [cell_of_row _ _ _ _ _ _ r2]; rfl
  have c3 : w2.cell? ⟨w.heap.size + 1, 3, none⟩ = some (.int .u32 0) := by rw [cell_of_row _ _ _ _ _ _ r2]; rfl
  have f0 : ∀ j, w2.frozen? ⟨w.heap.size + 1, j, none⟩ = false := fun j => frozen_of_row _ _ _ _ _ r2
  have R3 := Lib.hid r3
  clear r1 r2 r3
  go_wp2
  refine wp_loop_rounds 5 ?_
  rw [rounds_succ]
  go_wp2
  rw [rounds_succ]
  go_wp2
  rw [rounds_succ]
  go_wp2
  rw [rounds_succ]
  go_wp2
  rw [rounds_succ]
  go_wp2
  refine bodyPost_ret (v := .agg #[.int .u32 ((x : Int) % 1024), .int .u32 (((x : Int) + y) % 1024), .int .u32 (((x : Int) + 2 * y) % 1024), .int .u32 (((x : Int) + 3 * y) % 1024)]) (by simp [results, Try.results27, go_sem, hsz, c0, c1, c2, c3]) rfl ⟨?_, ?_⟩
  · simp
  · refine Below.alloc (Below.setCell (Below.setCell (Below.setCell (Below.setCell R3.out ?_ _) ?_ _) ?_ _) ?_ _) ?_ _
    all_goals simp
    omega
theorem pos_any (a : List Nat) (w : World) (hl : a.length = 8) (ha : ∀ c ∈ a, c < 256) :
    Calls Try.prog 27 #[.agg (idC a)] w fun e w' => e = .returned (.agg #[.int .u32 (bpos a 0), .int .u32 (bpos a 1), .int .u32 (bpos a 2), .int .u32 (bpos a 3)]) ∧ Below w.heap.size w w' := by
  match a, hl with
  | [a0, a1, a2, a3, a4, a5, a6, a7], _ =>
  have l0 := ha a0 (by simp)
  have l1 := ha a1 (by simp)
  have l2 := ha a2 (by simp)
  have l3 := ha a3 (by simp)
  have l4 := ha a4 (by simp)
  have l5 := ha a5 (by simp)
  have l6 := ha a6 (by simp)
  have l7 := ha a7 (by simp)
  exact pos_aux a0 a1 a2 a3 a4 a5 a6 a7 (be32 a0 a1 a2 a3) (be32 a4 a5 a6 a7) w (be32_lt a0 a1 a2 a3 l0 l1 l2 l3) (be32_lt a4 a5 a6 a7 l4 l5 l6 l7)
    (fun wx B cap h => be32_any B 0 cap a0 a1 a2 a3 wx (by rw [cell_of_row _ _ _ _ _ _ h]; rfl) (by rw [cell_of_row _ _ _ _ _ _ h]; rfl) (by rw [cell_of_row _ _ _ _ _ _ h]; rfl) (by rw [cell_of_row _ _ _ _ _ _ h]; rfl) l0 l1 l2 l3)
    (fun wx B cap h => be32_any B 4 cap a4 a5 a6 a7 wx (by rw [cell_of_row _ _ _ _ _ _ h]; rfl) (by rw [cell_of_row _ _ _ _ _ _ h]; rfl) (by rw [cell_of_row _ _ _ _ _ _ h]; rfl) (by rw [cell_of_row _ _ _ _ _ _ h]; rfl) l4 l5 l6 l7)
end Go.Proofs.Ythfjonicolhjnaa
