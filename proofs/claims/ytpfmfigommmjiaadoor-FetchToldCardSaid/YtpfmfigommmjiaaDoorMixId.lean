/- The walks of mix.Sum and mix.ID. -/
import Derived.Test.YtpfmfigommmjiaaDoorMixSumW
namespace Go.Proofs.YtpfmfigommmjiaaDoor
open Go.RowKit Plain
namespace Plain
def be8 (h : Nat) : List Nat := [h / 72057594037927936 % 256, h / 281474976710656 % 256, h / 1099511627776 % 256, h / 4294967296 % 256, h / 16777216 % 256, h / 65536 % 256, h / 256 % 256, h % 256]
theorem be8_inj {g h : Nat} (hg : g < 18446744073709551616) (hh : h < 18446744073709551616) (e : be8 g = be8 h) : g = h := by
  simp only [be8, List.cons.injEq, and_true] at e
  obtain ⟨e7, e6, e5, e4, e3, e2, e1, e0⟩ := e
  have a1 : g / 256 / 256 = g / 65536 := by rw [Nat.div_div_eq_div_mul]
  have b1 : h / 256 / 256 = h / 65536 := by rw [Nat.div_div_eq_div_mul]
  have a2 : g / 65536 / 256 = g / 16777216 := by rw [Nat.div_div_eq_div_mul]
  have b2 : h / 65536 / 256 = h / 16777216 := by rw [Nat.div_div_eq_div_mul]
  have a3 : g / 16777216 / 256 = g / 4294967296 := by rw [Nat.div_div_eq_div_mul]
  have b3 : h / 16777216 / 256 = h / 4294967296 := by rw [Nat.div_div_eq_div_mul]
  have a4 : g / 4294967296 / 256 = g / 1099511627776 := by rw [Nat.div_div_eq_div_mul]
  have b4 : h / 4294967296 / 256 = h / 1099511627776 := by rw [Nat.div_div_eq_div_mul]
  have a5 : g / 1099511627776 / 256 = g / 281474976710656 := by rw [Nat.div_div_eq_div_mul]
  have b5 : h / 1099511627776 / 256 = h / 281474976710656 := by rw [Nat.div_div_eq_div_mul]
  have a6 : g / 281474976710656 / 256 = g / 72057594037927936 := by rw [Nat.div_div_eq_div_mul]
  have b6 : h / 281474976710656 / 256 = h / 72057594037927936 := by rw [Nat.div_div_eq_div_mul]
  have t7 : g / 72057594037927936 = h / 72057594037927936 := by
    have x : g / 72057594037927936 < 256 := by omega
    have y : h / 72057594037927936 < 256 := by omega
    rwa [Nat.mod_eq_of_lt x, Nat.mod_eq_of_lt y] at e7
  have st : ∀ p q : Nat, p / 256 = q / 256 → p % 256 = q % 256 → p = q := fun p q h1 h2 => by omega
  have t6 := st _ _ (by rw [a6, b6]; exact t7) e6
  have t5 := st _ _ (by rw [a5, b5]; exact t6) e5
  have t4 := st _ _ (by rw [a4, b4]; exact t5) e4
  have t3 := st _ _ (by rw [a3, b3]; exact t4) e3
  have t2 := st _ _ (by rw [a2, b2]; exact t3) e2
  have t1 := st _ _ (by rw [a1, b1]; exact t2) e1
  exact st _ _ t1 e0
theorem be8_lt (h : Nat) : ∀ c ∈ be8 h, c < 256 := by
  intro c hc
  simp only [be8, List.mem_cons, List.not_mem_nil, or_false] at hc
  rcases hc with rfl | rfl | rfl | rfl | rfl | rfl | rfl | rfl <;> exact Nat.mod_lt _ (by decide)
end Plain
theorem be8_cells (h : Nat) : (#[Value.int .u8 ((h : Int) / 72057594037927936 % 256), .int .u8 ((h : Int) / 281474976710656 % 256), .int .u8 ((h : Int) / 1099511627776 % 256), .int .u8 ((h : Int) / 4294967296 % 256), .int .u8 ((h : Int) / 16777216 % 256), .int .u8 ((h : Int) / 65536 % 256), .int .u8 ((h : Int) / 256 % 256), .int .u8 ((h : Int) % 256)] : Array Value) = ((be8 h).map bV).toArray := by
  simp only [be8, List.map_cons, List.map_nil, bV]
  simp
theorem row8 {w : World} {B : Nat} {t : TypeId} {z0 z1 z2 z3 z4 z5 z6 z7 : Value} (hb : w.heap[B]? = some (.cells #[z0, z1, z2, z3, z4, z5, z6, z7] t (0, 0))) (v0 v1 v2 v3 v4 v5 v6 v7 : Value) (o : Obj) :
    (((((((((w.setCell ⟨B, 0, none⟩ v0).setCell ⟨B, 1, none⟩ v1).setCell ⟨B, 2, none⟩ v2).setCell ⟨B, 3, none⟩ v3).setCell ⟨B, 4, none⟩ v4).setCell ⟨B, 5, none⟩ v5).setCell ⟨B, 6, none⟩ v6).setCell ⟨B, 7, none⟩ v7).alloc o).heap[B]? = some (.cells #[v0, v1, v2, v3, v4, v5, v6, v7] t (0, 0)) := by
  have r0 := heap_setCell_same w B 0 _ t v0 hb
  simp only [List.setIfInBounds_toArray, List.set_cons_zero] at r0
  have r1 := heap_setCell_same _ B 1 _ t v1 r0
  simp only [List.setIfInBounds_toArray, List.set_cons_zero, List.set_cons_succ] at r1
  have r2 := heap_setCell_same _ B 2 _ t v2 r1
  simp only [List.setIfInBounds_toArray, List.set_cons_zero, List.set_cons_succ] at r2
  have r3 := heap_setCell_same _ B 3 _ t v3 r2
  simp only [List.setIfInBounds_toArray, List.set_cons_zero, List.set_cons_succ] at r3
  have r4 := heap_setCell_same _ B 4 _ t v4 r3
  simp only [List.setIfInBounds_toArray, List.set_cons_zero, List.set_cons_succ] at r4
  have r5 := heap_setCell_same _ B 5 _ t v5 r4
  simp only [List.setIfInBounds_toArray, List.set_cons_zero, List.set_cons_succ] at r5
  have r6 := heap_setCell_same _ B 6 _ t v6 r5
  simp only [List.setIfInBounds_toArray, List.set_cons_zero, List.set_cons_succ] at r6
  have r7 := heap_setCell_same _ B 7 _ t v7 r6
  simp only [List.setIfInBounds_toArray, List.set_cons_zero, List.set_cons_succ] at r7
  exact ((Below.heap_alloc _ _ _ (lt_of_block r7)).trans r7)
theorem below8 {w : World} {B : Nat} (v0 v1 v2 v3 v4 v5 v6 v7 : Value) (o : Obj) (lt : B < w.heap.size) :
    Below B w (((((((((w.setCell ⟨B, 0, none⟩ v0).setCell ⟨B, 1, none⟩ v1).setCell ⟨B, 2, none⟩ v2).setCell ⟨B, 3, none⟩ v3).setCell ⟨B, 4, none⟩ v4).setCell ⟨B, 5, none⟩ v5).setCell ⟨B, 6, none⟩ v6).setCell ⟨B, 7, none⟩ v7).alloc o) := by
  refine Below.alloc (Below.setCell (Below.setCell (Below.setCell (Below.setCell (Below.setCell (Below.setCell (Below.setCell (Below.setCell (Below.refl _ _) ?_ _) ?_ _) ?_ _) ?_ _) ?_ _) ?_ _) ?_ _) ?_ _) ?_ _
  all_goals simp [World.setCell]
  omega
set_option maxRecDepth 100000 in
theorem put64 (B t h : Nat) (w : World) (hb : w.heap[B]? = some (.cells #[.int .u8 0, .int .u8 0, .int .u8 0, .int .u8 0, .int .u8 0, .int .u8 0, .int .u8 0, .int .u8 0] t (0, 0))) : Calls Tryd.prog 50 #[.agg #[], .slice (some ⟨B, 0, none⟩) 8 8, .int .u64 (h : Int)] w fun e w' => (∃ v, e = .returned v) ∧ w'.heap[B]? = some (.cells ((be8 h).map bV).toArray t (0, 0)) ∧ Below B w w' := by
  have lt := lt_of_block hb
  have c0 : w.cell? ⟨B, 0, none⟩ = some (.int .u8 0) := (cell_of_row _ _ _ _ _ _ hb).trans rfl
  have c1 : w.cell? ⟨B, 1, none⟩ = some (.int .u8 0) := (cell_of_row _ _ _ _ _ _ hb).trans rfl
  have c2 : w.cell? ⟨B, 2, none⟩ = some (.int .u8 0) := (cell_of_row _ _ _ _ _ _ hb).trans rfl
  have c3 : w.cell? ⟨B, 3, none⟩ = some (.int .u8 0) := (cell_of_row _ _ _ _ _ _ hb).trans rfl
  have c4 : w.cell? ⟨B, 4, none⟩ = some (.int .u8 0) := (cell_of_row _ _ _ _ _ _ hb).trans rfl
  have c5 : w.cell? ⟨B, 5, none⟩ = some (.int .u8 0) := (cell_of_row _ _ _ _ _ _ hb).trans rfl
  have c6 : w.cell? ⟨B, 6, none⟩ = some (.int .u8 0) := (cell_of_row _ _ _ _ _ _ hb).trans rfl
  have c7 : w.cell? ⟨B, 7, none⟩ = some (.int .u8 0) := (cell_of_row _ _ _ _ _ _ hb).trans rfl
  have fr := fun k => frozen_of_row _ B k _ _ hb
  have HB := Lib.hid hb
  clear hb
  go_enter Tryd.func50, Tryd.ntmps50
  go_wp2
  refine ⟨rfl, ?_⟩
  refine ⟨_, by simp [results, Tryd.results50]; rfl, ⟨_, rfl⟩, ?_, ?_⟩
  · rw [← be8_cells]
    exact row8 HB.out _ _ _ _ _ _ _ _ _
  · exact below8 _ _ _ _ _ _ _ _ _ lt
theorem and_full (x : Nat) (hx : x < 18446744073709551616) : x &&& 18446744073709551615 = x := by
  have := Nat.and_two_pow_sub_one_eq_mod x 64
  rw [Nat.mod_eq_of_lt (by simpa using hx)] at this
  simpa using this
def full : Nat := 18446744073709551615
def hsum (l : List Nat) : Nat := msum full l
theorem hsum_lt (l : List Nat) : hsum l < 18446744073709551616 := Nat.lt_of_le_of_lt Nat.and_le_right (by decide)
set_option maxRecDepth 100000 in
theorem hsum_any (s : ByteArray) (w : World) (hs : s.size ≤ 9223372036854775807) : Calls Tryd.prog 51 #[.string s] w fun e w' => e = .returned (.int .u64 (hsum (strN s) : Nat)) ∧ Below w.heap.size w w' := by
  have HC := Lib.hid fun wx => sum_any s full wx hs (by decide)
  have hr : Hid (hsum (strN s) = msum full (strN s)) := rfl
  generalize hsum (strN s) = r at *
  rw [← hr.out] at HC
  clear hr
  have HC2 : Hid (∀ wx : World, Calls Tryd.prog 61 #[.string s, .int .u64 18446744073709551615] wx fun e w' => e = .returned (.int .u64 (r : Int)) ∧ Below wx.heap.size wx w') := HC
  clear HC
  go_enter Tryd.func51, Tryd.ntmps51
  go_wp2_with fail
  refine (HC2.out _).mono ?_
  rintro e w2 ⟨rfl, hb⟩
  go_wp2_with fail
  go_ret
  exact ⟨rfl, hb⟩
end Go.Proofs.YtpfmfigommmjiaaDoor
