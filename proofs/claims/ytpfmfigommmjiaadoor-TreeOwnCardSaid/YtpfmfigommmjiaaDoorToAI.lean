/- Joined: MixId, App64, NumW, CRow. -/
import Derived.Test.YtpfmfigommmjiaaDoorToAH
import Derived.Test.YtpfmfigommmjiaaDoorToAG
import Derived.Test.YtpfmfigommmjiaaDoorToAF
import Derived.Test.YtpfmfigommmjiaaDoorRows
import Derived.Test.YtpfmfigommmjiaaDoorShelf
import Derived.Test.YtpfmfigommmjiaaDoorToAA
import Derived.Lib.ConvBytes
namespace Go.Proofs.YtpfmfigommmjiaaDoor
open Go.RowKit Plain
namespace Plain
def be8 (h : Nat) : List Nat := [h / 72057594037927936 % 256, h / 281474976710656 % 256, h / 1099511627776 % 256, h / 4294967296 % 256, h / 16777216 % 256, h / 65536 % 256, h / 256 % 256, h % 256]
theorem be8_inj {g h : Nat} (hg : g < 18446744073709551616) (hh : h < 18446744073709551616) (e : be8 g = be8 h) : g = h := by
  simp only [be8, List.cons.injEq, and_true] at e
  obtain ⟨e7, e6, e5, e4, e3, e2, e1, e0⟩ := e
  have a1 : g / 256 / 256 = g / 65536 := by rw [Nat.div_div_eq_div_mul]
  have b1 : h / 256 / 256 = h / 65536 := by rw [Nat.div_div_eq_div_mul]
  have a2 : g / 65536 / 256 = g / 16777216 := by rw [Nat.div_div_eq_div_mul]
  have b2 : h / 65536 / 256 = h / 16777216 := by rw [Nat.div_div_eq_div_mul]
  have a3 : g / 16777216 / 256 = g / 4294967296 := by rw [Nat.div_div_eq_div_mul]
  have b3 : h / 16777216 / 256 = h / 4294967296 := by rw [Nat.div_div_eq_div_mul]
  have a4 : g / 4294967296 / 256 = g / 1099511627776 := by rw [Nat.div_div_eq_div_mul]
  have b4 : h / 4294967296 / 256 = h / 1099511627776 := by rw [Nat.div_div_eq_div_mul]
  have a5 : g / 1099511627776 / 256 = g / 281474976710656 := by rw [Nat.div_div_eq_div_mul]
  have b5 : h / 1099511627776 / 256 = h / 281474976710656 := by rw [Nat.div_div_eq_div_mul]
  have a6 : g / 281474976710656 / 256 = g / 72057594037927936 := by rw [Nat.div_div_eq_div_mul]
  have b6 : h / 281474976710656 / 256 = h / 72057594037927936 := by rw [Nat.div_div_eq_div_mul]
  have t7 : g / 72057594037927936 = h / 72057594037927936 := by
    have x : g / 72057594037927936 < 256 := by omega
    have y : h / 72057594037927936 < 256 := by omega
    rwa [Nat.mod_eq_of_lt x, Nat.mod_eq_of_lt y] at e7
  have st : ∀ p q : Nat, p / 256 = q / 256 → p % 256 = q % 256 → p = q := fun p q h1 h2 => by omega
  have t6 := st _ _ (by rw [a6, b6]; exact t7) e6
  have t5 := st _ _ (by rw [a5, b5]; exact t6) e5
  have t4 := st _ _ (by rw [a4, b4]; exact t5) e4
  have t3 := st _ _ (by rw [a3, b3]; exact t4) e3
  have t2 := st _ _ (by rw [a2, b2]; exact t3) e2
  have t1 := st _ _ (by rw [a1, b1]; exact t2) e1
  exact st _ _ t1 e0
theorem be8_lt (h : Nat) : ∀ c ∈ be8 h, c < 256 := by
  intro c hc
  simp only [be8, List.mem_cons, List.not_mem_nil, or_false] at hc
  rcases hc with rfl | rfl | rfl | rfl | rfl | rfl | rfl | rfl <;> exact Nat.mod_lt _ (by decide)
end Plain
theorem be8_cells (h : Nat) : (#[Value.int .u8 ((h : Int) / 72057594037927936 % 256), .int .u8 ((h : Int) / 281474976710656 % 256), .int .u8 ((h : Int) / 1099511627776 % 256), .int .u8 ((h : Int) / 4294967296 % 256), .int .u8 ((h : Int) / 16777216 % 256), .int .u8 ((h : Int) / 65536 % 256), .int .u8 ((h : Int) / 256 % 256), .int .u8 ((h : Int) % 256)] : Array Value) = ((be8 h).map bV).toArray := by
  simp only [be8, List.map_cons, List.map_nil, bV]
  simp
theorem row8 {w : World} {B : Nat} {t : TypeId} {z0 z1 z2 z3 z4 z5 z6 z7 : Value} (hb : w.heap[B]? = some (.cells #[z0, z1, z2, z3, z4, z5, z6, z7] t (0, 0))) (v0 v1 v2 v3 v4 v5 v6 v7 : Value) (o : Obj) :
    (((((((((w.setCell ⟨B, 0, none⟩ v0).setCell ⟨B, 1, none⟩ v1).setCell ⟨B, 2, none⟩ v2).setCell ⟨B, 3, none⟩ v3).setCell ⟨B, 4, none⟩ v4).setCell ⟨B, 5, none⟩ v5).setCell ⟨B, 6, none⟩ v6).setCell ⟨B, 7, none⟩ v7).alloc o).heap[B]? = some (.cells #[v0, v1, v2, v3, v4, v5, v6, v7] t (0, 0)) := by
  have r0 := heap_setCell_same w B 0 _ t v0 hb
  simp only [List.setIfInBounds_toArray, List.set_cons_zero] at r0
  have r1 := heap_setCell_same _ B 1 _ t v1 r0
  simp only [List.setIfInBounds_toArray, List.set_cons_zero, List.set_cons_succ] at r1
  have r2 := heap_setCell_same _ B 2 _ t v2 r1
  simp only [List.setIfInBounds_toArray, List.set_cons_zero, List.set_cons_succ] at r2
  have r3 := heap_setCell_same _ B 3 _ t v3 r2
  simp only [List.setIfInBounds_toArray, List.set_cons_zero, List.set_cons_succ] at r3
  have r4 := heap_setCell_same _ B 4 _ t v4 r3
  simp only [List.setIfInBounds_toArray, List.set_cons_zero, List.set_cons_succ] at r4
  have r5 := heap_setCell_same _ B 5 _ t v5 r4
  simp only [List.setIfInBounds_toArray, List.set_cons_zero, List.set_cons_succ] at r5
  have r6 := heap_setCell_same _ B 6 _ t v6 r5
  simp only [List.setIfInBounds_toArray, List.set_cons_zero, List.set_cons_succ] at r6
  have r7 := heap_setCell_same _ B 7 _ t v7 r6
  simp only [List.setIfInBounds_toArray, List.set_cons_zero, List.set_cons_succ] at r7
  exact ((Below.heap_alloc _ _ _ (lt_of_block r7)).trans r7)
theorem below8 {w : World} {B : Nat} (v0 v1 v2 v3 v4 v5 v6 v7 : Value) (o : Obj) (lt : B < w.heap.size) :
    Below B w (((((((((w.setCell ⟨B, 0, none⟩ v0).setCell ⟨B, 1, none⟩ v1).setCell ⟨B, 2, none⟩ v2).setCell ⟨B, 3, none⟩ v3).setCell ⟨B, 4, none⟩ v4).setCell ⟨B, 5, none⟩ v5).setCell ⟨B, 6, none⟩ v6).setCell ⟨B, 7, none⟩ v7).alloc o) := by
  refine Below.alloc (Below.setCell (Below.setCell (Below.setCell (Below.setCell (Below.setCell (Below.setCell (Below.setCell (Below.setCell (Below.refl _ _) ?_ _) ?_ _) ?_ _) ?_ _) ?_ _) ?_ _) ?_ _) ?_ _) ?_ _
  all_goals simp [World.setCell]
  omega
set_option maxRecDepth 100000 in
theorem put64 (B t h : Nat) (w : World) (hb : w.heap[B]? = some (.cells #[.int .u8 0, .int .u8 0, .int .u8 0, .int .u8 0, .int .u8 0, .int .u8 0, .int .u8 0, .int .u8 0] t (0, 0))) : Calls Tryd.prog 50 #[.agg #[], .slice (some ⟨B, 0, none⟩) 8 8, .int .u64 (h : Int)] w fun e w' => (∃ v, e = .returned v) ∧ w'.heap[B]? = some (.cells ((be8 h).map bV).toArray t (0, 0)) ∧ Below B w w' := by
  have lt := lt_of_block hb
  have c0 : w.cell? ⟨B, 0, none⟩ = some (.int .u8 0) := (cell_of_row _ _ _ _ _ _ hb).trans rfl
  have c1 : w.cell? ⟨B, 1, none⟩ = some (.int .u8 0) := (cell_of_row _ _ _ _ _ _ hb).trans rfl
  have c2 : w.cell? ⟨B, 2, none⟩ = some (.int .u8 0) := (cell_of_row _ _ _ _ _ _ hb).trans rfl
  have c3 : w.cell? ⟨B, 3, none⟩ = some (.int .u8 0) := (cell_of_row _ _ _ _ _ _ hb).trans rfl
  have c4 : w.cell? ⟨B, 4, none⟩ = some (.int .u8 0) := (cell_of_row _ _ _ _ _ _ hb).trans rfl
  have c5 : w.cell? ⟨B, 5, none⟩ = some (.int .u8 0) := (cell_of_row _ _ _ _ _ _ hb).trans rfl
  have c6 : w.cell? ⟨B, 6, none⟩ = some (.int .u8 0) := (cell_of_row _ _ _ _ _ _ hb).trans rfl
  have c7 : w.cell? ⟨B, 7, none⟩ = some (.int .u8 0) := (cell_of_row _ _ _ _ _ _ hb).trans rfl
  have fr := fun k => frozen_of_row _ B k _ _ hb
  have HB := Lib.hid hb
  clear hb
  go_enter Tryd.func50, Tryd.ntmps50
  go_wp2
  refine ⟨rfl, ?_⟩
  refine ⟨_, by simp [results, Tryd.results50]; rfl, ⟨_, rfl⟩, ?_, ?_⟩
  · rw [← be8_cells]
    exact row8 HB.out _ _ _ _ _ _ _ _ _
  · exact below8 _ _ _ _ _ _ _ _ _ lt
theorem and_full (x : Nat) (hx : x < 18446744073709551616) : x &&& 18446744073709551615 = x := by
  have := Nat.and_two_pow_sub_one_eq_mod x 64
  rw [Nat.mod_eq_of_lt (by simpa using hx)] at this
  simpa using this
def full : Nat := 18446744073709551615
def hsum (l : List Nat) : Nat := msum full l
theorem hsum_lt (l : List Nat) : hsum l < 18446744073709551616 := Nat.lt_of_le_of_lt Nat.and_le_right (by decide)
set_option maxRecDepth 100000 in
theorem hsum_any (s : ByteArray) (w : World) (hs : s.size ≤ 9223372036854775807) : Calls Tryd.prog 51 #[.string s] w fun e w' => e = .returned (.int .u64 (hsum (strN s) : Nat)) ∧ Below w.heap.size w w' := by
  have HC := Lib.hid fun wx => sum_any s full wx hs (by decide)
  have hr : Hid (hsum (strN s) = msum full (strN s)) := rfl
  generalize hsum (strN s) = r at *
  rw [← hr.out] at HC
  clear hr
  have HC2 : Hid (∀ wx : World, Calls Tryd.prog 61 #[.string s, .int .u64 18446744073709551615] wx fun e w' => e = .returned (.int .u64 (r : Int)) ∧ Below wx.heap.size wx w') := HC
  clear HC
  go_enter Tryd.func51, Tryd.ntmps51
  go_wp2_with fail
  refine (HC2.out _).mono ?_
  rintro e w2 ⟨rfl, hb⟩
  go_wp2_with fail
  go_ret
  exact ⟨rfl, hb⟩
end Go.Proofs.YtpfmfigommmjiaaDoor
namespace Go.Proofs.YtpfmfigommmjiaaDoor
open Go.RowKit Plain
namespace Plain
theorem vl_be8 (g : Nat) (hg : g < 18446744073709551616) : vl (be8 g) = g := by
  have a1 : g / 65536 = g / 256 / 256 := by rw [Nat.div_div_eq_div_mul]
  have a2 : g / 16777216 = g / 65536 / 256 := by rw [Nat.div_div_eq_div_mul]
  have a3 : g / 4294967296 = g / 16777216 / 256 := by rw [Nat.div_div_eq_div_mul]
  have a4 : g / 1099511627776 = g / 4294967296 / 256 := by rw [Nat.div_div_eq_div_mul]
  have a5 : g / 281474976710656 = g / 1099511627776 / 256 := by rw [Nat.div_div_eq_div_mul]
  have a6 : g / 72057594037927936 = g / 281474976710656 / 256 := by rw [Nat.div_div_eq_div_mul]
  have a7 : g / 72057594037927936 < 256 := by omega
  simp only [be8, vl, List.foldl_cons, List.foldl_nil]
  generalize g / 72057594037927936 = g7 at *
  generalize g / 281474976710656 = g6 at *
  generalize g / 1099511627776 = g5 at *
  generalize g / 4294967296 = g4 at *
  generalize g / 16777216 = g3 at *
  generalize g / 65536 = g2 at *
  generalize h1 : g / 256 = g1 at *
  have e0 : g = 256 * g1 + g % 256 := by omega
  have e1 : g1 = 256 * g2 + g1 % 256 := by omega
  have e2 : g2 = 256 * g3 + g2 % 256 := by omega
  have e3 : g3 = 256 * g4 + g3 % 256 := by omega
  have e4 : g4 = 256 * g5 + g4 % 256 := by omega
  have e5 : g5 = 256 * g6 + g5 % 256 := by omega
  have e6 : g6 = 256 * g7 + g6 % 256 := by omega
  generalize g % 256 = r0 at *
  generalize g1 % 256 = r1 at *
  generalize g2 % 256 = r2 at *
  generalize g3 % 256 = r3 at *
  generalize g4 % 256 = r4 at *
  generalize g5 % 256 = r5 at *
  generalize g6 % 256 = r6 at *
  rw [Nat.mod_eq_of_lt a7]
  subst e6 e5 e4 e3 e2 e1
  omega
end Plain
theorem info_byte : (Tryd.prog.info? 5).map (fun i => (i.zero, i.size, i.bytes)) = some (some (.int .u8 0), 1, 1) := by kernel_rfl
theorem be8_row (h : Nat) : [Value.int .u8 ((h : Int) / 72057594037927936 % 256), .int .u8 ((h : Int) / 281474976710656 % 256), .int .u8 ((h : Int) / 1099511627776 % 256), .int .u8 ((h : Int) / 4294967296 % 256), .int .u8 ((h : Int) / 16777216 % 256), .int .u8 ((h : Int) / 65536 % 256), .int .u8 ((h : Int) / 256 % 256), .int .u8 ((h : Int) % 256)] = (be8 h).map bV := by
  simp only [be8, List.map_cons, List.map_nil, bV]
  simp
def App64End (w0 : World) (x : Nat) (e : Ending) (w : World) : Prop := ∃ v, e = .returned v ∧ w.ownsRow w0.heap.size 5 1 v (be8 x).length ((be8 x).map bV) ∧ Below w0.heap.size w0 w
set_option maxRecDepth 100000 in
theorem app64_any (x : Nat) (w : World) : Calls Tryd.prog 56 #[.agg #[], .slice none 0 0, .int .u64 (x : Int)] w (App64End w x) := by
  obtain ⟨i0, hi0, hz0, hz1, hz2⟩ := info_parts info_byte
  have B1 := Lib.hid ((Below.refl w.heap.size w).alloc (Nat.le_refl _) (.cells #[] 97))
  have BC := Lib.hid (be8_row x)
  have D2 : Hid (∀ u ∈ (be8 x).map bV, u.oneCell' = true) := by
    intro u hu
    obtain ⟨c, _, rfl⟩ := List.mem_map.1 hu
    rfl
  have D3 : Hid (0 + 8 ≤ maxLen) := by show _ ≤ _; unfold maxLen; omega
  have D4 : Hid ((0 + 8) * 1 ≤ 140737488355328) := by show _ ≤ _; omega
  generalize hc0 : (x : Int) / 72057594037927936 % 256 = c0 at BC
  generalize hc1 : (x : Int) / 281474976710656 % 256 = c1 at BC
  generalize hc2 : (x : Int) / 1099511627776 % 256 = c2 at BC
  generalize hc3 : (x : Int) / 4294967296 % 256 = c3 at BC
  generalize hc4 : (x : Int) / 16777216 % 256 = c4 at BC
  generalize hc5 : (x : Int) / 65536 % 256 = c5 at BC
  generalize hc6 : (x : Int) / 256 % 256 = c6 at BC
  generalize hc7 : (x : Int) % 256 = c7 at BC
  have D1 := Lib.hid (cells_new_at (w.alloc (.cells #[] 97)) (w.heap.size + 1) (by simp) #[.int .u8 c0, .int .u8 c1, .int .u8 c2, .int .u8 c3, .int .u8 c4, .int .u8 c5, .int .u8 c6, .int .u8 c7] 5 ((be8 x).map bV) BC.out.symm)
  have D5 : Hid (w.heap.size ≤ ((w.alloc (.cells #[] 97)).alloc (.cells #[.int .u8 c0, .int .u8 c1, .int .u8 c2, .int .u8 c3, .int .u8 c4, .int .u8 c5, .int .u8 c6, .int .u8 c7] 5)).heap.size) := by show _ ≤ _; simp; omega
  have D6 : Hid (((be8 x).map bV).length = 8 * 1) := rfl
  go_enter Tryd.func56, Tryd.ntmps56
  go_wp2_with (at_builtin; refine wpList_append_own _ rfl _ _ 53 rfl w.heap.size 5 i0 (.int .u8 0) 1 1 Tryd.underlying53 hi0 hz0 hz1 hz2 rfl (by decide) (.slice none 0 0) 0 [] rfl (World.ownsRow_nil _ _ _ _) ⟨w.heap.size + 1, 0, none⟩ 8 8 ((be8 x).map bV) rfl D6.out D1.out D2.out D3.out D4.out D5.out ?_)
  intro v' w2 hown' hgrow _
  have BW := Lib.hid (below_own (Below.alloc B1.out B1.out.size _) hgrow (by simp; omega) (World.ownsRow_nil _ w.heap.size 5 1) (Nat.le_refl _))
  have OW : Hid (w2.ownsRow w.heap.size 5 1 v' (be8 x).length ((be8 x).map bV)) := hown'
  clear hown' hgrow
  go_wp2_with fail
  go_ret
  exact ⟨_, rfl, OW.out, BW.out⟩
end Go.Proofs.YtpfmfigommmjiaaDoor
namespace Go.Proofs.YtpfmfigommmjiaaDoor
open Go.RowKit Plain
def DigEnd (w0 : World) (n : Nat) (e : Ending) (w : World) : Prop := ∃ l, Digs n l ∧ e = .returned (.string (strOf l)) ∧ Below w0.heap.size w0 w
theorem digs_be8 (n : Nat) (h : n < 18446744073709551616) : Digs n (strip (be8 n)) := ⟨strip_dig _ (be8_lt n), strip_length _, by rw [strip_vl, vl_be8 n h]⟩
set_option maxRecDepth 100000 in
theorem digits_any (n : Nat) (hn : n < 18446744073709551616) (w : World) : Calls Tryd.prog 43 #[.int .u64 (n : Int)] w (DigEnd w n) := by
  have HA := Lib.hid fun u => app64_any n u
  have HT := Lib.hid fun u => Tryd.strings_TrimLeft_one (strOf (be8 n)) 0 (by decide) u
  rw [trim_str _ (be8_lt n)] at HT
  have HD := Lib.hid (digs_be8 n hn)
  have HCV : Hid (∀ (u : World) base v, u.ownsRow base 5 1 v (be8 n).length ((be8 n).map bV) → (convert 53 9 v).run Tryd.prog u = .ok (.string (strOf (be8 n))) u) := fun u base v h =>
    run_string_own (P := Tryd.prog) u 53 5 9 Tryd.underlying53 Tryd.underlying5 Tryd.underlying9 (be8_lt n) h
  clear hn
  go_enter Tryd.func43, Tryd.ntmps43
  go_wp2_with fail
  refine (HA.out _).mono ?_
  rintro e w1 ⟨v, rfl, hown, hb1⟩
  have hcv := HCV.out w1 _ v hown
  have HB1 := Lib.hid hb1
  clear hown hb1
  go_wp2_with fail
  refine (HT.out _).mono ?_
  rintro e w2 ⟨rfl, rfl⟩
  go_wp2_with fail
  go_ret
  exact ⟨_, HD.out, rfl, HB1.out⟩
theorem byte_at' (s : ByteArray) (k : Nat) (h : k < s.size) : (s[k]).toNat = (strN s).getD k 0 := by
  rw [← strN_getD, List.getD_eq_getElem?_getD, List.getElem?_eq_getElem (by rw [Array.length_toList]; exact h)]
  rfl
theorem take_snoc_str (s : ByteArray) (k : Nat) (h : k < s.size) : (strN s).take (k + 1) = (strN s).take k ++ [(s[k]'h).toNat] := by
  rw [byte_at' s k h]
  exact take_snoc' _ k (by rw [strN_length]; exact h)
theorem or_byte (v c : Nat) (hv : v < 72057594037927936) (hc : c < 256) : bits .or .u64 (IntKind.u64.wrap ((v : Int) * 256)) (IntKind.u64.wrap (c : Int)) = ((v * 256 + c : Nat) : Int) := by
  have e1 : IntKind.u64.wrap ((v : Int) * 256) = ((v * 256 : Nat) : Int) := by
    show ((v : Int) * 256) % 18446744073709551616 = _
    omega
  have e2 : IntKind.u64.wrap (c : Int) = (c : Int) := by
    show (c : Int) % 18446744073709551616 = _
    omega
  rw [e1, e2]
  have h := bits_or_u64_nat (v * 256) c (by omega) (by omega)
  have h2 := Nat.two_pow_add_eq_or_of_lt (i := 8) (b := c) hc v
  rw [show 2 ^ 8 * v = v * 256 by omega] at h2
  rw [← h2] at h
  exact h
set_option maxRecDepth 100000 in
theorem value_any (s : ByteArray) (w : World) (hs : s.size ≤ 8) : Calls Tryd.prog 54 #[.string s] w fun e w' => e = .returned (.int .u64 ((vl (strN s) : Nat) : Int)) ∧ w' = w := by
  go_enter Tryd.func54, Tryd.ntmps54
  go_wp2_with fail
  go_loop [3, 7] (fun nv iv => ∃ k : Nat, k ≤ s.size ∧ iv = .int .i64 (k : Int) ∧ nv = .int .u64 ((vl ((strN s).take k) : Nat) : Int)) (fun _ iv => s.size - (intOf iv).toNat)
  case atStart => exact ⟨0, Nat.zero_le _, rfl, rfl⟩
  case round =>
    obtain ⟨k, hk, rfl, rfl⟩ := hrel
    by_cases hlt : k < s.size
    · have kk : (k : Int) < (s.size : Int) := by omega
      have k0 : (0 : Int) ≤ (k : Int) := Int.natCast_nonneg _
      have hst := take_snoc_str s k hlt
      have hv : vl ((strN s).take k) < 72057594037927936 := by
        have h1 := vl_lt ((strN s).take k) fun c hc => strN_lt s c (List.mem_of_mem_take hc)
        have h2 : 256 ^ ((strN s).take k).length ≤ 256 ^ 7 := Nat.pow_le_pow_right (by decide) (by rw [List.length_take]; omega)
        exact Nat.lt_of_lt_of_le h1 h2
      have HOR := Lib.hid (or_byte _ (s[k]'hlt).toNat hv (UInt8.toNat_lt _))
      have HV : Hid (vl ((strN s).take (k + 1)) = vl ((strN s).take k) * 256 + (s[k]'hlt).toNat) := by show _ = _; rw [hst, vl_snoc]
      clear hst hv
      go_wp2_with fail
      go_round
      case rel => exact ⟨k + 1, by omega, by go_num, by rw [HOR.out, HV.out]⟩
      case measure => simp [intOf]; omega
    · have m1 : ¬ (k : Int) < (s.size : Int) := by omega
      obtain rfl : k = s.size := by omega
      go_wp2_with fail
      go_ret
      exact ⟨ret_int (by rw [List.take_of_length_le (by rw [strN_length]; exact Nat.le_refl _)]), rfl⟩
theorem conv1 (n : Nat) (h : n < 256) (w : World) : (convert 53 9 (.slice (some ⟨w.heap.size, 0, none⟩) 1 1)).run Tryd.prog (w.alloc (.cells #[.int .u8 (n : Int)] 5)) = .ok (.string (strOf [n])) (w.alloc (.cells #[.int .u8 (n : Int)] 5)) :=
  run_string_of_row (P := Tryd.prog) (w.alloc (.cells #[.int .u8 (n : Int)] 5)) 53 5 9 Tryd.underlying53 Tryd.underlying5 Tryd.underlying9 w.heap.size [n] (BRow.new w 5 [n]) (fun c hc => by simp at hc; omega) 1
theorem str_nil_of' {s : ByteArray} (h : s.size = 0) : s = ⟨#[]⟩ := by
  have h2 : strN s = [] := List.eq_nil_of_length_eq_zero (by rw [strN_length]; exact h)
  rw [← strOf_strN s, h2]
  rfl
theorem isEmpty_false' {s : ByteArray} (h : s.size ≠ 0) : s.toList.isEmpty = false := by
  rw [Lib.toList_data]
  cases hd : s.data.toList with
  | nil => exfalso; apply h; have : s.data.size = 0 := by rw [← Array.length_toList, hd]; rfl
           exact this
  | cons a l => rfl
def PutNEnd (w0 : World) (n : Nat) (e : Ending) (w : World) : Prop := ∃ s : ByteArray, Num n (strN s) ∧ e = .returned (.string s) ∧ Below w0.heap.size w0 w
theorem strOf_append (l m : List Nat) : strOf l ++ strOf m = strOf (l ++ m) := by
  apply strN_inj
  show strN _ = strN _
  have : strN (strOf l ++ strOf m) = strN (strOf l) ++ strN (strOf m) := by simp [strN]
  rw [this]
  simp [strN, strOf]
set_option maxRecDepth 100000 in
theorem put_any (n : Nat) (hn : n < 18446744073709551616) (w : World) : Calls Tryd.prog 26 #[.int .u64 (n : Int)] w (PutNEnd w n) := by
  have HD := Lib.hid fun u => digits_any n hn u
  clear hn
  go_enter Tryd.func26, Tryd.ntmps26
  go_wp2_with fail
  refine (HD.out _).mono ?_
  rintro e w1 ⟨l, hl, rfl, hb1⟩
  have hl8 := hl.2.1
  have hsz : (strOf l).size = l.length := strOf_size l
  have hcv := conv1 l.length (by omega) w1
  have hx : strN (strOf [l.length] ++ strOf l) = l.length :: l := by
    rw [strOf_append, strN_strOf _ (fun c hc => by
      rcases List.mem_cons.1 hc with rfl | hc
      · omega
      · exact hl.1.1 c hc)]
    rfl
  have HN : Hid (Num n (strN (strOf [l.length] ++ strOf l))) := by show Num n _; rw [hx]; exact ⟨l, hl, rfl⟩
  have h63 : (strOf [l.length]).size + (strOf l).size ≤ 9223372036854775807 := by rw [strOf_size, strOf_size]; simp; omega
  have BW := Lib.hid ((Below.alloc hb1 hb1.size (.cells #[.int .u8 (l.length : Int)] 5)))
  clear hl hb1 hx
  go_wp2_with fail
  go_ret
  exact ⟨_, HN.out, rfl, BW.out⟩
def GetEnd (w0 : World) (s : ByteArray) (e : Ending) (w : World) : Prop :=
  e = .returned (.tuple #[.int .u64 (((getN (strN s)).1 : Nat) : Int), .int .i64 (((getN (strN s)).2.1 : Nat) : Int), .int .i64 (((getN (strN s)).2.2 : Nat) : Int)]) ∧ w0 = w
theorem strN_cons (s : ByteArray) (h : 0 < s.size) : strN s = (s[0]'h).toNat :: (strN s).drop 1 := by
  rw [byte_at' s 0 h]
  have : 0 < (strN s).length := by rw [strN_length]; exact h
  cases hs : strN s with
  | nil => rw [hs] at this; simp at this
  | cons a l => rfl
set_option maxRecDepth 100000 in
set_option maxHeartbeats 1000000 in
theorem get_any (s : ByteArray) (w : World) (hs : s.size ≤ 9223372036854775807) : Calls Tryd.prog 39 #[.string s] w (GetEnd w s) := by
  by_cases h0 : s.size = 0
  · have hr := str_nil_of' h0
    subst hr
    clear h0 hs
    go_enter Tryd.func39, Tryd.ntmps39
    go_wp2_with fail
    go_ret3
    exact ⟨rfl, rfl⟩
  · have hp : 0 < s.size := by omega
    have f0 := isEmpty_false' h0
    have hc := strN_cons s hp
    have hxl : ((strN s).drop 1).length = s.size - 1 := by rw [List.length_drop, strN_length]
    obtain ⟨x, hx⟩ : ∃ x, x = (strN s).drop 1 := ⟨_, rfl⟩
    rw [← hx] at hc hxl
    obtain ⟨k, hk⟩ : ∃ k, k = (s[0]'hp).toNat := ⟨_, rfl⟩
    rw [← hk] at hc
    have hpI : (0 : Int) < (s.size : Int) := by omega
    have hkk : (s[0]'hp).toNat = k := hk.symm
    have HC := Lib.hid hc
    have HX := Lib.hid hx
    have hk256 : k < 256 := by rw [hk]; exact UInt8.toNat_lt _
    have k0 : (0 : Int) ≤ (k : Int) := Int.natCast_nonneg _
    clear hk hc hx h0
    by_cases h8 : 8 < k
    · have HG : Hid (getN (strN s) = (0, 0, 4)) := by show _ = _; rw [HC.out, getN, if_pos h8]
      have f1 : decide ((8 : Int) < (k : Int)) = true := decide_eq_true (by omega)
      have f2 : (8 : Int) < (k : Int) := by omega
      go_enter Tryd.func39, Tryd.ntmps39
      go_wp2_with fail
      go_ret3
      exact ⟨by rw [HG.out]; rfl, rfl⟩
    · have f1 : decide ((8 : Int) < (k : Int)) = false := decide_eq_false (by omega)
      have f2 : ¬ (8 : Int) < (k : Int) := by omega
      by_cases hl : s.size < 1 + k
      · have HG : Hid (getN (strN s) = (0, 0, 3)) := by show _ = _; rw [HC.out, getN, if_neg h8, if_pos (by omega)]
        have f3 : decide ((s.size : Int) < 1 + (k : Int)) = true := decide_eq_true (by omega)
        have f4 : (s.size : Int) < 1 + (k : Int) := by omega
        go_enter Tryd.func39, Tryd.ntmps39
        go_wp2_with fail
        go_ret3
        exact ⟨by rw [HG.out]; rfl, rfl⟩
      · have f3 : decide ((s.size : Int) < 1 + (k : Int)) = false := decide_eq_false (by omega)
        have f4 : ¬ (s.size : Int) < 1 + (k : Int) := by omega
        have HV : Hid (∀ u, Calls Tryd.prog 54 #[.string (s.extract 1 (1 + k))] u fun e w' => e = .returned (.int .u64 ((vl (x.take k) : Nat) : Int)) ∧ w' = u) := fun u => by
          have h := value_any (s.extract 1 (1 + k)) u (by rw [ByteArray.size_extract]; omega)
          rw [extract_strN', Nat.add_sub_cancel_left, ← HX.out] at h
          exact h
        have e1 : (1 + (k : Int)).toNat = 1 + k := by omega
        by_cases hk0 : k = 0
        · have HG : Hid (getN (strN s) = (vl (x.take k), 1 + k, 0)) := by
            show _ = _
            rw [HC.out, getN, if_neg h8, if_neg (by omega), if_neg (by omega)]
          have f5 : decide ((0 : Int) < (k : Int)) = false := decide_eq_false (by omega)
          have f6 : ¬ (0 : Int) < (k : Int) := by omega
          have f8 : ¬ 0 < k := by omega
          clear hk0
          go_enter Tryd.func39, Tryd.ntmps39
          go_wp2_with fail
          refine (HV.out _).mono ?_
          rintro e w' ⟨rfl, rfl⟩
          go_wp2_with fail
          go_ret3
          exact ⟨by rw [HG.out]; rfl, rfl⟩
        · have hp1 : 1 < s.size := by omega
          have hpI1 : (1 : Int) < (s.size : Int) := by omega
          have f5 : decide ((0 : Int) < (k : Int)) = true := decide_eq_true (by omega)
          have f6 : (0 : Int) < (k : Int) := by omega
          have hx1 : x.getD 0 0 = (s[1]'hp1).toNat := by
            rw [byte_at' s 1 hp1, HX.out, List.getD_eq_getElem?_getD, List.getElem?_drop, ← List.getD_eq_getElem?_getD]
          obtain ⟨c1, hc1⟩ : ∃ c1, (s[1]'hp1).toNat = c1 := ⟨_, rfl⟩
          rw [hc1] at hx1
          have HX1 := Lib.hid hx1
          clear hx1
          by_cases hz : c1 = 0
          · have f7 : ((c1 : Int) == 0) = true := by simpa using hz
            have HG : Hid (getN (strN s) = (0, 0, 4)) := by
              show _ = _
              rw [HC.out, getN, if_neg h8, if_neg (by omega), if_pos ⟨by omega, by rw [HX1.out]; exact hz⟩]
            clear hz
            go_enter Tryd.func39, Tryd.ntmps39
            go_wp2_with fail
            go_ret3
            exact ⟨by rw [HG.out]; rfl, rfl⟩
          · have f7 : ((c1 : Int) == 0) = false := by simpa using hz
            have HG : Hid (getN (strN s) = (vl (x.take k), 1 + k, 0)) := by
              show _ = _
              rw [HC.out, getN, if_neg h8, if_neg (by omega), if_neg (by rintro ⟨_, h⟩; rw [HX1.out] at h; exact hz h)]
            clear hz
            go_enter Tryd.func39, Tryd.ntmps39
            go_wp2_with fail
            refine (HV.out _).mono ?_
            rintro e w' ⟨rfl, rfl⟩
            go_wp2_with fail
            go_ret3
            exact ⟨by rw [HG.out]; rfl, rfl⟩
end Go.Proofs.YtpfmfigommmjiaaDoor
namespace Go.Proofs.YtpfmfigommmjiaaDoor
open Go.RowKit
theorem byte_at2 (s : ByteArray) (k : Nat) (h : k < s.size) : (s[k]).toNat = (strN s).getD k 0 := by
  rw [← strN_getD, List.getD_eq_getElem?_getD, List.getElem?_eq_getElem (by rw [Array.length_toList]; exact h)]
  rfl
/-- block B begins with the bytes l, which may be written -/
def CRow (w : World) (B : Nat) (l : List Nat) : Prop := ∃ (C : Array Value) (t : TypeId) (lo hi : Nat), w.heap[B]? = some (.cells C t (lo, hi)) ∧ l.length ≤ lo ∧ ∀ j, j < l.length → C[j]? = some (.int .u8 ((l.getD j 0 : Nat) : Int))
theorem CRow.cell {w : World} {B : Nat} {l : List Nat} (h : CRow w B l) {k : Nat} (hk : k < l.length) : w.cell? ⟨B, k, none⟩ = some (.int .u8 ((l.getD k 0 : Nat) : Int)) := by
  obtain ⟨C, t, lo, hi, h1, h2, h3⟩ := h
  simp [World.cell?, h1, h3 k hk]
theorem CRow.frozen {w : World} {B : Nat} {l : List Nat} (h : CRow w B l) {k : Nat} (hk : k < l.length) : w.frozen? ⟨B, k, none⟩ = false := by
  obtain ⟨C, t, lo, hi, h1, h2, h3⟩ := h
  simp only [World.frozen?, h1]
  have : decide (lo ≤ k) = false := decide_eq_false (by omega)
  simp [this]
theorem CRow.lt {w : World} {B : Nat} {l : List Nat} (h : CRow w B l) : B < w.heap.size := by
  obtain ⟨C, t, lo, hi, h1, _⟩ := h
  exact lt_of_block h1
theorem CRow.below {w w' : World} {B : Nat} {l : List Nat} (h : CRow w B l) (hb : Below w.heap.size w w') : CRow w' B l := by
  obtain ⟨C, t, lo, hi, h1, h2, h3⟩ := h
  exact ⟨C, t, lo, hi, (hb.block B (lt_of_block h1)).trans h1, h2, h3⟩
theorem CRow.drew {w : World} {B : Nat} {l : List Nat} (h : CRow w B l) : CRow w.drew B l := h
theorem CRow.bytes {w : World} {B : Nat} {l : List Nat} (h : CRow w B l) (s : ByteArray) (hs : strN s = l) : Lib.Bytes w B 0 s := by
  intro i hi
  subst hs
  have := h.cell (k := i) (by rw [strN_length]; exact hi)
  rw [Nat.zero_add, this, byte_at2]
theorem CRow.set {w : World} {B : Nat} {l : List Nat} (h : CRow w B l) (k v : Nat) : CRow (w.setCell ⟨B, k, none⟩ (.int .u8 (v : Int))) B (l.set k v) := by
  obtain ⟨C, t, lo, hi, h1, h2, h3⟩ := h
  refine ⟨C.setIfInBounds k (.int .u8 (v : Int)), t, lo, hi, ?_, by rw [List.length_set]; exact h2, ?_⟩
  · simp only [World.setCell, Array.getElem?_modify, h1]
    simp
  · intro j hj
    rw [List.length_set] at hj
    rw [Array.getElem?_setIfInBounds]
    have hjc := h3 j hj
    have hjs : j < C.size := by
      rcases Nat.lt_or_ge j C.size with h | h
      · exact h
      · rw [Array.getElem?_eq_none h] at hjc; cases hjc
    by_cases e : k = j
    · subst e
      simp [hjs, List.getD_eq_getElem?_getD, hj]
    · rw [if_neg e, hjc, List.getD_eq_getElem?_getD, List.getD_eq_getElem?_getD, List.getElem?_set_ne e]
theorem crow_bytes (w : World) (e : TypeId) (s : ByteArray) : CRow (Lib.bytesWorld w e s) w.heap.size (strN s) := by
  have h := Lib.bytesWorld_at_new w e s
  have hc := fun j hj => bytesWorld_cellN w e s j hj
  have hcc : ∀ j, j < s.size → (Lib.bytesCells w e s)[j]? = some (.int .u8 (((strN s).getD j 0 : Nat) : Int)) := by
    intro j hj
    have := hc j hj
    simp only [World.cell?, h] at this
    simpa using this
  refine ⟨_, _, _, _, h, ?_, fun j hj => hcc j (by rw [strN_length] at hj; exact hj)⟩
  rw [strN_length]
  rcases Nat.lt_or_ge (Lib.bytesCells w e s).size s.size with hlt | hge
  · have := hcc (Lib.bytesCells w e s).size hlt
    rw [Array.getElem?_eq_none (Nat.le_refl _)] at this
    cases this
  · exact hge
end Go.Proofs.YtpfmfigommmjiaaDoor
