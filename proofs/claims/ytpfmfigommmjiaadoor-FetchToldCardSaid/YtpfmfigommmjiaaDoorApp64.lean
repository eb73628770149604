/- XApp64 where mix.ID is at hand (to be filled as XApp64): binary.BigEndian.AppendUint64. -/
import Derived.Test.YtpfmfigommmjiaaDoorFtA
import Derived.Test.YtpfmfigommmjiaaDoorMixId
import Derived.Test.YtpfmfigommmjiaaDoorNumPlain
import Derived.Test.YtpfmfigommmjiaaDoorRows
namespace Go.Proofs.YtpfmfigommmjiaaDoor
open Go.RowKit Plain
namespace Plain
theorem vl_be8 (g : Nat) (hg : g < 18446744073709551616) : vl (be8 g) = g := by
  have a1 : g / 65536 = g / 256 / 256 := by rw [Nat.div_div_eq_div_mul]
  have a2 : g / 16777216 = g / 65536 / 256 := by rw [Nat.div_div_eq_div_mul]
  have a3 : g / 4294967296 = g / 16777216 / 256 := by rw [Nat.div_div_eq_div_mul]
  have a4 : g / 1099511627776 = g / 4294967296 / 256 := by rw [Nat.div_div_eq_div_mul]
  have a5 : g / 281474976710656 = g / 1099511627776 / 256 := by rw [Nat.div_div_eq_div_mul]
  have a6 : g / 72057594037927936 = g / 281474976710656 / 256 := by rw [Nat.div_div_eq_div_mul]
  have a7 : g / 72057594037927936 < 256 := by omega
  simp only [be8, vl, List.foldl_cons, List.foldl_nil]
  generalize g / 72057594037927936 = g7 at *
  generalize g / 281474976710656 = g6 at *
  generalize g / 1099511627776 = g5 at *
  generalize g / 4294967296 = g4 at *
  generalize g / 16777216 = g3 at *
  generalize g / 65536 = g2 at *
  generalize h1 : g / 256 = g1 at *
  have e0 : g = 256 * g1 + g % 256 := by omega
  have e1 : g1 = 256 * g2 + g1 % 256 := by omega
  have e2 : g2 = 256 * g3 + g2 % 256 := by omega
  have e3 : g3 = 256 * g4 + g3 % 256 := by omega
  have e4 : g4 = 256 * g5 + g4 % 256 := by omega
  have e5 : g5 = 256 * g6 + g5 % 256 := by omega
  have e6 : g6 = 256 * g7 + g6 % 256 := by omega
  generalize g % 256 = r0 at *
  generalize g1 % 256 = r1 at *
  generalize g2 % 256 = r2 at *
  generalize g3 % 256 = r3 at *
  generalize g4 % 256 = r4 at *
  generalize g5 % 256 = r5 at *
  generalize g6 % 256 = r6 at *
  rw [Nat.mod_eq_of_lt a7]
  subst e6 e5 e4 e3 e2 e1
  omega
end Plain
theorem info_byte : (Tryd.prog.info? 5).map (fun i => (i.zero, i.size, i.bytes)) = some (some (.int .u8 0), 1, 1) := by kernel_rfl
theorem be8_row (h : Nat) : [Value.int .u8 ((h : Int) / 72057594037927936 % 256), .int .u8 ((h : Int) / 281474976710656 % 256), .int .u8 ((h : Int) / 1099511627776 % 256), .int .u8 ((h : Int) / 4294967296 % 256), .int .u8 ((h : Int) / 16777216 % 256), .int .u8 ((h : Int) / 65536 % 256), .int .u8 ((h : Int) / 256 % 256), .int .u8 ((h : Int) % 256)] = (be8 h).map bV := by
  simp only [be8, List.map_cons, List.map_nil, bV]
  simp
def App64End (w0 : World) (x : Nat) (e : Ending) (w : World) : Prop := ∃ v, e = .returned v ∧ w.ownsRow w0.heap.size 5 1 v (be8 x).length ((be8 x).map bV) ∧ Below w0.heap.size w0 w
set_option maxRecDepth 100000 in
theorem app64_any (x : Nat) (w : World) : Calls Tryd.prog 56 #[.agg #[], .slice none 0 0, .int .u64 (x : Int)] w (App64End w x) := by
  obtain ⟨i0, hi0, hz0, hz1, hz2⟩ := info_parts info_byte
  have B1 := Lib.hid ((Below.refl w.heap.size w).alloc (Nat.le_refl _) (.cells #[] 97))
  have BC := Lib.hid (be8_row x)
  have D2 : Hid (∀ u ∈ (be8 x).map bV, u.oneCell' = true) := by
    intro u hu
    obtain ⟨c, _, rfl⟩ := List.mem_map.1 hu
    rfl
  have D3 : Hid (0 + 8 ≤ maxLen) := by show _ ≤ _; unfold maxLen; omega
  have D4 : Hid ((0 + 8) * 1 ≤ 140737488355328) := by show _ ≤ _; omega
  generalize hc0 : (x : Int) / 72057594037927936 % 256 = c0 at BC
  generalize hc1 : (x : Int) / 281474976710656 % 256 = c1 at BC
  generalize hc2 : (x : Int) / 1099511627776 % 256 = c2 at BC
  generalize hc3 : (x : Int) / 4294967296 % 256 = c3 at BC
  generalize hc4 : (x : Int) / 16777216 % 256 = c4 at BC
  generalize hc5 : (x : Int) / 65536 % 256 = c5 at BC
  generalize hc6 : (x : Int) / 256 % 256 = c6 at BC
  generalize hc7 : (x : Int) % 256 = c7 at BC
  have D1 := Lib.hid (cells_new_at (w.alloc (.cells #[] 97)) (w.heap.size + 1) (by simp) #[.int .u8 c0, .int .u8 c1, .int .u8 c2, .int .u8 c3, .int .u8 c4, .int .u8 c5, .int .u8 c6, .int .u8 c7] 5 ((be8 x).map bV) BC.out.symm)
  have D5 : Hid (w.heap.size ≤ ((w.alloc (.cells #[] 97)).alloc (.cells #[.int .u8 c0, .int .u8 c1, .int .u8 c2, .int .u8 c3, .int .u8 c4, .int .u8 c5, .int .u8 c6, .int .u8 c7] 5)).heap.size) := by show _ ≤ _; simp; omega
  have D6 : Hid (((be8 x).map bV).length = 8 * 1) := rfl
  go_enter Tryd.func56, Tryd.ntmps56
  go_wp2_with (at_builtin; refine wpList_append_own _ rfl _ _ 53 rfl w.heap.size 5 i0 (.int .u8 0) 1 1 Tryd.underlying53 hi0 hz0 hz1 hz2 rfl (by decide) (.slice none 0 0) 0 [] rfl (World.ownsRow_nil _ _ _ _) ⟨w.heap.size + 1, 0, none⟩ 8 8 ((be8 x).map bV) rfl D6.out D1.out D2.out D3.out D4.out D5.out ?_)
  intro v' w2 hown' hgrow _
  have BW := Lib.hid (below_own (Below.alloc B1.out B1.out.size _) hgrow (by simp; omega) (World.ownsRow_nil _ w.heap.size 5 1) (Nat.le_refl _))
  have OW : Hid (w2.ownsRow w.heap.size 5 1 v' (be8 x).length ((be8 x).map bV)) := hown'
  clear hown' hgrow
  go_wp2_with fail
  go_ret
  exact ⟨_, rfl, OW.out, BW.out⟩
end Go.Proofs.YtpfmfigommmjiaaDoor
