/- The walk of bloom.Has: are four bits set? -/
import Derived.Test.YthfjonicolhjnaaBloomAdd
namespace Go.Proofs.Ythfjonicolhjnaa
open Go.RowKit Plain
set_option maxRecDepth 100000 in
set_option maxHeartbeats 1000000 in
theorem has_aux (l : List Nat) (a : List Nat) (p0 p1 p2 p3 : Nat) (w : World) (hl : l.length = 16) (ha : a.length = 8) (h0 : p0 < 1024) (h1 : p1 < 1024) (h2 : p2 < 1024) (h3 : p3 < 1024)
    (hlt : ∀ c ∈ l, c < 18446744073709551616)
    (C : Hid (∀ wx, Calls Try.prog 27 #[.agg (idC a)] wx fun e w' => e = .returned (.agg #[.int .u32 p0, .int .u32 p1, .int .u32 p2, .int .u32 p3]) ∧ Below wx.heap.size wx w')) :
    Calls Try.prog 15 #[.agg (uC l), .agg (idC a)] w fun e w' => e = .returned (.bool (bitb l p0 && bitb l p1 && bitb l p2 && bitb l p3)) ∧ Below w.heap.size w w' := by
  have HA := Lib.hid ha
  have hsz : (idC a).size = 8 := by simp [idC, ha]
  have hrow := ((URow.new w 24 l).alloc (.cells (idC a) 27))
  have L0 := Lib.hid hl
  have T0 := Lib.hid hlt
  clear ha hl hlt
  generalize hu : uC l = ul at *
  generalize hi : idC a = ia at *
  have HU := Lib.hid hu
  have HI := Lib.hid hi
  have HR := Lib.hid hrow
  clear hu hi hrow
  go_enter Try.func15, Try.ntmps15
  go_wp2_with fail
  rw [arr8 ia hsz]
  refine (C.out _).mono ?_
  rintro e w1 ⟨rfl, hb⟩
  have hB0 : Below w.heap.size w ((w.alloc (Obj.cells ul 24)).alloc (Obj.cells ia 27)) := ((Below.refl _ _).alloc (Nat.le_refl _) _).alloc (by simp) _
  have hr1 : URow w1 24 w.heap.size l := HR.out.below hb
  have hb1 := Below.step hB0 hb
  have R0 := Lib.hid hr1
  have B0 := Lib.hid hb1
  clear hb1 hr1 hB0 hb HR
  go_wp2
  have i60 : (Try.prog.info? 59).map (·.size) = some 1 := by kernel_rfl
  have x0 := fun wx => run_index_ints (P := Try.prog) wx 60 59 4 .i64 .u32 #[.int .u32 p0, .int .u32 p1, .int .u32 p2, .int .u32 p3] 0 Try.underlying60 Try.underlying59 i60 (by omega) (by omega) rfl
  have x1 := fun wx => run_index_ints (P := Try.prog) wx 60 59 4 .i64 .u32 #[.int .u32 p0, .int .u32 p1, .int .u32 p2, .int .u32 p3] 1 Try.underlying60 Try.underlying59 i60 (by omega) (by omega) rfl
  have x2 := fun wx => run_index_ints (P := Try.prog) wx 60 59 4 .i64 .u32 #[.int .u32 p0, .int .u32 p1, .int .u32 p2, .int .u32 p3] 2 Try.underlying60 Try.underlying59 i60 (by omega) (by omega) rfl
  have x3 := fun wx => run_index_ints (P := Try.prog) wx 60 59 4 .i64 .u32 #[.int .u32 p0, .int .u32 p1, .int .u32 p2, .int .u32 p3] 3 Try.underlying60 Try.underlying59 i60 (by omega) (by omega) rfl
  clear i60
  have q0 : p0 / 64 < 16 := by omega
  have c0 := R0.out.cell (k := p0 / 64) (by rw [L0.out]; exact q0)
  have e0 := bit_u64 (l.getD (p0 / 64) 0) (p0 % 64) (getD_lt64 l T0.out _)
  have b0 : bitb l p0 = (l.getD (p0 / 64) 0).testBit (p0 % 64) := rfl
  rw [← b0] at e0
  clear b0
  generalize l.getD (p0 / 64) 0 = y0 at *
  have q1 : p1 / 64 < 16 := by omega
  have c1 := R0.out.cell (k := p1 / 64) (by rw [L0.out]; exact q1)
  have e1 := bit_u64 (l.getD (p1 / 64) 0) (p1 % 64) (getD_lt64 l T0.out _)
  have b1 : bitb l p1 = (l.getD (p1 / 64) 0).testBit (p1 % 64) := rfl
  rw [← b1] at e1
  clear b1
  generalize l.getD (p1 / 64) 0 = y1 at *
  have q2 : p2 / 64 < 16 := by omega
  have c2 := R0.out.cell (k := p2 / 64) (by rw [L0.out]; exact q2)
  have e2 := bit_u64 (l.getD (p2 / 64) 0) (p2 % 64) (getD_lt64 l T0.out _)
  have b2 : bitb l p2 = (l.getD (p2 / 64) 0).testBit (p2 % 64) := rfl
  rw [← b2] at e2
  clear b2
  generalize l.getD (p2 / 64) 0 = y2 at *
  have q3 : p3 / 64 < 16 := by omega
  have c3 := R0.out.cell (k := p3 / 64) (by rw [L0.out]; exact q3)
  have e3 := bit_u64 (l.getD (p3 / 64) 0) (p3 % 64) (getD_lt64 l T0.out _)
  have b3 : bitb l p3 = (l.getD (p3 / 64) 0).testBit (p3 % 64) := rfl
  rw [← b3] at e3
  clear b3
  generalize l.getD (p3 / 64) 0 = y3 at *
  refine wp_loop_rounds 5 ?_
  rw [rounds_succ]
  cases g0 : bitb l p0
  · rw [g0] at e0
    simp only [cond_false] at e0
    have G0 := Lib.hid g0
    clear g0
    go_wp2
    go_ret
    exact ⟨ret_bool (by simp [G0.out]), B0.out⟩
  rw [g0] at e0
  simp only [cond_true] at e0
  have G0 := Lib.hid g0
  clear g0
  go_wp2
  rw [rounds_succ]
  cases g1 : bitb l p1
  · rw [g1] at e1
    simp only [cond_false] at e1
    have G1 := Lib.hid g1
    clear g1
    go_wp2
    go_ret
    exact ⟨ret_bool (by simp [G0.out, G1.out]), B0.out⟩
  rw [g1] at e1
  simp only [cond_true] at e1
  have G1 := Lib.hid g1
  clear g1
  go_wp2
  rw [rounds_succ]
  cases g2 : bitb l p2
  · rw [g2] at e2
    simp only [cond_false] at e2
    have G2 := Lib.hid g2
    clear g2
    go_wp2
    go_ret
    exact ⟨ret_bool (by simp [G0.out, G1.out, G2.out]), B0.out⟩
  rw [g2] at e2
  simp only [cond_true] at e2
  have G2 := Lib.hid g2
  clear g2
  go_wp2
  rw [rounds_succ]
  cases g3 : bitb l p3
  · rw [g3] at e3
    simp only [cond_false] at e3
    have G3 := Lib.hid g3
    clear g3
    go_wp2
    go_ret
    exact ⟨ret_bool (by simp [G0.out, G1.out, G2.out, G3.out]), B0.out⟩
  rw [g3] at e3
  simp only [cond_true] at e3
  have G3 := Lib.hid g3
  clear g3
  go_wp2
  rw [rounds_succ]
  go_wp2
  go_ret
  exact ⟨ret_bool (by simp [G0.out, G1.out, G2.out, G3.out]), B0.out⟩
end Go.Proofs.Ythfjonicolhjnaa
