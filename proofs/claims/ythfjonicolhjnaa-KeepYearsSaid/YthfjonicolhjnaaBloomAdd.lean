/- The walk of bloom.Add: four bits are set. -/
import Derived.Test.YthfjonicolhjnaaBloomW
import Derived.Test.YthfjonicolhjnaaWords
import Derived.Test.YthfjonicolhjnaaArrays
import Derived.Test.YthfjonicolhjnaaBloomPlain
namespace Go.Proofs.Ythfjonicolhjnaa
open Go.RowKit Plain
theorem URow.setb {w : World} {e : TypeId} {B : Nat} {l : List Nat} (h : URow w e B l) (k : Nat) : URow (w.setCell ⟨B, k / 64, none⟩ (.int .u64 ((l.getD (k / 64) 0 ||| 2 ^ (k % 64) : Nat) : Int))) e B (setb l k) := h.set _ _
theorem wrap_pow (k : Nat) : IntKind.u64.wrap ((2 : Int) ^ (k % 64)) = ((2 ^ (k % 64) : Nat) : Int) := by
  have h := pow64_lt k
  have e : ((2 : Int) ^ (k % 64)) = ((2 ^ (k % 64) : Nat) : Int) := by simp
  rw [IntKind.wrap_u64, e]
  generalize 2 ^ (k % 64) = m at h
  omega
theorem arr8 (ia : Array Value) (h : ia.size = 8) : #[ia[0]'(by omega), ia[1]'(by omega), ia[2]'(by omega), ia[3]'(by omega), ia[4]'(by omega), ia[5]'(by omega), ia[6]'(by omega), ia[7]'(by omega)] = ia := by
  apply Array.ext
  · simp [h]
  · intro i h1 h2
    match i, h1 with
    | 0, _ => rfl
    | 1, _ => rfl
    | 2, _ => rfl
    | 3, _ => rfl
    | 4, _ => rfl
    | 5, _ => rfl
    | 6, _ => rfl
    | 7, _ => rfl
    | n + 8, _ => omega
theorem zeros16 : #[Value.int IntKind.u64 0, Value.int IntKind.u64 0, Value.int IntKind.u64 0, Value.int IntKind.u64 0, Value.int IntKind.u64 0, Value.int IntKind.u64 0, Value.int IntKind.u64 0, Value.int IntKind.u64 0, Value.int IntKind.u64 0, Value.int IntKind.u64 0, Value.int IntKind.u64 0, Value.int IntKind.u64 0, Value.int IntKind.u64 0, Value.int IntKind.u64 0, Value.int IntKind.u64 0, Value.int IntKind.u64 0] = uC (List.replicate 16 0) := rfl
set_option maxRecDepth 100000 in
set_option maxHeartbeats 1000000 in
theorem add_aux (l : List Nat) (a : List Nat) (p0 p1 p2 p3 : Nat) (w : World) (hl : l.length = 16) (ha : a.length = 8) (h0 : p0 < 1024) (h1 : p1 < 1024) (h2 : p2 < 1024) (h3 : p3 < 1024)
    (hlt : ∀ c ∈ l, c < 18446744073709551616)
    (C : Hid (∀ wx, Calls Try.prog 27 #[.agg (idC a)] wx fun e w' => e = .returned (.agg #[.int .u32 p0, .int .u32 p1, .int .u32 p2, .int .u32 p3]) ∧ Below wx.heap.size wx w')) :
    Calls Try.prog 14 #[.agg (uC l), .agg (idC a)] w fun e w' => e = .returned (.agg (uC (setb (setb (setb (setb l p0) p1) p2) p3))) ∧ Below w.heap.size w w' := by
  have HA := Lib.hid ha
  have hsz : (idC a).size = 8 := by simp [idC, ha]
  have hrow := ((URow.new w 24 l).alloc (.cells (idC a) 27))
  have L0 := Lib.hid hl
  have T0 := Lib.hid hlt
  clear ha hl hlt
  generalize hu : uC l = ul at *
  generalize hi : idC a = ia at *
  have HU := Lib.hid hu
  have HI := Lib.hid hi
  have HR := Lib.hid hrow
  clear hu hi hrow
  go_enter Try.func14, Try.ntmps14
  go_wp2_with fail
  rw [arr8 ia hsz, zeros16]
  refine (C.out _).mono ?_
  rintro e w1 ⟨rfl, hb⟩
  have hB0 : Below w.heap.size w (((w.alloc (Obj.cells ul 24)).alloc (Obj.cells ia 27)).alloc (Obj.cells (uC (List.replicate 16 0)) 24)) := (((Below.refl _ _).alloc (Nat.le_refl _) _).alloc (by simp) _).alloc (by simp; omega) _
  have hr1 : URow w1 24 w.heap.size l := (HR.out.alloc _).below hb
  have hr2 : URow w1 24 (w.heap.size + 2) (List.replicate 16 0) := by
    refine URow.below ?_ hb
    have := URow.new ((w.alloc (Obj.cells ul 24)).alloc (Obj.cells ia 27)) 24 (List.replicate 16 0)
    rw [World.size_alloc, World.size_alloc] at this
    exact this
  have hb1 := Below.step hB0 hb
  have R0 := Lib.hid hr1
  have Q0 := Lib.hid hr2
  have B0 := Lib.hid hb1
  clear hb1 hr1 hr2 hB0 hb HR
  go_wp2
  have i60 : (Try.prog.info? 59).map (·.size) = some 1 := by kernel_rfl
  have x0 := fun wx => run_index_ints (P := Try.prog) wx 60 59 4 .i64 .u32 #[.int .u32 p0, .int .u32 p1, .int .u32 p2, .int .u32 p3] 0 Try.underlying60 Try.underlying59 i60 (by omega) (by omega) rfl
  have x1 := fun wx => run_index_ints (P := Try.prog) wx 60 59 4 .i64 .u32 #[.int .u32 p0, .int .u32 p1, .int .u32 p2, .int .u32 p3] 1 Try.underlying60 Try.underlying59 i60 (by omega) (by omega) rfl
  have x2 := fun wx => run_index_ints (P := Try.prog) wx 60 59 4 .i64 .u32 #[.int .u32 p0, .int .u32 p1, .int .u32 p2, .int .u32 p3] 2 Try.underlying60 Try.underlying59 i60 (by omega) (by omega) rfl
  have x3 := fun wx => run_index_ints (P := Try.prog) wx 60 59 4 .i64 .u32 #[.int .u32 p0, .int .u32 p1, .int .u32 p2, .int .u32 p3] 3 Try.underlying60 Try.underlying59 i60 (by omega) (by omega) rfl
  clear i60
  refine wp_loop_rounds 5 ?_
  rw [rounds_succ]
  have q0 : p0 / 64 < 16 := by omega
  have c0 := R0.out.cell (k := p0 / 64) (by rw [L0.out]; exact q0)
  have f0 := R0.out.frozen (p0 / 64)
  have hx0 := getD_lt64 (l) T0.out (p0 / 64)
  have hm0 := pow64_lt p0
  have e0 := wrap_pow p0
  have o0 := bits_or_u64_nat _ _ hx0 hm0
  have R1 := Lib.hid (R0.out.setb p0)
  have Q1 := Lib.hid (Q0.out.other (a := ⟨w.heap.size, p0 / 64, none⟩) (by show w.heap.size + 2 ≠ w.heap.size; omega) (.int .u64 (((l).getD (p0 / 64) 0 ||| 2 ^ (p0 % 64) : Nat) : Int)))
  have B1 := Lib.hid (B0.out.setCell (p := ⟨w.heap.size, p0 / 64, none⟩) (Nat.le_refl _) (.int .u64 (((l).getD (p0 / 64) 0 ||| 2 ^ (p0 % 64) : Nat) : Int)))
  have L1 : Hid ((setb (l) p0).length = 16) := by rw [setb_length]; exact L0.out
  have T1 := Lib.hid (setb_lt (l) p0 T0.out)
  generalize (l).getD (p0 / 64) 0 = y0 at *
  generalize 2 ^ (p0 % 64) = m0 at *
  generalize hy0 : y0 ||| m0 = z0 at *
  clear hy0
  go_wp2
  generalize World.setCell w1 ⟨w.heap.size, p0 / 64, none⟩ (.int .u64 (z0 : Int)) = w2 at *
  clear c0 f0 e0 o0 hx0 hm0 R0 Q0 B0 q0
  rw [rounds_succ]
  have q1 : p1 / 64 < 16 := by omega
  have c1 := R1.out.cell (k := p1 / 64) (by rw [L1.out]; exact q1)
  have f1 := R1.out.frozen (p1 / 64)
  have hx1 := getD_lt64 (setb (l) p0) T1.out (p1 / 64)
  have hm1 := pow64_lt p1
  have e1 := wrap_pow p1
  have o1 := bits_or_u64_nat _ _ hx1 hm1
  have R2 := Lib.hid (R1.out.setb p1)
  have Q2 := Lib.hid (Q1.out.other (a := ⟨w.heap.size, p1 / 64, none⟩) (by show w.heap.size + 2 ≠ w.heap.size; omega) (.int .u64 (((setb (l) p0).getD (p1 / 64) 0 ||| 2 ^ (p1 % 64) : Nat) : Int)))
  have B2 := Lib.hid (B1.out.setCell (p := ⟨w.heap.size, p1 / 64, none⟩) (Nat.le_refl _) (.int .u64 (((setb (l) p0).getD (p1 / 64) 0 ||| 2 ^ (p1 % 64) : Nat) : Int)))
  have L2 : Hid ((setb (setb (l) p0) p1).length = 16) := by rw [setb_length]; exact L1.out
  have T2 := Lib.hid (setb_lt (setb (l) p0) p1 T1.out)
  generalize (setb (l) p0).getD (p1 / 64) 0 = y1 at *
  generalize 2 ^ (p1 % 64) = m1 at *
  generalize hy1 : y1 ||| m1 = z1 at *
  clear hy1
  go_wp2
  generalize World.setCell w2 ⟨w.heap.size, p1 / 64, none⟩ (.int .u64 (z1 : Int)) = w3 at *
  clear c1 f1 e1 o1 hx1 hm1 R1 Q1 B1 q1
  rw [rounds_succ]
  have q2 : p2 / 64 < 16 := by omega
  have c2 := R2.out.cell (k := p2 / 64) (by rw [L2.out]; exact q2)
  have f2 := R2.out.frozen (p2 / 64)
  have hx2 := getD_lt64 (setb (setb (l) p0) p1) T2.out (p2 / 64)
  have hm2 := pow64_lt p2
  have e2 := wrap_pow p2
  have o2 := bits_or_u64_nat _ _ hx2 hm2
  have R3 := Lib.hid (R2.out.setb p2)
  have Q3 := Lib.hid (Q2.out.other (a := ⟨w.heap.size, p2 / 64, none⟩) (by show w.heap.size + 2 ≠ w.heap.size; omega) (.int .u64 (((setb (setb (l) p0) p1).getD (p2 / 64) 0 ||| 2 ^ (p2 % 64) : Nat) : Int)))
  have B3 := Lib.hid (B2.out.setCell (p := ⟨w.heap.size, p2 / 64, none⟩) (Nat.le_refl _) (.int .u64 (((setb (setb (l) p0) p1).getD (p2 / 64) 0 ||| 2 ^ (p2 % 64) : Nat) : Int)))
  have L3 : Hid ((setb (setb (setb (l) p0) p1) p2).length = 16) := by rw [setb_length]; exact L2.out
  have T3 := Lib.hid (setb_lt (setb (setb (l) p0) p1) p2 T2.out)
  generalize (setb (setb (l) p0) p1).getD (p2 / 64) 0 = y2 at *
  generalize 2 ^ (p2 % 64) = m2 at *
  generalize hy2 : y2 ||| m2 = z2 at *
  clear hy2
  go_wp2
  generalize World.setCell w3 ⟨w.heap.size, p2 / 64, none⟩ (.int .u64 (z2 : Int)) = w4 at *
  clear c2 f2 e2 o2 hx2 hm2 R2 Q2 B2 q2
  rw [rounds_succ]
  have q3 : p3 / 64 < 16 := by omega
  have c3 := R3.out.cell (k := p3 / 64) (by rw [L3.out]; exact q3)
  have f3 := R3.out.frozen (p3 / 64)
  have hx3 := getD_lt64 (setb (setb (setb (l) p0) p1) p2) T3.out (p3 / 64)
  have hm3 := pow64_lt p3
  have e3 := wrap_pow p3
  have o3 := bits_or_u64_nat _ _ hx3 hm3
  have R4 := Lib.hid (R3.out.setb p3)
  have Q4 := Lib.hid (Q3.out.other (a := ⟨w.heap.size, p3 / 64, none⟩) (by show w.heap.size + 2 ≠ w.heap.size; omega) (.int .u64 (((setb (setb (setb (l) p0) p1) p2).getD (p3 / 64) 0 ||| 2 ^ (p3 % 64) : Nat) : Int)))
  have B4 := Lib.hid (B3.out.setCell (p := ⟨w.heap.size, p3 / 64, none⟩) (Nat.le_refl _) (.int .u64 (((setb (setb (setb (l) p0) p1) p2).getD (p3 / 64) 0 ||| 2 ^ (p3 % 64) : Nat) : Int)))
  have L4 : Hid ((setb (setb (setb (setb (l) p0) p1) p2) p3).length = 16) := by rw [setb_length]; exact L3.out
  have T4 := Lib.hid (setb_lt (setb (setb (setb (l) p0) p1) p2) p3 T3.out)
  generalize (setb (setb (setb (l) p0) p1) p2).getD (p3 / 64) 0 = y3 at *
  generalize 2 ^ (p3 % 64) = m3 at *
  generalize hy3 : y3 ||| m3 = z3 at *
  clear hy3
  go_wp2
  generalize World.setCell w4 ⟨w.heap.size, p3 / 64, none⟩ (.int .u64 (z3 : Int)) = w5 at *
  clear c3 f3 e3 o3 hx3 hm3 R3 Q3 B3 q3
  rw [rounds_succ]
  clear x0 x1 x2 x3
  have i24 : (Try.prog.info? 24).map (·.size) = some 16 := by kernel_rfl
  have hS := Q4.out.store _ (show (setb (setb (setb (setb l p0) p1) p2) p3).length = (List.replicate 16 0).length by rw [L4.out]; rfl)
  have s4 : (uC (setb (setb (setb (setb l p0) p1) p2) p3)).size = 16 := by rw [uC_size]; exact L4.out
  have HS := Lib.hid hS
  have HO := Lib.hid (uC_one (setb (setb (setb (setb l p0) p1) p2) p3))
  have HTh : Hid (w5.there (w.heap.size + 2) 0 16) := Q4.out.there
  have HI24 := Lib.hid i24
  clear hS i24
  have R4' : Hid (w5.heap[w.heap.size]? = some (.cells (uC (setb (setb (setb (setb l p0) p1) p2) p3)) 24 (0, 0))) := R4.out
  generalize hV : uC (setb (setb (setb (setb l p0) p1) p2) p3) = V at *
  have HV := Lib.hid hV
  have S4 := Lib.hid s4
  clear hV s4
  go_wp2_with (first | (with_reducible refine wpList_load_row rfl 24 (.tmp 2) rfl w.heap.size rfl 24 V (0, 0) _ R4'.out Try.underlying24 rfl ?_ ?_; (rw [S4.out]; exact HI24.out)) | (with_reducible refine wpList_store_mid rfl 24 (.tmp 4) (.tmp 22) rfl (w.heap.size + 2) 0 V rfl rfl ?_ ?_ HO.out ?_; (rw [S4.out]; exact HTh.out); (rw [S4.out]; exact HI24.out)))
  have hfin : (w5.setCells (w.heap.size + 2) 0 V.toList).heap[w.heap.size + 2]? = some (.cells V 24 (0, 0)) := by rw [← HV.out]; rw [← HV.out] at HS; exact HS.out
  exact bodyPost_ret (v := .agg V) (results_cell_row (p := 4) (ty := 24) rfl _ _ (w.heap.size + 2) 24 V (0, 0) _ rfl hfin Try.underlying24 rfl (by rw [S4.out]; exact HI24.out)) rfl ⟨by rw [HV.out], below_setCells (by omega) _ _ B4.out⟩
end Go.Proofs.Ythfjonicolhjnaa
