/- Joined: StaysBl, StaysId. -/
import Derived.Test.YtbfoonfbhebhfaaGreatDoorKGpJ
import Derived.Test.YtbfoonfbhebhfaaGreatDoorKGpH
namespace Go.Proofs.YtbfoonfbhebhfaaGreatDoor
open Go.RowKit Plain
set_option linter.unusedVariables false
set_option linter.unusedSimpArgs false
set_option maxRecDepth 100000 in
set_option maxHeartbeats 4000000 in
theorem staysBl_any (g : Nat) (b : Option Addr) (cb : Nat) (l : List Bl) (w : World) (h : Amp blC (blC ((0, ⟨#[]⟩) : Bl)) 37 w g l k7P) (hb : SAt 2 blC w b l) (hl : l.length ≤ 5864062014634) :
  Calls Tryz.prog 43 #[.slice (some ⟨g, 0, none⟩) l.length (l.length + 3), .slice b l.length cb, .agg #[.int .i64 7, .string ⟨#[]⟩]] w fun e w' => e = .returned (.bool true) ∧ Below w.heap.size w w' := by
 have HE : Hid (∀ u, Below w.heap.size w u → Calls Tryz.prog 47 #[.slice (some ⟨g, 0, none⟩) l.length (l.length + 3), .slice b l.length cb] u fun e w' => e = .returned (.bool true) ∧ Below u.heap.size u w') := by
  intro u hu
  refine (eqBls_any (some ⟨g, 0, none⟩) b (l.length + 3) cb l l u ((h.below hu).sat blC_length) (hb.below hu) (by omega) (by omega)).mono ?_
  rintro e w' ⟨⟨r, rfl, hr⟩, hb⟩
  obtain rfl : r = true := hr.2 rfl
  exact ⟨rfl, hb⟩
 have HF0 : Hid (∀ u, Below w.heap.size w u → u.rangeAt g (l.length * 2) [.int .i64 7, .string ⟨#[]⟩]) := fun u hu j v hv => by
  have hj : j < 2 := by
   rcases Nat.lt_or_ge j 2 with h | h
   ·
    exact h
   ·
    rw [List.getElem?_eq_none (by simpa using h)] at hv; cases hv
  exact ((h.below hu).fill blC_length 0 j (by decide) hj).trans hv
 have HF1 : Hid (∀ u, Below w.heap.size w u → u.rangeAt g ((l.length + 1) * 2) [.int .i64 7, .string ⟨#[]⟩]) := fun u hu j v hv => by
  have hj : j < 2 := by
   rcases Nat.lt_or_ge j 2 with h | h
   ·
    exact h
   ·
    rw [List.getElem?_eq_none (by simpa using h)] at hv; cases hv
  exact ((h.below hu).fill blC_length 1 j (by decide) hj).trans hv
 have E2 : Hid (∀ wx, (binOp .eql 37 (.agg #[.int .i64 7, .string ⟨#[]⟩]) (.agg #[.int .i64 7, .string ⟨#[]⟩])).run Tryz.prog wx = .ok (.bool true) wx) := (eqBl k7P k7P true (decide_eq_true_iff.2 rfl)).1
 have E3 : Hid (∀ (o : BinOp) (x y : Operand) (wx : World), (eqGuard o 37 x y (.agg #[.int .i64 7, .string ⟨#[]⟩]) (.agg #[.int .i64 7, .string ⟨#[]⟩])).run Tryz.prog wx = .ok () wx) := (eqBl k7P k7P true (decide_eq_true_iff.2 rfl)).2.2
 have HUT := Lib.hid Tryz.underlying37
 have HICT : Hid ((Tryz.prog.info? 37).map (·.size) = some 2) := by show _ = _; kernel_rfl
 have HB0 := Lib.hid ((Below.refl w.heap.size w).alloc (Nat.le_refl _) (.cells #[.int .i64 7, .string ⟨#[]⟩] 37))
 have HX0 := Lib.hid (heap_alloc_new w (.cells #[.int .i64 7, .string ⟨#[]⟩] 37))
 have e2 : IntKind.i64.wrap ((l.length : Int) + 2) = (l.length : Int) + 2 := wraps_i64 _ (by omega) (by omega)
 have e1 : IntKind.i64.wrap ((l.length : Int) + 1) = (l.length : Int) + 1 := wraps_i64 _ (by omega) (by omega)
 have k1 : (0 : Int) ≤ (l.length : Int) + 2 := by omega
 have k2 : (l.length : Int) + 2 ≤ (l.length : Int) + 3 := by omega
 have k3 : (0 : Int) ≤ (l.length : Int) := Int.natCast_nonneg _
 have k4 : (l.length : Int) < (l.length : Int) + 2 := by omega
 have k5 : ¬ ((l.length : Int) + 1 < 0) := by omega
 have k6 : (l.length : Int) + 1 < (l.length : Int) + 2 := by omega
 have t2 : ((l.length : Int) + 2).toNat = l.length + 2 := by omega
 have t1 : ((l.length : Int) + 1).toNat = l.length + 1 := by omega
 clear h hb
 go_enter Tryz.func43, Tryz.ntmps43
 go_wp2_with fail
 refine wp_region_noPanic ?_
 refine wp_region_held_drew (S := fun u => u.heap[w.heap.size]? = some (.cells #[.int .i64 7, .string ⟨#[]⟩] 37 (0, 0)) ∧ Below w.heap.size w u) (by kernel_rfl) ⟨HX0.out, HB0.out.drew⟩ (fun hS0 => ?_)
 have HS0 := Lib.hid hS0
 clear hS0
 refine take_val 0 (.slice (some ⟨g, 0, none⟩) l.length (l.length + 3)) rfl (by kernel_rfl) (by kernel_rfl) (by kernel_rfl) (fun _ _ _ _ h => h) (by rfl) rfl (fun wz hS => by go_simp) HS0.out ?_
 try simp only [List.set_cons_zero, List.set_cons_succ]
 refine take_val 1 (.slice b l.length cb) rfl (by kernel_rfl) (by kernel_rfl) (by kernel_rfl) (fun _ _ _ _ h => h) (by rfl) rfl (fun wz hS => by go_simp) HS0.out ?_
 try simp only [List.set_cons_zero, List.set_cons_succ]
 refine take_call 2 (.bool true) (by kernel_rfl) rfl (by rfl) rfl (by go_simp) ((HE.out _ HS0.out.2).mono (fun e w' ⟨he, hb⟩ => ⟨he, (hb.block _ (lt_of_block HS0.out.1)).trans HS0.out.1, Below.step HS0.out.2 hb⟩)) ?_
 clear HS0
 intro u2 hS2
 have HS0 := Lib.hid hS2
 clear hS2
 try simp only [List.set_cons_zero, List.set_cons_succ]
 refine take_val 3 (.bool true) rfl (by kernel_rfl) (by kernel_rfl) (by kernel_rfl) (fun _ _ _ _ h => h) (by rfl) rfl (fun wz hS => by go_simp) HS0.out ?_
 try simp only [List.set_cons_zero, List.set_cons_succ]
 refine take_val 4 (.slice (some ⟨g, 0, none⟩) (l.length + 2) (l.length + 3)) rfl (by kernel_rfl) (by kernel_rfl) (by kernel_rfl) (fun _ _ _ _ h => h) (by rfl) rfl (fun wz hS => by go_simp) HS0.out ?_
 try simp only [List.set_cons_zero, List.set_cons_succ]
 refine take_val 5 (.slice (some ⟨g, 0, none⟩) l.length (l.length + 3)) rfl (by kernel_rfl) (by kernel_rfl) (by kernel_rfl) (fun _ _ _ _ h => h) (by rfl) rfl (fun wz hS => by go_simp) HS0.out ?_
 try simp only [List.set_cons_zero, List.set_cons_succ]
 refine take_val 6 (.int .i64 (l.length : Int)) rfl (by kernel_rfl) (by kernel_rfl) (by kernel_rfl) (fun _ _ _ _ h => h) (by rfl) rfl (fun wz hS => by go_simp) HS0.out ?_
 try simp only [List.set_cons_zero, List.set_cons_succ]
 refine take_val 7 (.pointer (some ⟨g, l.length * 2, none⟩)) rfl (by kernel_rfl) (by kernel_rfl) (by kernel_rfl) (fun _ _ _ _ h => h) (by rfl) rfl (fun wz hS => by go_simp) HS0.out ?_
 try simp only [List.set_cons_zero, List.set_cons_succ]
 refine take_row 8 (cs := [.int .i64 7, .string ⟨#[]⟩]) rfl (by kernel_rfl) (by kernel_rfl) (by kernel_rfl) (fun _ _ _ _ h => h) (by rfl) rfl rfl rfl (fun u hS => HF0.out u hS.2) HUT.out rfl HICT.out HS0.out ?_
 try simp only [List.set_cons_zero, List.set_cons_succ]
 refine take_row 9 (cs := [.int .i64 7, .string ⟨#[]⟩]) rfl (by kernel_rfl) (by kernel_rfl) (by kernel_rfl) (fun _ _ _ _ h => h) (by rfl) rfl rfl rfl (fun u hS => row_rangeA hS.1) HUT.out rfl HICT.out HS0.out ?_
 try simp only [List.set_cons_zero, List.set_cons_succ]
 refine take_val 10 (.bool true) rfl (by kernel_rfl) (by kernel_rfl) (by kernel_rfl) (fun _ _ _ _ h => h) (by rfl) rfl (fun wz hS => by exact val_binBl rfl rfl rfl (E2.out wz) (E3.out _ _ _ wz)) HS0.out ?_
 try simp only [List.set_cons_zero, List.set_cons_succ]
 refine take_val 11 (.bool true) rfl (by kernel_rfl) (by kernel_rfl) (by kernel_rfl) (fun _ _ _ _ h => h) (by rfl) rfl (fun wz hS => by go_simp) HS0.out ?_
 try simp only [List.set_cons_zero, List.set_cons_succ]
 refine take_val 12 (.bool true) rfl (by kernel_rfl) (by kernel_rfl) (by kernel_rfl) (fun _ _ _ _ h => h) (by rfl) rfl (fun wz hS => by go_simp) HS0.out ?_
 try simp only [List.set_cons_zero, List.set_cons_succ]
 refine take_val 13 (.slice (some ⟨g, 0, none⟩) (l.length + 2) (l.length + 3)) rfl (by kernel_rfl) (by kernel_rfl) (by kernel_rfl) (fun _ _ _ _ h => h) (by rfl) rfl (fun wz hS => by go_simp) HS0.out ?_
 try simp only [List.set_cons_zero, List.set_cons_succ]
 refine take_val 14 (.slice (some ⟨g, 0, none⟩) l.length (l.length + 3)) rfl (by kernel_rfl) (by kernel_rfl) (by kernel_rfl) (fun _ _ _ _ h => h) (by rfl) rfl (fun wz hS => by go_simp) HS0.out ?_
 try simp only [List.set_cons_zero, List.set_cons_succ]
 refine take_val 15 (.int .i64 (l.length : Int)) rfl (by kernel_rfl) (by kernel_rfl) (by kernel_rfl) (fun _ _ _ _ h => h) (by rfl) rfl (fun wz hS => by go_simp) HS0.out ?_
 try simp only [List.set_cons_zero, List.set_cons_succ]
 refine take_val 16 (.int .i64 ((l.length : Int) + 1)) rfl (by kernel_rfl) (by kernel_rfl) (by kernel_rfl) (fun _ _ _ _ h => h) (by rfl) rfl (fun wz hS => by go_simp) HS0.out ?_
 try simp only [List.set_cons_zero, List.set_cons_succ]
 refine take_val 17 (.pointer (some ⟨g, (l.length + 1) * 2, none⟩)) rfl (by kernel_rfl) (by kernel_rfl) (by kernel_rfl) (fun _ _ _ _ h => h) (by rfl) rfl (fun wz hS => by go_simp) HS0.out ?_
 try simp only [List.set_cons_zero, List.set_cons_succ]
 refine take_row 18 (cs := [.int .i64 7, .string ⟨#[]⟩]) rfl (by kernel_rfl) (by kernel_rfl) (by kernel_rfl) (fun _ _ _ _ h => h) (by rfl) rfl rfl rfl (fun u hS => HF1.out u hS.2) HUT.out rfl HICT.out HS0.out ?_
 try simp only [List.set_cons_zero, List.set_cons_succ]
 refine take_row 19 (cs := [.int .i64 7, .string ⟨#[]⟩]) rfl (by kernel_rfl) (by kernel_rfl) (by kernel_rfl) (fun _ _ _ _ h => h) (by rfl) rfl rfl rfl (fun u hS => row_rangeA hS.1) HUT.out rfl HICT.out HS0.out ?_
 try simp only [List.set_cons_zero, List.set_cons_succ]
 refine take_val 20 (.bool true) rfl (by kernel_rfl) (by kernel_rfl) (by kernel_rfl) (fun _ _ _ _ h => h) (by rfl) rfl (fun wz hS => by exact val_binBl rfl rfl rfl (E2.out wz) (E3.out _ _ _ wz)) HS0.out ?_
 try simp only [List.set_cons_zero, List.set_cons_succ]
 refine take_val 21 (.bool true) rfl (by kernel_rfl) (by kernel_rfl) (by kernel_rfl) (fun _ _ _ _ h => h) (by rfl) rfl (fun wz hS => by go_simp) HS0.out ?_
 try simp only [List.set_cons_zero, List.set_cons_succ]
 refine take_val 22 (.bool true) rfl (by kernel_rfl) (by kernel_rfl) (by kernel_rfl) (fun _ _ _ _ h => h) (by rfl) rfl (fun wz hS => by go_simp) HS0.out ?_
 try simp only [List.set_cons_zero, List.set_cons_succ]
 refine wpAnyH_done (by kernel_rfl) ?_ _
 refine NoPanic.normal ?_
 have HF := Lib.hid HS0.out.2
 clear HS0
 go_wp2_with fail
 go_ret
 exact ⟨rfl, HF.out⟩
end Go.Proofs.YtbfoonfbhebhfaaGreatDoor
namespace Go.Proofs.YtbfoonfbhebhfaaGreatDoor
open Go.RowKit Plain
set_option linter.unusedVariables false
set_option linter.unusedSimpArgs false
set_option maxRecDepth 100000 in
set_option maxHeartbeats 4000000 in
theorem staysId_any (g : Nat) (b : Option Addr) (cb : Nat) (l : List ID8) (w : World) (h : Amp idC (idC ((0, 0, 0, 0, 0, 0, 0, 0) : ID8)) 30 w g l i7P) (hb : SAt 8 idC w b l) (hl : l.length ≤ 17592186043904) :
  Calls Tryz.prog 44 #[.slice (some ⟨g, 0, none⟩) l.length (l.length + 3), .slice b l.length cb, .agg #[.int .u8 7, .int .u8 0, .int .u8 0, .int .u8 0, .int .u8 0, .int .u8 0, .int .u8 0, .int .u8 0]] w fun e w' => e = .returned (.bool true) ∧ Below w.heap.size w w' := by
 have HE : Hid (∀ u, Below w.heap.size w u → Calls Tryz.prog 76 #[.slice (some ⟨g, 0, none⟩) l.length (l.length + 3), .slice b l.length cb] u fun e w' => e = .returned (.bool true) ∧ Below u.heap.size u w') := by
  intro u hu
  refine (eqIds_any (some ⟨g, 0, none⟩) b (l.length + 3) cb l l u ((h.below hu).sat idC_length) (hb.below hu) (by omega) (by omega)).mono ?_
  rintro e w' ⟨⟨r, rfl, hr⟩, hb⟩
  obtain rfl : r = true := hr.2 rfl
  exact ⟨rfl, hb⟩
 have HF0 : Hid (∀ u, Below w.heap.size w u → u.rangeAt g (l.length * 8) [.int .u8 7, .int .u8 0, .int .u8 0, .int .u8 0, .int .u8 0, .int .u8 0, .int .u8 0, .int .u8 0]) := fun u hu j v hv => by
  have hj : j < 8 := by
   rcases Nat.lt_or_ge j 8 with h | h
   ·
    exact h
   ·
    rw [List.getElem?_eq_none (by simpa using h)] at hv; cases hv
  exact ((h.below hu).fill idC_length 0 j (by decide) hj).trans hv
 have HF1 : Hid (∀ u, Below w.heap.size w u → u.rangeAt g ((l.length + 1) * 8) [.int .u8 7, .int .u8 0, .int .u8 0, .int .u8 0, .int .u8 0, .int .u8 0, .int .u8 0, .int .u8 0]) := fun u hu j v hv => by
  have hj : j < 8 := by
   rcases Nat.lt_or_ge j 8 with h | h
   ·
    exact h
   ·
    rw [List.getElem?_eq_none (by simpa using h)] at hv; cases hv
  exact ((h.below hu).fill idC_length 1 j (by decide) hj).trans hv
 have E2 : Hid (∀ wx, (binOp .eql 30 (.agg #[.int .u8 7, .int .u8 0, .int .u8 0, .int .u8 0, .int .u8 0, .int .u8 0, .int .u8 0, .int .u8 0]) (.agg #[.int .u8 7, .int .u8 0, .int .u8 0, .int .u8 0, .int .u8 0, .int .u8 0, .int .u8 0, .int .u8 0])).run Tryz.prog wx = .ok (.bool true) wx) := (eqId8 i7P i7P true (decide_eq_true_iff.2 rfl)).1
 have E3 : Hid (∀ (o : BinOp) (x y : Operand) (wx : World), (eqGuard o 30 x y (.agg #[.int .u8 7, .int .u8 0, .int .u8 0, .int .u8 0, .int .u8 0, .int .u8 0, .int .u8 0, .int .u8 0]) (.agg #[.int .u8 7, .int .u8 0, .int .u8 0, .int .u8 0, .int .u8 0, .int .u8 0, .int .u8 0, .int .u8 0])).run Tryz.prog wx = .ok () wx) := (eqId8 i7P i7P true (decide_eq_true_iff.2 rfl)).2.2
 have HUT := Lib.hid Tryz.underlying30
 have HICT : Hid ((Tryz.prog.info? 30).map (·.size) = some 8) := by show _ = _; kernel_rfl
 have HB0 := Lib.hid ((Below.refl w.heap.size w).alloc (Nat.le_refl _) (.cells #[.int .u8 7, .int .u8 0, .int .u8 0, .int .u8 0, .int .u8 0, .int .u8 0, .int .u8 0, .int .u8 0] 30))
 have HX0 := Lib.hid (heap_alloc_new w (.cells #[.int .u8 7, .int .u8 0, .int .u8 0, .int .u8 0, .int .u8 0, .int .u8 0, .int .u8 0, .int .u8 0] 30))
 have e2 : IntKind.i64.wrap ((l.length : Int) + 2) = (l.length : Int) + 2 := wraps_i64 _ (by omega) (by omega)
 have e1 : IntKind.i64.wrap ((l.length : Int) + 1) = (l.length : Int) + 1 := wraps_i64 _ (by omega) (by omega)
 have k1 : (0 : Int) ≤ (l.length : Int) + 2 := by omega
 have k2 : (l.length : Int) + 2 ≤ (l.length : Int) + 3 := by omega
 have k3 : (0 : Int) ≤ (l.length : Int) := Int.natCast_nonneg _
 have k4 : (l.length : Int) < (l.length : Int) + 2 := by omega
 have k5 : ¬ ((l.length : Int) + 1 < 0) := by omega
 have k6 : (l.length : Int) + 1 < (l.length : Int) + 2 := by omega
 have t2 : ((l.length : Int) + 2).toNat = l.length + 2 := by omega
 have t1 : ((l.length : Int) + 1).toNat = l.length + 1 := by omega
 clear h hb
 go_enter Tryz.func44, Tryz.ntmps44
 go_wp2_with fail
 refine wp_region_noPanic ?_
 refine wp_region_held_drew (S := fun u => u.heap[w.heap.size]? = some (.cells #[.int .u8 7, .int .u8 0, .int .u8 0, .int .u8 0, .int .u8 0, .int .u8 0, .int .u8 0, .int .u8 0] 30 (0, 0)) ∧ Below w.heap.size w u) (by kernel_rfl) ⟨HX0.out, HB0.out.drew⟩ (fun hS0 => ?_)
 have HS0 := Lib.hid hS0
 clear hS0
 refine take_val 0 (.slice (some ⟨g, 0, none⟩) l.length (l.length + 3)) rfl (by kernel_rfl) (by kernel_rfl) (by kernel_rfl) (fun _ _ _ _ h => h) (by rfl) rfl (fun wz hS => by go_simp) HS0.out ?_
 try simp only [List.set_cons_zero, List.set_cons_succ]
 refine take_val 1 (.slice b l.length cb) rfl (by kernel_rfl) (by kernel_rfl) (by kernel_rfl) (fun _ _ _ _ h => h) (by rfl) rfl (fun wz hS => by go_simp) HS0.out ?_
 try simp only [List.set_cons_zero, List.set_cons_succ]
 refine take_call 2 (.bool true) (by kernel_rfl) rfl (by rfl) rfl (by go_simp) ((HE.out _ HS0.out.2).mono (fun e w' ⟨he, hb⟩ => ⟨he, (hb.block _ (lt_of_block HS0.out.1)).trans HS0.out.1, Below.step HS0.out.2 hb⟩)) ?_
 clear HS0
 intro u2 hS2
 have HS0 := Lib.hid hS2
 clear hS2
 try simp only [List.set_cons_zero, List.set_cons_succ]
 refine take_val 3 (.bool true) rfl (by kernel_rfl) (by kernel_rfl) (by kernel_rfl) (fun _ _ _ _ h => h) (by rfl) rfl (fun wz hS => by go_simp) HS0.out ?_
 try simp only [List.set_cons_zero, List.set_cons_succ]
 refine take_val 4 (.slice (some ⟨g, 0, none⟩) (l.length + 2) (l.length + 3)) rfl (by kernel_rfl) (by kernel_rfl) (by kernel_rfl) (fun _ _ _ _ h => h) (by rfl) rfl (fun wz hS => by go_simp) HS0.out ?_
 try simp only [List.set_cons_zero, List.set_cons_succ]
 refine take_val 5 (.slice (some ⟨g, 0, none⟩) l.length (l.length + 3)) rfl (by kernel_rfl) (by kernel_rfl) (by kernel_rfl) (fun _ _ _ _ h => h) (by rfl) rfl (fun wz hS => by go_simp) HS0.out ?_
 try simp only [List.set_cons_zero, List.set_cons_succ]
 refine take_val 6 (.int .i64 (l.length : Int)) rfl (by kernel_rfl) (by kernel_rfl) (by kernel_rfl) (fun _ _ _ _ h => h) (by rfl) rfl (fun wz hS => by go_simp) HS0.out ?_
 try simp only [List.set_cons_zero, List.set_cons_succ]
 refine take_val 7 (.pointer (some ⟨g, l.length * 8, none⟩)) rfl (by kernel_rfl) (by kernel_rfl) (by kernel_rfl) (fun _ _ _ _ h => h) (by rfl) rfl (fun wz hS => by go_simp) HS0.out ?_
 try simp only [List.set_cons_zero, List.set_cons_succ]
 refine take_row 8 (cs := [.int .u8 7, .int .u8 0, .int .u8 0, .int .u8 0, .int .u8 0, .int .u8 0, .int .u8 0, .int .u8 0]) rfl (by kernel_rfl) (by kernel_rfl) (by kernel_rfl) (fun _ _ _ _ h => h) (by rfl) rfl rfl rfl (fun u hS => HF0.out u hS.2) HUT.out rfl HICT.out HS0.out ?_
 try simp only [List.set_cons_zero, List.set_cons_succ]
 refine take_row 9 (cs := [.int .u8 7, .int .u8 0, .int .u8 0, .int .u8 0, .int .u8 0, .int .u8 0, .int .u8 0, .int .u8 0]) rfl (by kernel_rfl) (by kernel_rfl) (by kernel_rfl) (fun _ _ _ _ h => h) (by rfl) rfl rfl rfl (fun u hS => row_rangeA hS.1) HUT.out rfl HICT.out HS0.out ?_
 try simp only [List.set_cons_zero, List.set_cons_succ]
 refine take_val 10 (.bool true) rfl (by kernel_rfl) (by kernel_rfl) (by kernel_rfl) (fun _ _ _ _ h => h) (by rfl) rfl (fun wz hS => by exact val_binI rfl rfl rfl (E2.out wz) (E3.out _ _ _ wz)) HS0.out ?_
 try simp only [List.set_cons_zero, List.set_cons_succ]
 refine take_val 11 (.bool true) rfl (by kernel_rfl) (by kernel_rfl) (by kernel_rfl) (fun _ _ _ _ h => h) (by rfl) rfl (fun wz hS => by go_simp) HS0.out ?_
 try simp only [List.set_cons_zero, List.set_cons_succ]
 refine take_val 12 (.bool true) rfl (by kernel_rfl) (by kernel_rfl) (by kernel_rfl) (fun _ _ _ _ h => h) (by rfl) rfl (fun wz hS => by go_simp) HS0.out ?_
 try simp only [List.set_cons_zero, List.set_cons_succ]
 refine take_val 13 (.slice (some ⟨g, 0, none⟩) (l.length + 2) (l.length + 3)) rfl (by kernel_rfl) (by kernel_rfl) (by kernel_rfl) (fun _ _ _ _ h => h) (by rfl) rfl (fun wz hS => by go_simp) HS0.out ?_
 try simp only [List.set_cons_zero, List.set_cons_succ]
 refine take_val 14 (.slice (some ⟨g, 0, none⟩) l.length (l.length + 3)) rfl (by kernel_rfl) (by kernel_rfl) (by kernel_rfl) (fun _ _ _ _ h => h) (by rfl) rfl (fun wz hS => by go_simp) HS0.out ?_
 try simp only [List.set_cons_zero, List.set_cons_succ]
 refine take_val 15 (.int .i64 (l.length : Int)) rfl (by kernel_rfl) (by kernel_rfl) (by kernel_rfl) (fun _ _ _ _ h => h) (by rfl) rfl (fun wz hS => by go_simp) HS0.out ?_
 try simp only [List.set_cons_zero, List.set_cons_succ]
 refine take_val 16 (.int .i64 ((l.length : Int) + 1)) rfl (by kernel_rfl) (by kernel_rfl) (by kernel_rfl) (fun _ _ _ _ h => h) (by rfl) rfl (fun wz hS => by go_simp) HS0.out ?_
 try simp only [List.set_cons_zero, List.set_cons_succ]
 refine take_val 17 (.pointer (some ⟨g, (l.length + 1) * 8, none⟩)) rfl (by kernel_rfl) (by kernel_rfl) (by kernel_rfl) (fun _ _ _ _ h => h) (by rfl) rfl (fun wz hS => by go_simp) HS0.out ?_
 try simp only [List.set_cons_zero, List.set_cons_succ]
 refine take_row 18 (cs := [.int .u8 7, .int .u8 0, .int .u8 0, .int .u8 0, .int .u8 0, .int .u8 0, .int .u8 0, .int .u8 0]) rfl (by kernel_rfl) (by kernel_rfl) (by kernel_rfl) (fun _ _ _ _ h => h) (by rfl) rfl rfl rfl (fun u hS => HF1.out u hS.2) HUT.out rfl HICT.out HS0.out ?_
 try simp only [List.set_cons_zero, List.set_cons_succ]
 refine take_row 19 (cs := [.int .u8 7, .int .u8 0, .int .u8 0, .int .u8 0, .int .u8 0, .int .u8 0, .int .u8 0, .int .u8 0]) rfl (by kernel_rfl) (by kernel_rfl) (by kernel_rfl) (fun _ _ _ _ h => h) (by rfl) rfl rfl rfl (fun u hS => row_rangeA hS.1) HUT.out rfl HICT.out HS0.out ?_
 try simp only [List.set_cons_zero, List.set_cons_succ]
 refine take_val 20 (.bool true) rfl (by kernel_rfl) (by kernel_rfl) (by kernel_rfl) (fun _ _ _ _ h => h) (by rfl) rfl (fun wz hS => by exact val_binI rfl rfl rfl (E2.out wz) (E3.out _ _ _ wz)) HS0.out ?_
 try simp only [List.set_cons_zero, List.set_cons_succ]
 refine take_val 21 (.bool true) rfl (by kernel_rfl) (by kernel_rfl) (by kernel_rfl) (fun _ _ _ _ h => h) (by rfl) rfl (fun wz hS => by go_simp) HS0.out ?_
 try simp only [List.set_cons_zero, List.set_cons_succ]
 refine take_val 22 (.bool true) rfl (by kernel_rfl) (by kernel_rfl) (by kernel_rfl) (fun _ _ _ _ h => h) (by rfl) rfl (fun wz hS => by go_simp) HS0.out ?_
 try simp only [List.set_cons_zero, List.set_cons_succ]
 refine wpAnyH_done (by kernel_rfl) ?_ _
 refine NoPanic.normal ?_
 have HF := Lib.hid HS0.out.2
 clear HS0
 go_wp2_with fail
 go_ret
 exact ⟨rfl, HF.out⟩
end Go.Proofs.YtbfoonfbhebhfaaGreatDoor
