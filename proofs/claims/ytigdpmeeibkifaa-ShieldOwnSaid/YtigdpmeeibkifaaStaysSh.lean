/- The walk of stays over lumberroom/api.Shard. -/
import Derived.Test.YtigdpmeeibkifaaAmpleSh
import Derived.Test.YtigdpmeeibkifaaShEq
namespace Go.Proofs.Ytigdpmeeibkifaa
open Go.RowKit Plain
set_option linter.unusedVariables false
set_option linter.unusedSimpArgs false
set_option maxRecDepth 100000 in
set_option maxHeartbeats 4000000 in
theorem staysSh_any (g : Nat) (b : Option Addr) (cb : Nat) (l : List ShT) (w : World) (h : Amp shC (shC ((false, ⟨#[]⟩) : ShT)) 28 w g l shQ) (hb : SAt 2 shC w b l) (hl : l.length ≤ 5864062014634) :
    Calls Try.prog 13 #[.slice (some ⟨g, 0, none⟩) l.length (l.length + 3), .slice b l.length cb, .agg #[.bool false, .string ⟨#[63]⟩]] w fun e w' => e = .returned (.bool true) ∧ Below w.heap.size w w' := by
  have HE : Hid (∀ u, Below w.heap.size w u → Calls Try.prog 21 #[.slice (some ⟨g, 0, none⟩) l.length (l.length + 3), .slice b l.length cb] u fun e w' => e = .returned (.bool true) ∧ Below u.heap.size u w') := by
    intro u hu
    refine (eqShs_any (some ⟨g, 0, none⟩) b (l.length + 3) cb l l u ((h.below hu).sat shC_length) (hb.below hu) (by omega) (by omega)).mono ?_
    rintro e w' ⟨⟨r, rfl, hr⟩, hb⟩
    obtain rfl : r = true := hr.2 rfl
    exact ⟨rfl, hb⟩
  have HF0 : Hid (∀ u, Below w.heap.size w u → u.rangeAt g (l.length * 2) [.bool false, .string ⟨#[63]⟩]) := fun u hu j v hv => by
    have hj : j < 2 := by
      rcases Nat.lt_or_ge j 2 with h | h
      · exact h
      · rw [List.getElem?_eq_none (by simpa using h)] at hv; cases hv
    exact ((h.below hu).fill shC_length 0 j (by decide) hj).trans hv
  have HF1 : Hid (∀ u, Below w.heap.size w u → u.rangeAt g ((l.length + 1) * 2) [.bool false, .string ⟨#[63]⟩]) := fun u hu j v hv => by
    have hj : j < 2 := by
      rcases Nat.lt_or_ge j 2 with h | h
      · exact h
      · rw [List.getElem?_eq_none (by simpa using h)] at hv; cases hv
    exact ((h.below hu).fill shC_length 1 j (by decide) hj).trans hv
  have E2 : Hid (∀ wx, (binOp .eql 28 (.agg #[.bool false, .string ⟨#[63]⟩]) (.agg #[.bool false, .string ⟨#[63]⟩])).run Try.prog wx = .ok (.bool true) wx) := (eqSh shQ shQ true (decide_eq_true_iff.2 rfl)).1
  have E3 : Hid (∀ (o : BinOp) (x y : Operand) (wx : World), (eqGuard o 28 x y (.agg #[.bool false, .string ⟨#[63]⟩]) (.agg #[.bool false, .string ⟨#[63]⟩])).run Try.prog wx = .ok () wx) := (eqSh shQ shQ true (decide_eq_true_iff.2 rfl)).2.2
  have HUT := Lib.hid Try.underlying28
  have HICT : Hid ((Try.prog.info? 28).map (·.size) = some 2) := by show _ = _; kernel_rfl
  have HB0 := Lib.hid ((Below.refl w.heap.size w).alloc (Nat.le_refl _) (.cells #[.bool false, .string ⟨#[63]⟩] 28))
  have HX0 := Lib.hid (heap_alloc_new w (.cells #[.bool false, .string ⟨#[63]⟩] 28))
  have e2 : IntKind.i64.wrap ((l.length : Int) + 2) = (l.length : Int) + 2 := wraps_i64 _ (by omega) (by omega)
  have e1 : IntKind.i64.wrap ((l.length : Int) + 1) = (l.length : Int) + 1 := wraps_i64 _ (by omega) (by omega)
  have k1 : (0 : Int) ≤ (l.length : Int) + 2 := by omega
  have k2 : (l.length : Int) + 2 ≤ (l.length : Int) + 3 := by omega
  have k3 : (0 : Int) ≤ (l.length : Int) := Int.natCast_nonneg _
  have k4 : (l.length : Int) < (l.length : Int) + 2 := by omega
  have k5 : ¬ ((l.length : Int) + 1 < 0) := by omega
  have k6 : (l.length : Int) + 1 < (l.length : Int) + 2 := by omega
  have t2 : ((l.length : Int) + 2).toNat = l.length + 2 := by omega
  have t1 : ((l.length : Int) + 1).toNat = l.length + 1 := by omega
  clear h hb
  go_enter Try.func13, Try.ntmps13
  go_wp2_with fail
  refine wp_region_noPanic ?_
  refine wp_region_held_drew (S := fun u => u.heap[w.heap.size]? = some (.cells #[.bool false, .string ⟨#[63]⟩] 28 (0, 0)) ∧ Below w.heap.size w u) (by kernel_rfl) ⟨HX0.out, HB0.out.drew⟩ (fun hS0 => ?_)
  have HS0 := Lib.hid hS0
  clear hS0
  refine take_val 0 (.slice (some ⟨g, 0, none⟩) l.length (l.length + 3)) rfl (by kernel_rfl) (by kernel_rfl) (by kernel_rfl) (fun _ _ _ _ h => h) (by rfl) rfl (fun wz hS => by go_simp) HS0.out ?_
  try simp only [List.set_cons_zero, List.set_cons_succ]
  refine take_val 1 (.slice b l.length cb) rfl (by kernel_rfl) (by kernel_rfl) (by kernel_rfl) (fun _ _ _ _ h => h) (by rfl) rfl (fun wz hS => by go_simp) HS0.out ?_
  try simp only [List.set_cons_zero, List.set_cons_succ]
  refine take_call 2 (.bool true) (by kernel_rfl) rfl (by rfl) rfl (by go_simp) ((HE.out _ HS0.out.2).mono (fun e w' ⟨he, hb⟩ => ⟨he, (hb.block _ (lt_of_block HS0.out.1)).trans HS0.out.1, Below.step HS0.out.2 hb⟩)) ?_
  clear HS0
  intro u2 hS2
  have HS0 := Lib.hid hS2
  clear hS2
  try simp only [List.set_cons_zero, List.set_cons_succ]
  refine take_val 3 (.bool true) rfl (by kernel_rfl) (by kernel_rfl) (by kernel_rfl) (fun _ _ _ _ h => h) (by rfl) rfl (fun wz hS => by go_simp) HS0.out ?_
  try simp only [List.set_cons_zero, List.set_cons_succ]
  refine take_val 4 (.slice (some ⟨g, 0, none⟩) (l.length + 2) (l.length + 3)) rfl (by kernel_rfl) (by kernel_rfl) (by kernel_rfl) (fun _ _ _ _ h => h) (by rfl) rfl (fun wz hS => by go_simp) HS0.out ?_
  try simp only [List.set_cons_zero, List.set_cons_succ]
  refine take_val 5 (.slice (some ⟨g, 0, none⟩) l.length (l.length + 3)) rfl (by kernel_rfl) (by kernel_rfl) (by kernel_rfl) (fun _ _ _ _ h => h) (by rfl) rfl (fun wz hS => by go_simp) HS0.out ?_
  try simp only [List.set_cons_zero, List.set_cons_succ]
  refine take_val 6 (.int .i64 (l.length : Int)) rfl (by kernel_rfl) (by kernel_rfl) (by kernel_rfl) (fun _ _ _ _ h => h) (by rfl) rfl (fun wz hS => by go_simp) HS0.out ?_
  try simp only [List.set_cons_zero, List.set_cons_succ]
  refine take_val 7 (.pointer (some ⟨g, l.length * 2, none⟩)) rfl (by kernel_rfl) (by kernel_rfl) (by kernel_rfl) (fun _ _ _ _ h => h) (by rfl) rfl (fun wz hS => by go_simp) HS0.out ?_
  try simp only [List.set_cons_zero, List.set_cons_succ]
  refine take_row 8 (cs := [.bool false, .string ⟨#[63]⟩]) rfl (by kernel_rfl) (by kernel_rfl) (by kernel_rfl) (fun _ _ _ _ h => h) (by rfl) rfl rfl rfl (fun u hS => HF0.out u hS.2) HUT.out rfl HICT.out HS0.out ?_
  try simp only [List.set_cons_zero, List.set_cons_succ]
  refine take_row 9 (cs := [.bool false, .string ⟨#[63]⟩]) rfl (by kernel_rfl) (by kernel_rfl) (by kernel_rfl) (fun _ _ _ _ h => h) (by rfl) rfl rfl rfl (fun u hS => row_rangeA hS.1) HUT.out rfl HICT.out HS0.out ?_
  try simp only [List.set_cons_zero, List.set_cons_succ]
  refine take_val 10 (.bool true) rfl (by kernel_rfl) (by kernel_rfl) (by kernel_rfl) (fun _ _ _ _ h => h) (by rfl) rfl (fun wz hS => by exact val_binK rfl rfl rfl (E2.out wz) (E3.out _ _ _ wz)) HS0.out ?_
  try simp only [List.set_cons_zero, List.set_cons_succ]
  refine take_val 11 (.bool true) rfl (by kernel_rfl) (by kernel_rfl) (by kernel_rfl) (fun _ _ _ _ h => h) (by rfl) rfl (fun wz hS => by go_simp) HS0.out ?_
  try simp only [List.set_cons_zero, List.set_cons_succ]
  refine take_val 12 (.bool true) rfl (by kernel_rfl) (by kernel_rfl) (by kernel_rfl) (fun _ _ _ _ h => h) (by rfl) rfl (fun wz hS => by go_simp) HS0.out ?_
  try simp only [List.set_cons_zero, List.set_cons_succ]
  refine take_val 13 (.slice (some ⟨g, 0, none⟩) (l.length + 2) (l.length + 3)) rfl (by kernel_rfl) (by kernel_rfl) (by kernel_rfl) (fun _ _ _ _ h => h) (by rfl) rfl (fun wz hS => by go_simp) HS0.out ?_
  try simp only [List.set_cons_zero, List.set_cons_succ]
  refine take_val 14 (.slice (some ⟨g, 0, none⟩) l.length (l.length + 3)) rfl (by kernel_rfl) (by kernel_rfl) (by kernel_rfl) (fun _ _ _ _ h => h) (by rfl) rfl (fun wz hS => by go_simp) HS0.out ?_
  try simp only [List.set_cons_zero, List.set_cons_succ]
  refine take_val 15 (.int .i64 (l.length : Int)) rfl (by kernel_rfl) (by kernel_rfl) (by kernel_rfl) (fun _ _ _ _ h => h) (by rfl) rfl (fun wz hS => by go_simp) HS0.out ?_
  try simp only [List.set_cons_zero, List.set_cons_succ]
  refine take_val 16 (.int .i64 ((l.length : Int) + 1)) rfl (by kernel_rfl) (by kernel_rfl) (by kernel_rfl) (fun _ _ _ _ h => h) (by rfl) rfl (fun wz hS => by go_simp) HS0.out ?_
  try simp only [List.set_cons_zero, List.set_cons_succ]
  refine take_val 17 (.pointer (some ⟨g, (l.length + 1) * 2, none⟩)) rfl (by kernel_rfl) (by kernel_rfl) (by kernel_rfl) (fun _ _ _ _ h => h) (by rfl) rfl (fun wz hS => by go_simp) HS0.out ?_
  try simp only [List.set_cons_zero, List.set_cons_succ]
  refine take_row 18 (cs := [.bool false, .string ⟨#[63]⟩]) rfl (by kernel_rfl) (by kernel_rfl) (by kernel_rfl) (fun _ _ _ _ h => h) (by rfl) rfl rfl rfl (fun u hS => HF1.out u hS.2) HUT.out rfl HICT.out HS0.out ?_
  try simp only [List.set_cons_zero, List.set_cons_succ]
  refine take_row 19 (cs := [.bool false, .string ⟨#[63]⟩]) rfl (by kernel_rfl) (by kernel_rfl) (by kernel_rfl) (fun _ _ _ _ h => h) (by rfl) rfl rfl rfl (fun u hS => row_rangeA hS.1) HUT.out rfl HICT.out HS0.out ?_
  try simp only [List.set_cons_zero, List.set_cons_succ]
  refine take_val 20 (.bool true) rfl (by kernel_rfl) (by kernel_rfl) (by kernel_rfl) (fun _ _ _ _ h => h) (by rfl) rfl (fun wz hS => by exact val_binK rfl rfl rfl (E2.out wz) (E3.out _ _ _ wz)) HS0.out ?_
  try simp only [List.set_cons_zero, List.set_cons_succ]
  refine take_val 21 (.bool true) rfl (by kernel_rfl) (by kernel_rfl) (by kernel_rfl) (fun _ _ _ _ h => h) (by rfl) rfl (fun wz hS => by go_simp) HS0.out ?_
  try simp only [List.set_cons_zero, List.set_cons_succ]
  refine take_val 22 (.bool true) rfl (by kernel_rfl) (by kernel_rfl) (by kernel_rfl) (fun _ _ _ _ h => h) (by rfl) rfl (fun wz hS => by go_simp) HS0.out ?_
  try simp only [List.set_cons_zero, List.set_cons_succ]
  refine wpAnyH_done (by kernel_rfl) ?_ _
  refine NoPanic.normal ?_
  have HF := Lib.hid HS0.out.2
  clear HS0
  go_wp2_with fail
  go_ret
  exact ⟨rfl, HF.out⟩
end Go.Proofs.Ytigdpmeeibkifaa
