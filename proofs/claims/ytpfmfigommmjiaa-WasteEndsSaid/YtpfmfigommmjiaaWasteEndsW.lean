/- The walk of WasteEnds. -/
import Derived.Test.YtpfmfigommmjiaaWasteT
namespace Go.Proofs.Ytpfmfigommmjiaa
open Go.RowKit Plain
set_option linter.unusedVariables false
set_option linter.unusedSimpArgs false
theorem sh41E : shF (4, 1) = 4598175219545276416 := by decide +kernel
theorem sh00E : shF (0, 0) = 0 := rfl
theorem ws41 : WOk1 (4, 1) := ⟨by decide, by decide, by decide, by decide⟩
theorem ws00 : WOk1 (0, 0) := ⟨by decide, by decide, by decide, by decide⟩
set_option maxRecDepth 100000 in
theorem infN_any (w : World) : Calls Try.prog 10 #[.int .i64 (-1)] w fun e w' => e = .returned (.float .f64 18442240474082181120) ∧ w' = w := by
  have hf : ∀ u : World, (callFunc 17 #[.int .u64 18442240474082181120]).run Try.prog u = .ok (.value (.float .f64 18442240474082181120)) u := fun u => from_law u 18442240474082181120
  go_enter Try.func10, Try.ntmps10
  go_wp2_with fail
  go_ret
  exact ⟨rfl, rfl⟩
theorem ch_lenE {L : List Wst} {over : Nat} {Z : List Nat} (h : ChOk L over Z) (hk : WsOk L) : Z.length ≤ 100 := by
  rw [h.perm.length_eq]
  unfold cand
  refine Nat.le_trans (List.length_filter_le _ _) ?_
  rw [List.length_range]
  exact hk.1
def manyB (L : List Wst) : Nat := (L.filter fun w => decide (0 < w.1)).length
theorem many_snoc (L : List Wst) (i : Nat) (y : Wst) (h : L[i]? = some y) : manyB (L.take (i + 1)) = manyB (L.take i) + if 0 < y.1 then 1 else 0 := by
  unfold manyB
  rw [List.take_add_one, h]
  rw [List.filter_append, List.length_append]
  congr 1
  by_cases h0 : 0 < y.1 <;> simp [h0]
theorem many_le (L : List Wst) : manyB L ≤ L.length := List.length_filter_le _ _
set_option maxRecDepth 100000 in
set_option maxHeartbeats 4000000 in
theorem wasteEnds_any (a : Option Addr) (cap : Nat) (L : List Wst) (w : World) (h : SAt 2 wsC w a L) (hl : L.length ≤ 9223372036854775807) :
    Calls Try.prog 4 #[.slice a L.length cap] w fun e w' => e = .returned (.bool true) ∧ Below w.heap.size w w' := by
  have HS := Lib.hid h
  have HS1 := Lib.hid fun u => share_any (4, 1) ws41 u
  have HS2 := Lib.hid fun u => share_any (0, 0) ws00 u
  rw [sh41E] at HS1
  rw [sh00E] at HS2
  have HSB := Lib.hid fun u => signbit_any 0 (by decide) u
  rw [show isNeg 0 = false by decide] at HSB
  have HNA := Lib.hid nan_any
  have HIN := Lib.hid infN_any
  have o1 : (FloatKind.f64.format.order 4598175219545276416 4598175219545276416 != some .eq) = false := by rw [order_self]; decide
  have HCH := Lib.hid fun over u (hb : Below w.heap.size w u) => choose_any a cap L over u (h.below hb) hl
  clear h
  go_enter Try.func4, Try.ntmps4
  go_wp2_with fail
  refine (HS1.out _).mono ?_
  rintro e w1 ⟨rfl, hb1⟩
  have HB1 := Lib.hid hb1
  clear hb1
  go_wp2_with fail
  refine (HS2.out _).mono ?_
  rintro e w2 ⟨rfl, hb2⟩
  have HB2 := Lib.hid (Below.step HB1.out hb2)
  clear hb2
  go_wp2_with fail
  refine (HSB.out _).mono ?_
  rintro e w3 ⟨rfl, rfl⟩
  go_wp2_with fail
  refine (HNA.out _).mono ?_
  rintro e w4 ⟨rfl, rfl⟩
  go_wp2_with fail
  refine (HCH.out _ _ HB2.out).mono ?_
  rintro e w5 ⟨hb5, hr5⟩
  have HB5 := Lib.hid (Below.step HB2.out hb5)
  clear hb5
  rcases hr5 with ⟨hn, rfl⟩ | ⟨hz, Z1, oa1, oc1, hch1, rfl, -, -, -⟩
  · go_wp2_with fail
    refine (HCH.out _ _ HB5.out).mono ?_
    rintro e w6 ⟨hb6, hr6⟩
    have HB6 := Lib.hid (Below.step HB5.out hb6)
    clear hb6
    rcases hr6 with ⟨_, rfl⟩ | ⟨hz, _⟩
    rotate_left
    · exact absurd hz hn
    go_wp2_with fail
    refine (HIN.out _).mono ?_
    rintro e w7 ⟨rfl, rfl⟩
    go_wp2_with fail
    refine (HCH.out _ _ HB6.out).mono ?_
    rintro e w8 ⟨hb8, hr8⟩
    have HB8 := Lib.hid (Below.step HB6.out hb8)
    clear hb8
    rcases hr8 with ⟨_, rfl⟩ | ⟨hz, _⟩
    rotate_left
    · exact absurd hz hn
    go_wp2_with fail
    go_ret
    exact ⟨by simp, HB8.out⟩
  · obtain rfl := ends_nan hch1 (by decide)
    go_wp2_with fail
    refine (HCH.out _ _ HB5.out).mono ?_
    rintro e w6 ⟨hb6, hr6⟩
    have HB6 := Lib.hid (Below.step HB5.out hb6)
    clear hb6
    rcases hr6 with ⟨hn, _⟩ | ⟨_, Z2, oa2, oc2, hch2, rfl, -, -, -⟩
    · exact absurd hz hn
    have HOK := Lib.hid (ckW_zero hz)
    obtain rfl := ends_one HOK.out hch2 pl_one.2
    go_wp2_with fail
    refine (HIN.out _).mono ?_
    rintro e w7 ⟨rfl, rfl⟩
    go_wp2_with fail
    refine (HCH.out _ _ HB6.out).mono ?_
    rintro e w8 ⟨hb8, hr8⟩
    have HB8 := Lib.hid (Below.step HB6.out hb8)
    clear hb8
    rcases hr8 with ⟨hn, _⟩ | ⟨_, Z, oa, oc, hch, rfl, hsa, _, _⟩
    · exact absurd hz hn
    have HSA := Lib.hid hsa
    have HALL : Hid (Z.length = manyB L) := Lib.hid (ends_all hch pl_ninf.1 pl_ninf.2)
    have HTO : Hid (∀ u, Below w8.heap.size w8 u → Calls Try.prog 11 #[.slice a L.length cap, .slice oa (zI Z).length oc] u fun e w' => e = .returned (.tuple #[.agg #[.int .i64 (totS L Z), .int .i64 (totD L Z)], .int .i64 0]) ∧ Below u.heap.size u w') := Lib.hid fun u hu => total_any a oa cap oc L Z u (HS.out.below (Below.step HB8.out hu)) (HSA.out.below hu) HOK.out (ch_nodup hch) (ch_lt hch) (ch_lenE hch HOK.out)
    have htb := (tot_bound HOK.out Z).2.1
    generalize totS L Z = tS at *
    generalize totD L Z = tD at *
    have HTB := Lib.hid htb
    clear htb
    clear hch hch1 hch2 hsa hz
    go_wp2_with fail
    go_loopw [9, 71] (fun mv iv wr => ∃ i : Nat, i ≤ L.length ∧ mv = .int .i64 (manyB (L.take i) : Int) ∧ iv = .int .i64 (i : Int) ∧ Hid (Below w8.heap.size w8 wr)) (fun _ iv _ => L.length - (intOf iv).toNat)
    case atStart => exact ⟨0, Nat.zero_le _, by rfl, rfl, Lib.hid (Below.refl _ _)⟩
    case round =>
      obtain ⟨i, hi, rfl, rfl, HB⟩ := hrel
      have h100 := HOK.out.1
      by_cases hlt : i < L.length
      · have m2 : (i : Int) < (L.length : Int) := by omega
        obtain ⟨y, hy⟩ : ∃ y, L[i]? = some y := ⟨_, List.getElem?_eq_getElem hlt⟩
        obtain ⟨g, off, ea, _, c0, c1⟩ := (HS.out.below (Below.step HB8.out HB.out)).ws hy
        subst ea
        have HWO := HOK.out.2 y (List.mem_of_getElem? hy)
        have HSH := Lib.hid fun u => share_any y HWO u
        have hle := shF_le HWO
        have HMS := Lib.hid (many_snoc L i y hy)
        have hml := many_le (L.take i)
        rw [List.length_take] at hml
        obtain ⟨_, _, nx, px⟩ := low_word hle
        have oz : FloatKind.f64.format.order (shF y) 0 = some (compare ((shF y : Nat) : Int) 0) := by
          have : (0 : Int) = place 0 := by decide
          rw [this, ← px]
          exact order_place _ _ nx (by decide)
        have oo : FloatKind.f64.format.order (shF y) 4607182418800017408 = some (compare ((shF y : Nat) : Int) 4607182418800017408) := by
          have : (4607182418800017408 : Int) = place 4607182418800017408 := by decide
          rw [this, ← px]
          exact order_place _ _ nx (by decide)
        have ge : (FloatKind.f64.format.order (shF y) 0 == some .gt || FloatKind.f64.format.order (shF y) 0 == some .eq) = true := by
          rw [oz]
          rcases Nat.eq_zero_or_pos (shF y) with h0 | h0
          · rw [h0]; rfl
          · rw [Int.compare_eq_gt.2 (by omega)]; rfl
        have le : (FloatKind.f64.format.order (shF y) 4607182418800017408 == some .lt || FloatKind.f64.format.order (shF y) 4607182418800017408 == some .eq) = true := by
          rw [oo]
          rcases Nat.lt_or_ge (shF y) 4607182418800017408 with h0 | h0
          · rw [Int.compare_eq_lt.2 (by omega)]; rfl
          · rw [Int.compare_eq_eq.2 (by omega)]; rfl
        have HBA : Hid (Below w8.heap.size w8 (wr.alloc (Obj.cells #[Value.int IntKind.i64 y.1, Value.int IntKind.i64 y.2] 29))) := Lib.hid (HB.out.alloc HB.out.size _)
        clear hy HWO hle nx px oz oo
        generalize manyB (L.take i) = m at *
        have wm : IntKind.i64.wrap ((m : Int) + 1) = ((m + 1 : Nat) : Int) := by rw [wraps_i64 _ (by omega) (by omega)]; omega
        by_cases h0 : 0 < y.1
        · rw [if_pos h0] at HMS
          go_wp2_with fail
          refine (HSH.out _).mono ?_
          rintro e w9 ⟨rfl, hb9⟩
          have HB9 := Lib.hid (Below.step HBA.out hb9)
          have cy : w9.cell? ⟨wr.heap.size, 0, none⟩ = some (.int .i64 y.1) := by
            rw [cell_of_row _ _ 0 _ _ _ ((hb9.block _ (by simp)).trans (heap_alloc_new wr _))]
            rfl
          have HIL := Lib.hid hlt
          clear hb9
          go_wp2_with fail
          go_roundw
          case rel => exact ⟨i + 1, HIL.out, by rw [HMS.out]; first | rfl | go_num, by go_num, HB9⟩
          case measure => simp [intOf]; have := HIL.out; omega
        · rw [if_neg h0] at HMS
          go_wp2_with fail
          refine (HSH.out _).mono ?_
          rintro e w9 ⟨rfl, hb9⟩
          have HB9 := Lib.hid (Below.step HBA.out hb9)
          have cy : w9.cell? ⟨wr.heap.size, 0, none⟩ = some (.int .i64 y.1) := by
            rw [cell_of_row _ _ 0 _ _ _ ((hb9.block _ (by simp)).trans (heap_alloc_new wr _))]
            rfl
          have HIL := Lib.hid hlt
          clear hb9
          go_wp2_with fail
          go_roundw
          case rel => exact ⟨i + 1, HIL.out, by rw [HMS.out]; first | rfl | go_num, by go_num, HB9⟩
          case measure => simp [intOf]; have := HIL.out; omega
      · have m2 : ¬ (i : Int) < (L.length : Int) := by omega
        obtain rfl : i = L.length := by omega
        rw [List.take_length]
        go_wp2_with fail
        refine (HTO.out _ HB.out).mono ?_
        rintro e w9 ⟨rfl, hb9⟩
        have HB9 := Lib.hid (Below.step (Below.step HB8.out HB.out) hb9)
        clear hb9
        have htb := HTB.out
        have hq : ((zI Z).length : Int) = (manyB L : Int) := by rw [zI_length, HALL.out]
        have hz0 : ((zI []).length : Int) = 0 := rfl
        go_wp2_with fail
        go_ret
        exact ⟨by simp [hq, hz0, htb], by first | exact HB9.out | exact HB9.out.alloc HB9.out.size _⟩
end Go.Proofs.Ytpfmfigommmjiaa
