/- lumkeep.shields at two times two parts. Printed by gen_shieldfar.py. -/
import Derived.Test.YtigdpmeeibkifaaDoorShieldShards
import Derived.Test.YtigdpmeeibkifaaDoorShEq
import Derived.Test.YtigdpmeeibkifaaDoorStrCalls
namespace Go.Proofs.YtigdpmeeibkifaaDoor
open Go.RowKit Plain
set_option linter.unusedVariables false
set_option linter.unusedSimpArgs false
/-- how many of the first i shards are unlike -/
def cntD (L M : List ShT) (i : Nat) : Nat := ((List.range i).filter fun k => decide (shG L k ≠ shG M k)).length
theorem cntD_succ (L M : List ShT) (i : Nat) : cntD L M (i + 1) = if shG L i = shG M i then cntD L M i else cntD L M i + 1 := by
  unfold cntD
  rw [List.range_succ, List.filter_append, List.length_append]
  by_cases h : shG L i = shG M i
  · rw [if_pos h]; simp [h]
  · rw [if_neg h]; simp [h]
theorem cntD_le (L M : List ShT) (i : Nat) : cntD L M i ≤ i := by
  unfold cntD
  refine Nat.le_trans (List.length_filter_le _ _) ?_
  rw [List.length_range]; exact Nat.le_refl _
abbrev tsAB : List ByteArray := [⟨#[97]⟩, ⟨#[98]⟩]
abbrev tsAC : List ByteArray := [⟨#[97]⟩, ⟨#[99]⟩]
theorem tsAB_ok : GOk tsAB 1 := ⟨by decide, by decide, by decide, by decide, fun s hs => by
  simp only [List.mem_cons, List.not_mem_nil, or_false] at hs
  rcases hs with rfl | rfl <;> exact ⟨by decide, rfl⟩⟩
theorem tsAC_ok : GOk tsAC 1 := ⟨by decide, by decide, by decide, by decide, fun s hs => by
  simp only [List.mem_cons, List.not_mem_nil, or_false] at hs
  rcases hs with rfl | rfl <;> exact ⟨by decide, rfl⟩⟩
theorem two_sat (w : World) (x y : ByteArray) : SAt 1 sC (w.alloc (.cells ([x, y].map Value.string).toArray 9)) (some ⟨w.heap.size, 0, none⟩) [x, y] := fun i hi => by
  refine ⟨w.heap.size, 0, rfl, by simp, ?_⟩
  intro j v hj
  have hr := cell_of_row _ w.heap.size (0 + i * 1 + j) _ _ _ (heap_alloc_new w (.cells ([x, y].map Value.string).toArray 9))
  match i, hi with
  | 0, _ =>
    match j, hj with
    | 0, hj => rw [hr]; exact hj
    | j + 1, hj => simp [sC] at hj
  | 1, _ =>
    match j, hj with
    | 0, hj => rw [hr]; exact hj
    | j + 1, hj => simp [sC] at hj
theorem split_two (s x y : ByteArray) (w : World) (hs : s.size = 2) (hc : Lib.charsB s = [x, y]) (ha : ∀ (j : Nat) b, s.data.toList[j]? = some b → b.toNat < 128) :
    Calls Tryd.prog 12 #[.string s, .string ⟨#[]⟩] w fun e w' => Below w.heap.size w w' ∧ ∃ B, e = .returned (.slice (some ⟨B, 0, none⟩) 2 2) ∧ SAt 1 sC w' (some ⟨B, 0, none⟩) [x, y] := by
  refine (Tryd.strings_Split_chars s ⟨#[]⟩ w rfl (by omega) ha).mono ?_
  rintro e w' ⟨rfl, rfl⟩
  rw [hc, hs]
  refine ⟨((Below.refl _ w).alloc (Nat.le_refl _) _).alloc (by show w.heap.size ≤ (w.alloc _).heap.size; simp) _, _, rfl, two_sat _ x y⟩
theorem ab_diff : cntD (shl tsAB 7 3) (shl tsAC 7 3) 3 = 2 := by decide +kernel
theorem ascii2 {x y : UInt8} (hx : x.toNat < 128) (hy : y.toNat < 128) : ∀ (j : Nat) b, (⟨#[x, y]⟩ : ByteArray).data.toList[j]? = some b → b.toNat < 128 := by
  intro j b hj
  match j, hj with
  | 0, hj => simp at hj; subst hj; exact hx
  | 1, hj => simp at hj; subst hj; exact hy
  | j + 2, hj => simp at hj
set_option maxRecDepth 100000 in
set_option maxHeartbeats 8000000 in
theorem shields_any (w : World) : Calls Tryd.prog 6 #[.string ⟨#[97, 98]⟩, .string ⟨#[97, 99]⟩] w fun e w' => e = .returned (.tuple #[.int .i64 2, .bool true]) ∧ Below w.heap.size w w' := by
  have hu := Tryd.underlying31
  have ICZ : Hid ((Tryd.prog.info? 31).map (·.size) = some 2) := by show _ = _; kernel_rfl
  have HC1 := Lib.hid fun W => split_two ⟨#[97, 98]⟩ ⟨#[97]⟩ ⟨#[98]⟩ W rfl (by decide +kernel) (ascii2 (by decide) (by decide))
  have HC2 := Lib.hid fun W => split_two ⟨#[97, 99]⟩ ⟨#[97]⟩ ⟨#[99]⟩ W rfl (by decide +kernel) (ascii2 (by decide) (by decide))
  go_enter Tryd.func6, Tryd.ntmps6
  go_wp2_with fail
  refine (HC1.out _).mono ?_
  rintro e w1 ⟨hb, B1, rfl, hs1⟩
  have HB1 := Lib.hid hb
  have HSH1 := Lib.hid ((shards_any (some ⟨B1, 0, none⟩) 2 tsAB 1 7 w1 hs1 (by decide) (by decide) (by decide)).mono (R' := fun e w' => Below w1.heap.size w1 w' ∧ ∃ oa oc, e = .returned (.tuple #[.slice oa 3 oc, .bool true]) ∧ SAt 2 shC w' oa (shl tsAB 7 3)) (by
    rintro e w' ⟨hb, ⟨q, oa, oc, hq, rfl, _, hown⟩ | ⟨_, hno⟩⟩
    · obtain rfl : q = 1 := by omega
      exact ⟨hb, oa, oc, rfl, sat_own1 (c := shC) shC_length (by rw [shl_length]; exact hown)⟩
    · exact absurd tsAB_ok hno))
  clear hb hs1 HC1
  go_wp2_with fail
  refine HSH1.out.mono ?_
  rintro e w2 ⟨hb, oa, oc, rfl, hsl⟩
  have HB2 := Lib.hid (Below.step HB1.out hb)
  have HSL1 := Lib.hid hsl
  clear hb hsl HSH1 HB1
  go_wp2_with fail
  refine (HC2.out _).mono ?_
  rintro e w3 ⟨hb, B2, rfl, hs2⟩
  have HB3 := Lib.hid (Below.step HB2.out hb)
  have HSL2 := Lib.hid (HSL1.out.below hb)
  have HSH2 := Lib.hid ((shards_any (some ⟨B2, 0, none⟩) 2 tsAC 1 7 w3 hs2 (by decide) (by decide) (by decide)).mono (R' := fun e w' => Below w3.heap.size w3 w' ∧ ∃ oa oc, e = .returned (.tuple #[.slice oa 3 oc, .bool true]) ∧ SAt 2 shC w' oa (shl tsAC 7 3)) (by
    rintro e w' ⟨hb, ⟨q, oa, oc, hq, rfl, _, hown⟩ | ⟨_, hno⟩⟩
    · obtain rfl : q = 1 := by omega
      exact ⟨hb, oa, oc, rfl, sat_own1 (c := shC) shC_length (by rw [shl_length]; exact hown)⟩
    · exact absurd tsAC_ok hno))
  clear hb hs2 HC2 HSL1 HB2
  go_wp2_with fail
  refine HSH2.out.mono ?_
  rintro e w4 ⟨hb, oa2, oc2, rfl, hsm⟩
  have HB4 := Lib.hid (Below.step HB3.out hb)
  obtain ⟨L, hL⟩ : ∃ L, shl tsAB 7 3 = L := ⟨_, rfl⟩
  obtain ⟨M, hM⟩ : ∃ M, shl tsAC 7 3 = M := ⟨_, rfl⟩
  have HSL := Lib.hid (HSL2.out.below hb)
  have HSM := Lib.hid hsm
  have HLL : Hid (L.length = 3) := Lib.hid (by rw [← hL]; exact shl_length _ _ _)
  have HLM : Hid (M.length = 3) := Lib.hid (by rw [← hM]; exact shl_length _ _ _)
  have HCN : Hid (cntD L M 3 = 2) := Lib.hid (by rw [← hL, ← hM]; exact ab_diff)
  rw [hL] at HSL
  rw [hM] at HSM
  clear hL hM hb hsm HSL2 HSH2 HB3
  go_wp2_with fail
  go_loopw [10, 26] (fun nv iv wr => ∃ i : Nat, i ≤ 3 ∧ iv = .int .i64 (i : Int) ∧ nv = .int .i64 (cntD L M i : Int) ∧ Below w4.heap.size w4 wr) (fun _ iv _ => 3 - (intOf iv).toNat)
  case atStart => exact ⟨0, by omega, rfl, rfl, Below.refl _ _⟩
  case round =>
    obtain ⟨i, hi, rfl, rfl, hbr⟩ := hrel
    have HBR := Lib.hid hbr
    clear hbr
    by_cases hil : i < 3
    · have i1 : (i : Int) < 3 := by omega
      have i0 : (0 : Int) ≤ (i : Int) := by omega
      have hll : i < L.length := by rw [HLL.out]; exact hil
      have hlm : i < M.length := by rw [HLM.out]; exact hil
      obtain ⟨g, off, rfl, hg, hrng⟩ := (HSL.out.below HBR.out) i hll
      obtain ⟨g', off', rfl, hg', hrng'⟩ := (HSM.out.below HBR.out) i hlm
      have HRG := Lib.hid hrng
      have HRG2 := Lib.hid hrng'
      have HCS : Hid (cntD L M (i + 1) = if L[i] = M[i] then cntD L M i else cntD L M i + 1) := Lib.hid (by rw [cntD_succ, shG_get hll, shG_get hlm])
      have hcl := cntD_le L M i
      obtain ⟨p, hp⟩ : ∃ p, L[i] = p := ⟨_, rfl⟩
      obtain ⟨q', hq⟩ : ∃ q, M[i] = q := ⟨_, rfl⟩
      rw [hp] at HRG HCS
      rw [hq] at HRG2 HCS
      obtain ⟨b, hb⟩ : ∃ b, decide (p = q') = b := ⟨_, rfl⟩
      obtain ⟨_, E2, E3⟩ := eqSh p q' b hb
      have HQL : Hid ((shC q').length = 2) := shC_length _
      have HPL : Hid ((shC p).length = 2) := shC_length _
      have HBB : Hid (b = true ↔ p = q') := by rw [← hb]; exact decide_eq_true_iff
      obtain ⟨C, hC⟩ : ∃ C, cntD L M i = C := ⟨_, rfl⟩
      rw [hC] at HCS hcl ⊢
      generalize hqc : shC q' = qc at *
      generalize hpc : shC p = pc at *
      have HE2 := Lib.hid E2
      have HE3 := Lib.hid E3
      have ic1 : (Tryd.prog.info? 31).map (·.size) = some pc.length := by rw [HPL.out]; exact ICZ.out
      have ic2 : (Tryd.prog.info? 31).map (·.size) = some qc.length := by rw [HQL.out]; exact ICZ.out
      clear hrng hrng' hq hp hb E2 E3 hqc hpc hg hg' hll hlm hC
      go_wp2_with fail
      refine wp_region_noPanic ?_
      refine wp_region_held_drew (S := fun w' => w'.rangeAt g (off + i * 2) pc ∧ w'.rangeAt g' (off' + i * 2) qc) (by kernel_rfl) ⟨HRG.out, HRG2.out⟩ (fun hS0 => ?_)
      have HS0 := Lib.hid hS0
      have HB9 : Hid (Below w4.heap.size w4 wr.drew) := HBR.out.drew
      clear hS0 HBR
      generalize wr.drew = v0 at *
      refine take_val 0 (.int .i64 (i : Int)) rfl (by kernel_rfl) (by kernel_rfl) (by kernel_rfl) (fun _ _ _ _ h => h) (by rfl) rfl (fun w _ => by go_simp) HS0.out ?_
      try simp only [List.set_cons_zero, List.set_cons_succ]
      refine take_val 1 (.slice (some ⟨g', off', none⟩) 3 oc2) rfl (by kernel_rfl) (by kernel_rfl) (by kernel_rfl) (fun _ _ _ _ h => h) (by rfl) rfl (fun w _ => by go_simp) HS0.out ?_
      try simp only [List.set_cons_zero, List.set_cons_succ]
      refine take_val 2 (.int .i64 3) rfl (by kernel_rfl) (by kernel_rfl) (by kernel_rfl) (fun _ _ _ _ h => h) (by rfl) rfl (fun w _ => by go_simp) HS0.out ?_
      try simp only [List.set_cons_zero, List.set_cons_succ]
      refine take_val 3 (.bool true) rfl (by kernel_rfl) (by kernel_rfl) (by kernel_rfl) (fun _ _ _ _ h => h) (by rfl) rfl (fun w _ => by go_simp) HS0.out ?_
      try simp only [List.set_cons_zero, List.set_cons_succ]
      refine take_val 4 (.bool true) rfl (by kernel_rfl) (by kernel_rfl) (by kernel_rfl) (fun _ _ _ _ h => h) (by rfl) rfl (fun w _ => by go_simp) HS0.out ?_
      try simp only [List.set_cons_zero, List.set_cons_succ]
      refine take_val 5 (.slice (some ⟨g, off, none⟩) 3 oc) rfl (by kernel_rfl) (by kernel_rfl) (by kernel_rfl) (fun _ _ _ _ h => h) (by rfl) rfl (fun w _ => by go_simp) HS0.out ?_
      try simp only [List.set_cons_zero, List.set_cons_succ]
      refine take_val 6 (.int .i64 (i : Int)) rfl (by kernel_rfl) (by kernel_rfl) (by kernel_rfl) (fun _ _ _ _ h => h) (by rfl) rfl (fun w _ => by go_simp) HS0.out ?_
      try simp only [List.set_cons_zero, List.set_cons_succ]
      refine take_val 7 (.pointer (some ⟨g, off + i * 2, none⟩)) rfl (by kernel_rfl) (by kernel_rfl) (by kernel_rfl) (fun _ _ _ _ h => h) (by rfl) rfl (fun w _ => by go_simp) HS0.out ?_
      try simp only [List.set_cons_zero, List.set_cons_succ]
      refine take_row 8 rfl (by kernel_rfl) (by kernel_rfl) (by kernel_rfl) (fun _ _ _ _ h => h) (by rfl) rfl rfl rfl (fun _ hS => hS.1) hu rfl ic1 HS0.out ?_
      try simp only [List.set_cons_zero, List.set_cons_succ]
      refine take_val 9 (.slice (some ⟨g', off', none⟩) 3 oc2) rfl (by kernel_rfl) (by kernel_rfl) (by kernel_rfl) (fun _ _ _ _ h => h) (by rfl) rfl (fun w _ => by go_simp) HS0.out ?_
      try simp only [List.set_cons_zero, List.set_cons_succ]
      refine take_val 10 (.int .i64 (i : Int)) rfl (by kernel_rfl) (by kernel_rfl) (by kernel_rfl) (fun _ _ _ _ h => h) (by rfl) rfl (fun w _ => by go_simp) HS0.out ?_
      try simp only [List.set_cons_zero, List.set_cons_succ]
      refine take_val 11 (.pointer (some ⟨g', off' + i * 2, none⟩)) rfl (by kernel_rfl) (by kernel_rfl) (by kernel_rfl) (fun _ _ _ _ h => h) (by rfl) rfl (fun w _ => by go_simp) HS0.out ?_
      try simp only [List.set_cons_zero, List.set_cons_succ]
      refine take_row 12 rfl (by kernel_rfl) (by kernel_rfl) (by kernel_rfl) (fun _ _ _ _ h => h) (by rfl) rfl rfl rfl (fun _ hS => hS.2) hu rfl ic2 HS0.out ?_
      try simp only [List.set_cons_zero, List.set_cons_succ]
      refine take_val 13 (.bool !b) rfl (by kernel_rfl) (by kernel_rfl) (by kernel_rfl) (fun _ _ _ _ h => h) (by rfl) rfl (fun w _ => val_binK rfl rfl rfl (HE2.out w) (HE3.out _ _ _ w)) HS0.out ?_
      try simp only [List.set_cons_zero, List.set_cons_succ]
      refine take_val 14 (.bool !b) rfl (by kernel_rfl) (by kernel_rfl) (by kernel_rfl) (fun _ _ _ _ h => h) (by rfl) rfl (fun w _ => by go_simp) HS0.out ?_
      try simp only [List.set_cons_zero, List.set_cons_succ]
      refine wpAnyH_done (by kernel_rfl) ?_ _
      refine NoPanic.normal ?_
      cases b with
      | true =>
        have HN : Hid (cntD L M (i + 1) = C) := Lib.hid (by rw [HCS.out, if_pos (HBB.out.1 rfl)])
        clear HBB HCS
        go_wp2_with fail
        go_roundw
        case rel => exact ⟨i + 1, by omega, by go_num, by rw [HN.out], HB9.out⟩
        case measure => simp [intOf]; omega
      | false =>
        have HN : Hid (cntD L M (i + 1) = C + 1) := Lib.hid (by rw [HCS.out, if_neg (fun h => by have := HBB.out.2 h; cases this)])
        clear HBB HCS
        go_wp2_with fail
        go_roundw
        case rel => exact ⟨i + 1, by omega, by go_num, by rw [HN.out]; go_num, HB9.out⟩
        case measure => simp [intOf]; omega
    · have i1 : ¬ (i : Int) < 3 := by omega
      obtain rfl : i = 3 := by omega
      rw [HCN.out]
      go_wp2_with fail
      go_ret2
      exact ⟨rfl, Below.step HB4.out HBR.out⟩
end Go.Proofs.YtigdpmeeibkifaaDoor
