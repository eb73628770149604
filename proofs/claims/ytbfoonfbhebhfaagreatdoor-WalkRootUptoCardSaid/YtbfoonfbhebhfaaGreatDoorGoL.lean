/- Joined: WalkRootW. -/
import Derived.Test.YtbfoonfbhebhfaaGreatDoorGoJ
import Derived.Test.YtbfoonfbhebhfaaGreatDoorGoK
namespace Go.Proofs.YtbfoonfbhebhfaaGreatDoor
open Go.RowKit Plain Go.Maps Go.ChangeMaps
set_option linter.unusedVariables false
set_option linter.unusedSimpArgs false
theorem own_baseW {w : World} {base b2 : Nat} {e : TypeId} {k : Nat} {v : Value} {n : Nat} {xs : List Value} (h : w.ownsRow base e k v n xs) (hb : b2 ≤ base) : w.ownsRow b2 e k v n xs := by
  refine ⟨h.1, ?_⟩
  rcases h.2 with h | ⟨g, c, cur, h0, h1, h2⟩
  · exact .inl h
  · exact .inr ⟨g, c, cur, h0, Nat.le_trans hb h1, h2⟩
set_option maxRecDepth 100000 in
set_option maxHeartbeats 2000000 in
theorem walkRoot_any (fx mn mx bt : Int) (aa ab : Option Addr) (ca cb : Nat) (la lb : List It) (m : Int) (w : World) (ha : SAt 5 iC w aa la) (hb : SAt 5 iC w ab lb) (za : la.length ≤ 9223372036854775807) (zb : lb.length ≤ 9223372036854775807) (sa : ∀ x ∈ la, x.1.size ≤ 1048576) (sb : ∀ x ∈ lb, x.1.size ≤ 1048576) (ta : TmOk la) (tb : TmOk lb) (hm : MaxL m w) (hT : Tabs w) (hMC : MaxC w) :
    Calls Tryz.prog 3 #[.agg #[.int .i64 fx, .int .i64 mn, .int .i64 mx, .int .i64 bt], .slice aa la.length ca, .slice ab lb.length cb] w fun e w' => e = .returned (.bool true) ∧ Below w.heap.size w w' := by
  obtain ⟨ib0, hib0, hbz0, hbz1, hbz2⟩ := info_parts info_blW
  have hb0 := (Below.refl w.heap.size w).alloc (Nat.le_refl _) (.cells #[.int .i64 fx, .int .i64 mn, .int .i64 mx, .int .i64 bt] 25)
  have hr0 := heap_alloc_new w (.cells #[.int .i64 fx, .int .i64 mn, .int .i64 mx, .int .i64 bt] 25)
  have HB0 := Lib.hid hb0
  have HR0 := Lib.hid hr0
  have HA := Lib.hid ha
  have HB := Lib.hid hb
  have HSA := Lib.hid sa
  have HSB := Lib.hid sb
  have HTA := Lib.hid ta
  have HTB := Lib.hid tb
  have HM := Lib.hid hm
  have HT := Lib.hid hT
  have HMC := Lib.hid hMC
  have HZ := Lib.hid (And.intro za zb)
  clear hb0 hr0 ha hb sa sb ta tb hm hT hMC
  go_enter Tryz.func3, Tryz.ntmps3
  go_wp2_with fail
  refine (walked_any m _ (HM.out.below HB0.out) (HT.out.below HB0.out) (HMC.out.below HB0.out)).mono ?_
  rintro e w1 ⟨rfl, hb1⟩
  have hr1 := (hb1.block _ (lt_of_block HR0.out)).trans HR0.out
  have HB1 := Lib.hid (HB0.out.trans (hb1.mono HB0.out.size))
  have HR1 := Lib.hid hr1
  have b0 := cell_of_row _ _ 0 _ _ _ hr1
  have b1 := cell_of_row _ _ 1 _ _ _ hr1
  have b2 := cell_of_row _ _ 2 _ _ _ hr1
  have b3 := cell_of_row _ _ 3 _ _ _ hr1
  simp only [List.getElem?_toArray, List.getElem?_cons_zero, List.getElem?_cons_succ] at b0 b1 b2 b3
  clear hb1 hr1 HR0 HB0
  go_wp2_with fail
  clear b0 b1 b2 b3
  refine (plantU fx mn mx bt aa ca la m w1 (HA.out.below HB1.out) za HSA.out HTA.out (HM.out.below HB1.out) (HT.out.below HB1.out) (HMC.out.below HB1.out)).mono ?_
  rintro e w2 ⟨hb2, l, i0, i1, i2, i3, i4, i5, i6, i7, oa, oc, c, rfl, hs2, hown2, hl2, hc⟩
  have HB2 := Lib.hid (HB1.out.trans (hb2.mono HB1.out.size))
  have hr2 := (hb2.block _ (lt_of_block HR1.out)).trans HR1.out
  have hba := (Below.refl w2.heap.size w2).alloc (Nat.le_refl _) (.cells #[.int .u8 (i0 : Int), .int .u8 (i1 : Int), .int .u8 (i2 : Int), .int .u8 (i3 : Int), .int .u8 (i4 : Int), .int .u8 (i5 : Int), .int .u8 (i6 : Int), .int .u8 (i7 : Int)] 30)
  have hna := heap_alloc_new w2 (.cells #[.int .u8 (i0 : Int), .int .u8 (i1 : Int), .int .u8 (i2 : Int), .int .u8 (i3 : Int), .int .u8 (i4 : Int), .int .u8 (i5 : Int), .int .u8 (i6 : Int), .int .u8 (i7 : Int)] 30)
  have HB3 := Lib.hid (HB2.out.trans (hba.mono HB2.out.size))
  have hr3 := (hba.block _ (lt_of_block hr2)).trans hr2
  have HRI := Lib.hid hna
  have HS3 := Lib.hid (hs2.below hba)
  have HC := Lib.hid hc
  have HL2 := Lib.hid hl2
  have b0 := cell_of_row _ _ 0 _ _ _ hr3
  have b1 := cell_of_row _ _ 1 _ _ _ hr3
  have b2 := cell_of_row _ _ 2 _ _ _ hr3
  have b3 := cell_of_row _ _ 3 _ _ _ hr3
  simp only [List.getElem?_toArray, List.getElem?_cons_zero, List.getElem?_cons_succ] at b0 b1 b2 b3
  clear hb2 hr2 hba hna hr3 hs2 hown2 hc hl2 HR1
  go_wp2_with fail
  clear b0 b1 b2 b3
  refine (plantU fx mn mx bt ab cb lb m _ (HB.out.below HB3.out) zb HSB.out HTB.out (HM.out.below HB3.out) (HT.out.below HB3.out) (HMC.out.below HB3.out)).mono ?_
  rintro e w4 ⟨hb4, q, j0, j1, j2, j3, j4, j5, j6, j7, oq, oqc, f, rfl, hs4, hown4, hl4, hf⟩
  have HB4 := Lib.hid (HB3.out.trans (hb4.mono HB3.out.size))
  have hri4 := (hb4.block _ (lt_of_block HRI.out)).trans HRI.out
  have hba := (Below.refl w4.heap.size w4).alloc (Nat.le_refl _) (.cells #[.int .u8 (j0 : Int), .int .u8 (j1 : Int), .int .u8 (j2 : Int), .int .u8 (j3 : Int), .int .u8 (j4 : Int), .int .u8 (j5 : Int), .int .u8 (j6 : Int), .int .u8 (j7 : Int)] 30)
  have hna := heap_alloc_new w4 (.cells #[.int .u8 (j0 : Int), .int .u8 (j1 : Int), .int .u8 (j2 : Int), .int .u8 (j3 : Int), .int .u8 (j4 : Int), .int .u8 (j5 : Int), .int .u8 (j6 : Int), .int .u8 (j7 : Int)] 30)
  have HB5 := Lib.hid (HB4.out.trans (hba.mono HB4.out.size))
  have HRI5 := Lib.hid ((hba.block _ (lt_of_block hri4)).trans hri4)
  have HRJ5 := Lib.hid hna
  have HS5 := Lib.hid ((HS3.out.below hb4).below hba)
  have HQ5 := Lib.hid (hs4.below hba)
  have HF := Lib.hid hf
  have HL4 := Lib.hid hl4
  clear hb4 hri4 hba hna hs4 hown4 hl4 hf HRI HS3
  by_cases hc0 : c = 0
  rotate_left
  · have c1 : (c != 0) = true := by simpa using hc0
    have c2 : (c == 0) = false := by simpa using hc0
    have l0 : (l.length : Int) = 0 := by
      rcases HC.out with ⟨h, _⟩ | ⟨_, h, _⟩
      · exact absurd h hc0
      · rw [h]; rfl
    clear hc0
    go_wp2_with fail
    go_ret
    exact ⟨rfl, HB5.out⟩
  subst hc0
  by_cases hf0 : f = 0
  rotate_left
  · have c1 : (f != 0) = true := by simpa using hf0
    clear hf0
    go_wp2_with fail
    go_ret
    exact ⟨rfl, HB5.out⟩
  subst hf0
  have HPA := Lib.hid (HC.out.resolve_right (fun h => h.1 rfl)).2
  have HPB := Lib.hid (HF.out.resolve_right (fun h => h.1 rfl)).2
  clear HC HF
  go_wp2_with fail
  generalize hw5 : w4.alloc (.cells #[.int .u8 (j0 : Int), .int .u8 (j1 : Int), .int .u8 (j2 : Int), .int .u8 (j3 : Int), .int .u8 (j4 : Int), .int .u8 (j5 : Int), .int .u8 (j6 : Int), .int .u8 (j7 : Int)] 30) = w5 at *
  clear hw5
  refine (cloneBl_any oa oc l _ HS5.out (by have := HL2.out; omega)).mono ?_
  rintro e w6 ⟨hb6, a6, c6, rfl, how6⟩
  have HQ6 := Lib.hid (HQ5.out.below hb6)
  have HO6 := Lib.hid how6
  have HB6 := Lib.hid hb6
  clear hb6 how6
  have D3 : Hid (l.length + q.length ≤ maxLen) := Lib.hid (by have := HL2.out; have := HL4.out; unfold maxLen; omega)
  have D4 : Hid ((l.length + q.length) * 24 ≤ 140737488355328) := Lib.hid (by have := HL2.out; have := HL4.out; omega)
  have D5 : Hid (w5.heap.size ≤ w6.heap.size) := Lib.hid HB6.out.size
  go_wp2_with (at_builtin; refine wpList_append_satG (by rfl) _ _ 28 rfl w5.heap.size 37 ib0 (.agg #[.int .i64 0, .string ⟨#[]⟩]) 2 24 Tryz.underlying28 hib0 hbz0 hbz1 hbz2 rfl (by decide) (.slice a6 l.length c6) l.length (l.flatMap blC) rfl HO6.out oq oqc q rfl HQ6.out (fun _ => rfl) (fun p => blC_one p) D3.out D4.out D5.out ?_)
  intro v' w7 hown7 hgrow7
  have hb7 := below_own HB6.out hgrow7 HB6.out.size HO6.out (Nat.le_refl _)
  obtain ⟨oa7, oc7, rfl⟩ := own_formK hown7
  have hs7 : SAt 2 blC w7 oa7 (l ++ q) := own_satW (base := w5.heap.size) (T := 37) (cc := oc7) blC_length (by rw [List.length_append, List.flatMap_append]; exact hown7)
  have hcl := clash_any oa7 oc7 (l ++ q) w7 hs7 (by rw [List.length_append]; have := D3.out; unfold maxLen at this; omega)
  rw [List.length_append] at hcl
  have HCL := Lib.hid hcl
  have HB7 := Lib.hid hb7
  clear hown7 hgrow7 hb7 hs7 hcl D3 D4 D5 HO6 HQ6 HB6
  go_wp2_with fail
  refine HCL.out.mono ?_
  rintro e w8 ⟨hb8, ⟨hcons, rfl⟩ | ⟨_, rfl⟩⟩
  rotate_left
  · have HB8 := Lib.hid (HB5.out.trans ((HB7.out.trans (hb8.mono HB7.out.size)).mono HB5.out.size))
    clear hb8
    go_wp2_with fail
    go_ret
    exact ⟨rfl, HB8.out⟩
  have HX8 := Lib.hid (HB7.out.trans (hb8.mono HB7.out.size))
  have HB8 := Lib.hid (HB5.out.trans (HX8.out.mono HB5.out.size))
  have HRI8 := Lib.hid ((HX8.out.block _ (lt_of_block HRI5.out)).trans HRI5.out)
  have HRJ8 := Lib.hid ((HX8.out.block _ (lt_of_block HRJ5.out)).trans HRJ5.out)
  have hlaw := root_law HPA.out HPB.out HTA.out HTB.out hcons
  obtain ⟨E1, E3⟩ := eqK_id [i0, i1, i2, i3, i4, i5, i6, i7] [j0, j1, j2, j3, j4, j5, j6, j7] rfl rfl
  obtain ⟨b, hb⟩ : ∃ b, decide ([i0, i1, i2, i3, i4, i5, i6, i7] = [j0, j1, j2, j3, j4, j5, j6, j7]) = b := ⟨_, rfl⟩
  rw [hb] at E1
  have HIFF : Hid (b = true ↔ la = lb) := Lib.hid (by rw [← hb, decide_eq_true_iff]; exact hlaw)
  have HE1 := Lib.hid E1
  have HE3 := Lib.hid E3
  have HSA8 := Lib.hid ((HA.out.below HB8.out).below (Below.refl _ _).drew)
  have HSB8 := Lib.hid ((HB.out.below HB8.out).below (Below.refl _ _).drew)
  have hu := Tryz.underlying30
  have ic1 : (Tryz.prog.info? 30).map (·.size) = some (idK [i0, i1, i2, i3, i4, i5, i6, i7]).length := info_id8
  have ic2 : (Tryz.prog.info? 30).map (·.size) = some (idK [j0, j1, j2, j3, j4, j5, j6, j7]).length := info_id8
  clear hb hb8 hcons hlaw E1 E3 HCL HB7 HRI5 HRJ5 HS5 HQ5
  go_wp2_with fail
  refine wp_region_noPanic ?_
  refine wp_region_held_drew (S := fun u => u.rangeAt w2.heap.size 0 (idK [i0, i1, i2, i3, i4, i5, i6, i7]) ∧ u.rangeAt w4.heap.size 0 (idK [j0, j1, j2, j3, j4, j5, j6, j7]) ∧ Below w8.heap.size w8 u) (by kernel_rfl) ⟨row_rangeI (show w8.drew.heap[w2.heap.size]? = _ from HRI8.out), row_rangeI (show w8.drew.heap[w4.heap.size]? = _ from HRJ8.out), (Below.refl _ _).drew⟩ (fun hS0 => ?_)
  have HS0 := Lib.hid hS0
  clear hS0
  refine take_row 0 rfl (by kernel_rfl) (by kernel_rfl) (by kernel_rfl) (fun _ _ _ _ h => h) (by rfl) rfl rfl rfl (fun _ hS => hS.1) hu rfl ic1 HS0.out ?_
  try simp only [List.set_cons_zero, List.set_cons_succ]
  refine take_row 1 rfl (by kernel_rfl) (by kernel_rfl) (by kernel_rfl) (fun _ _ _ _ h => h) (by rfl) rfl rfl rfl (fun _ hS => hS.2.1) hu rfl ic2 HS0.out ?_
  try simp only [List.set_cons_zero, List.set_cons_succ]
  refine take_val 2 (.bool b) rfl (by kernel_rfl) (by kernel_rfl) (by kernel_rfl) (fun _ _ _ _ h => h) (by rfl) rfl (fun w _ => val_binX rfl rfl rfl (HE1.out w) (HE3.out _ _ _ w)) HS0.out ?_
  try simp only [List.set_cons_zero, List.set_cons_succ]
  refine take_val 3 (.slice aa la.length ca) rfl (by kernel_rfl) (by kernel_rfl) (by kernel_rfl) (fun _ _ _ _ h => h) (by rfl) rfl (fun wz hS => by go_simp) HS0.out ?_
  try simp only [List.set_cons_zero, List.set_cons_succ]
  refine take_val 4 (.slice ab lb.length cb) rfl (by kernel_rfl) (by kernel_rfl) (by kernel_rfl) (fun _ _ _ _ h => h) (by rfl) rfl (fun wz hS => by go_simp) HS0.out ?_
  try simp only [List.set_cons_zero, List.set_cons_succ]
  refine one_ready 5 (by kernel_rfl) rfl (by rfl) (fun KQ hK => ?_)
  refine wp_call_run (f := 16) (args := #[.slice aa la.length ca, .slice ab lb.length cb]) (by kernel_rfl) (eqIts_any aa ab ca cb la lb _ HSA8.out HSB8.out za zb) ?_
  rintro e v1 ⟨⟨r, rfl, hr⟩, hbv⟩
  obtain rfl : b = r := by rw [Bool.eq_iff_iff, HIFF.out, hr]
  have HV : Hid (v1.rangeAt w2.heap.size 0 (idK [i0, i1, i2, i3, i4, i5, i6, i7]) ∧ v1.rangeAt w4.heap.size 0 (idK [j0, j1, j2, j3, j4, j5, j6, j7]) ∧ Below w8.heap.size w8 v1) := Lib.hid ⟨row_rangeI ((hbv.block _ (lt_of_block (show w8.drew.heap[w2.heap.size]? = _ from HRI8.out))).trans HRI8.out), row_rangeI ((hbv.block _ (lt_of_block (show w8.drew.heap[w4.heap.size]? = _ from HRJ8.out))).trans HRJ8.out), (Below.refl _ _).drew.trans hbv⟩
  refine ⟨_, rfl, ?_⟩
  refine hK.out _ _ HV.out ?_
  clear hK KQ hr hbv
  try simp only [Act.put, List.setIfInBounds_toArray, List.set_cons_zero, List.set_cons_succ]
  refine take_val 6 (.bool true) rfl (by kernel_rfl) (by kernel_rfl) (by kernel_rfl) (fun _ _ _ _ h => h) (by rfl) rfl (fun wz hS => by go_simp) HV.out ?_
  try simp only [List.set_cons_zero, List.set_cons_succ]
  refine take_val 7 (.bool true) rfl (by kernel_rfl) (by kernel_rfl) (by kernel_rfl) (fun _ _ _ _ h => h) (by rfl) rfl (fun wz hS => by go_simp) HV.out ?_
  try simp only [List.set_cons_zero, List.set_cons_succ]
  refine wpAnyH_done (by kernel_rfl) ?_ _
  refine NoPanic.normal ?_
  have HFIN := Lib.hid (HB8.out.trans (HV.out.2.2.mono HB8.out.size))
  go_wp2_with fail
  go_ret
  exact ⟨rfl, HFIN.out⟩
end Go.Proofs.YtbfoonfbhebhfaaGreatDoor
