/- Joined: FetchEnoughW. -/
import Derived.Test.YtbfoonfbhebhfaaGreatDoorKGpI
import Derived.Test.YtbfoonfbhebhfaaGreatDoorKGpN
import Derived.Test.YtbfoonfbhebhfaaGreatDoorKGoK
namespace Go.Proofs.YtbfoonfbhebhfaaGreatDoor
open Go.RowKit Plain Go.Maps Go.ChangeMaps
set_option linter.unusedVariables false
set_option linter.unusedSimpArgs false
set_option maxRecDepth 100000 in
set_option maxHeartbeats 4000000 in
theorem fetchEnough_any (fx mn mx bt : Int) (aa ab : Option Addr) (ca cb : Nat) (la lb : List It) (m : Int) (w : World) (ha : SAt 5 iC w aa la) (hb : SAt 5 iC w ab lb) (za : la.length ≤ 9223372036854775807) (zb : lb.length ≤ 9223372036854775807) (sa : ∀ x ∈ la, x.1.size ≤ 1048576) (sb : ∀ x ∈ lb, x.1.size ≤ 1048576) (ta : TmOk la) (tb : TmOk lb) (hm : MaxL m w) (hT : Tabs w) (hMC : MaxC w) :
  Calls Tryz.prog 9 #[.agg #[.int .i64 fx, .int .i64 mn, .int .i64 mx, .int .i64 bt], .slice aa la.length ca, .slice ab lb.length cb] w fun e w' => e = .returned (.bool true) ∧ Below w.heap.size w w' := by
 obtain ⟨ib0, hib0, hbz0, hbz1, hbz2⟩ := info_parts info_blW
 have hb0 := (Below.refl w.heap.size w).alloc (Nat.le_refl _) (.cells #[.int .i64 fx, .int .i64 mn, .int .i64 mx, .int .i64 bt] 25)
 have hr0 := heap_alloc_new w (.cells #[.int .i64 fx, .int .i64 mn, .int .i64 mx, .int .i64 bt] 25)
 have HB0 := Lib.hid hb0
 have HR0 := Lib.hid hr0
 have HA := Lib.hid ha
 have HB := Lib.hid hb
 have HSA := Lib.hid sa
 have HSB := Lib.hid sb
 have HTA := Lib.hid ta
 have HTB := Lib.hid tb
 have HM := Lib.hid hm
 have HT := Lib.hid hT
 have HMC := Lib.hid hMC
 have HUT := Lib.hid Tryz.underlying30
 have HICT : Hid ((Tryz.prog.info? 30).map (·.size) = some 8) := by show _ = _; kernel_rfl
 clear hb0 hr0 ha hb sa sb ta tb hm hT hMC
 go_enter Tryz.func9, Tryz.ntmps9
 go_wp2_with fail
 refine (fetched_any m _ (HM.out.below HB0.out) (HT.out.below HB0.out) (HMC.out.below HB0.out)).mono ?_
 rintro e w1 ⟨rfl, hb1⟩
 have hr1 := (hb1.block _ (lt_of_block HR0.out)).trans HR0.out
 have HR1 := Lib.hid hr1
 have HB1 := Lib.hid (HB0.out.trans (hb1.mono HB0.out.size))
 have b0 := cell_of_row _ _ 0 _ _ _ hr1
 have b1 := cell_of_row _ _ 1 _ _ _ hr1
 have b2 := cell_of_row _ _ 2 _ _ _ hr1
 have b3 := cell_of_row _ _ 3 _ _ _ hr1
 simp only [List.getElem?_toArray, List.getElem?_cons_zero, List.getElem?_cons_succ] at b0 b1 b2 b3
 clear hb1 hr1 HR0 HB0
 go_wp2_with fail
 clear b0 b1 b2 b3
 refine (plantU fx mn mx bt aa ca la m w1 (HA.out.below HB1.out) za HSA.out HTA.out (HM.out.below HB1.out) (HT.out.below HB1.out) (HMC.out.below HB1.out)).mono ?_
 rintro e w2 ⟨hb2, l, i0, i1, i2, i3, i4, i5, i6, i7, oa, oc, c, rfl, hs2, hown2, hl2, hc⟩
 have HB2 := Lib.hid (HB1.out.trans (hb2.mono HB1.out.size))
 have hr2 := (hb2.block _ (lt_of_block HR1.out)).trans HR1.out
 have hba := (Below.refl w2.heap.size w2).alloc (Nat.le_refl _) (.cells #[.int .u8 (i0 : Int), .int .u8 (i1 : Int), .int .u8 (i2 : Int), .int .u8 (i3 : Int), .int .u8 (i4 : Int), .int .u8 (i5 : Int), .int .u8 (i6 : Int), .int .u8 (i7 : Int)] 30)
 have hna := heap_alloc_new w2 (.cells #[.int .u8 (i0 : Int), .int .u8 (i1 : Int), .int .u8 (i2 : Int), .int .u8 (i3 : Int), .int .u8 (i4 : Int), .int .u8 (i5 : Int), .int .u8 (i6 : Int), .int .u8 (i7 : Int)] 30)
 have HB3 := Lib.hid (HB2.out.trans (hba.mono HB2.out.size))
 have hr3 := (hba.block _ (lt_of_block hr2)).trans hr2
 have HRI := Lib.hid hna
 have HS3 := Lib.hid (hs2.below hba)
 have HC := Lib.hid hc
 have HL2 := Lib.hid hl2
 have b0 := cell_of_row _ _ 0 _ _ _ hr3
 have b1 := cell_of_row _ _ 1 _ _ _ hr3
 have b2 := cell_of_row _ _ 2 _ _ _ hr3
 have b3 := cell_of_row _ _ 3 _ _ _ hr3
 simp only [List.getElem?_toArray, List.getElem?_cons_zero, List.getElem?_cons_succ] at b0 b1 b2 b3
 clear hb2 hr2 hba hna hr3 hs2 hown2 hc hl2 HR1
 go_wp2_with fail
 clear b0 b1 b2 b3
 refine (plantU fx mn mx bt ab cb lb m _ (HB.out.below HB3.out) zb HSB.out HTB.out (HM.out.below HB3.out) (HT.out.below HB3.out) (HMC.out.below HB3.out)).mono ?_
 rintro e w4 ⟨hb4, q, j0, j1, j2, j3, j4, j5, j6, j7, oq, oqc, f, rfl, hs4, hown4, hl4, hf⟩
 have HB4 := Lib.hid (HB3.out.trans (hb4.mono HB3.out.size))
 have hri4 := (hb4.block _ (lt_of_block HRI.out)).trans HRI.out
 have hba := (Below.refl w4.heap.size w4).alloc (Nat.le_refl _) (.cells #[.int .u8 (j0 : Int), .int .u8 (j1 : Int), .int .u8 (j2 : Int), .int .u8 (j3 : Int), .int .u8 (j4 : Int), .int .u8 (j5 : Int), .int .u8 (j6 : Int), .int .u8 (j7 : Int)] 30)
 have hna := heap_alloc_new w4 (.cells #[.int .u8 (j0 : Int), .int .u8 (j1 : Int), .int .u8 (j2 : Int), .int .u8 (j3 : Int), .int .u8 (j4 : Int), .int .u8 (j5 : Int), .int .u8 (j6 : Int), .int .u8 (j7 : Int)] 30)
 have HB5 := Lib.hid (HB4.out.trans (hba.mono HB4.out.size))
 have HRI5 := Lib.hid ((hba.block _ (lt_of_block hri4)).trans hri4)
 have HRJ5 := Lib.hid hna
 have HS5 := Lib.hid ((HS3.out.below hb4).below hba)
 have HQ5 := Lib.hid (hs4.below hba)
 have HF := Lib.hid hf
 have HL4 := Lib.hid hl4
 clear hb4 hri4 hba hna hs4 hown4 hl4 hf HRI HS3
 by_cases hc0 : c = 0
 rotate_left
 ·
  have c1 : (c != 0) = true := by simpa using hc0
  clear hc0
  go_wp2_with fail
  go_ret
  exact ⟨rfl, HB5.out⟩
 subst hc0
 by_cases hf0 : f = 0
 rotate_left
 ·
  have c1 : (f != 0) = true := by simpa using hf0
  clear hf0
  go_wp2_with fail
  go_ret
  exact ⟨rfl, HB5.out⟩
 subst hf0
 have HPA := Lib.hid (HC.out.resolve_right (fun h => h.1 rfl)).2
 have HPB := Lib.hid (HF.out.resolve_right (fun h => h.1 rfl)).2
 clear HC HF
 go_wp2_with fail
 generalize hw5 : w4.alloc (.cells #[.int .u8 (j0 : Int), .int .u8 (j1 : Int), .int .u8 (j2 : Int), .int .u8 (j3 : Int), .int .u8 (j4 : Int), .int .u8 (j5 : Int), .int .u8 (j6 : Int), .int .u8 (j7 : Int)] 30) = w5 at *
 clear hw5
 refine (cloneBl_any oa oc l _ HS5.out (by have := HL2.out; omega)).mono ?_
 rintro e w6 ⟨hb6, a6, c6, rfl, how6⟩
 have HQ6 := Lib.hid (HQ5.out.below hb6)
 have HO6 := Lib.hid how6
 have HB6 := Lib.hid hb6
 clear hb6 how6
 have D3 : Hid (l.length + q.length ≤ maxLen) := Lib.hid (by have := HL2.out; have := HL4.out; unfold maxLen; omega)
 have D4 : Hid ((l.length + q.length) * 24 ≤ 140737488355328) := Lib.hid (by have := HL2.out; have := HL4.out; omega)
 have D5 : Hid (w5.heap.size ≤ w6.heap.size) := Lib.hid HB6.out.size
 go_wp2_with (at_builtin; refine wpList_append_satG (by rfl) _ _ 28 rfl w5.heap.size 37 ib0 (.agg #[.int .i64 0, .string ⟨#[]⟩]) 2 24 Tryz.underlying28 hib0 hbz0 hbz1 hbz2 rfl (by decide) (.slice a6 l.length c6) l.length (l.flatMap blC) rfl HO6.out oq oqc q rfl HQ6.out (fun _ => rfl) (fun p => blC_one p) D3.out D4.out D5.out ?_)
 intro v' w7 hown7 hgrow7
 have hb7 := below_own HB6.out hgrow7 HB6.out.size HO6.out (Nat.le_refl _)
 obtain ⟨oa7, oc7, rfl⟩ := own_formK hown7
 have hs7 : SAt 2 blC w7 oa7 (l ++ q) := own_satW (base := w5.heap.size) (T := 37) (cc := oc7) blC_length (by rw [List.length_append, List.flatMap_append]; exact hown7)
 have hcl := clash_any oa7 oc7 (l ++ q) w7 hs7 (by rw [List.length_append]; have := D3.out; unfold maxLen at this; omega)
 rw [List.length_append] at hcl
 have HCL := Lib.hid hcl
 have HB7 := Lib.hid hb7
 clear hown7 hgrow7 hb7 hs7 hcl D3 D4 D5 HO6 HQ6 HB6
 go_wp2_with fail
 refine HCL.out.mono ?_
 rintro e w8 ⟨hb8, ⟨hcons, rfl⟩ | ⟨_, rfl⟩⟩
 rotate_left
 ·
  have HB8 := Lib.hid (HB5.out.trans ((HB7.out.trans (hb8.mono HB7.out.size)).mono HB5.out.size))
  clear hb8
  go_wp2_with fail
  go_ret
  exact ⟨rfl, HB8.out⟩
 have HX8 := Lib.hid (HB7.out.trans (hb8.mono HB7.out.size))
 have HB8 := Lib.hid (HB5.out.trans (HX8.out.mono HB5.out.size))
 have HCN := Lib.hid hcons
 have z7 : l.length + q.length ≤ 9223372036854775807 := by have := HL2.out; have := HL4.out; omega
 have z8 : (l.length : Int) + (q.length : Int) ≤ 9223372036854775807 := by omega
 by_cases hbig : 1000 < l.length + q.length
 ·
  have d1 : (1000 : Int) < (l.length : Int) + (q.length : Int) := by omega
  have d2 : (1000 : Int) < ((l.length + q.length : Nat) : Int) := by omega
  clear hb8 hcons hbig
  go_wp2_with fail
  go_ret
  exact ⟨rfl, HB8.out⟩
 have d1 : ¬ (1000 : Int) < (l.length : Int) + (q.length : Int) := by omega
 have d2 : ¬ (1000 : Int) < ((l.length + q.length : Nat) : Int) := by omega
 have HZZ : Hid (l.length + q.length ≤ 1000) := Lib.hid (by omega)
 have HSL := Lib.hid (HS5.out.below HX8.out)
 have HSQ := Lib.hid (HQ5.out.below HX8.out)
 have HRI8 := Lib.hid ((HX8.out.block _ (lt_of_block HRI5.out)).trans HRI5.out)
 have HRJ8 := Lib.hid ((HX8.out.block _ (lt_of_block HRJ5.out)).trans HRJ5.out)
 have HLA := Lib.hid (once_law HPA.out HTA.out)
 have HLB := Lib.hid (once_law HPB.out HTB.out)
 have HIN : Hid (∃ b ∈ q, pidL b = [j0, j1, j2, j3, j4, j5, j6, j7]) := Lib.hid (by
  have h := HLB.out
  have hp := h.pos
  exact ⟨_, List.getElem_mem (show q.length - 1 < q.length by omega), (h.root _ (by omega)).2 (by omega)⟩)
 clear hb8 hcons hbig HCL HB7 HS5 HQ5 HRI5 HRJ5
 go_wp2_with fail
 refine wp_join (fun x : Option Addr × Nat × Nat × Option Addr × List Bl × Nat => [(60, .slice oa l.length oc), (61, .slice x.1 l.length x.2.1), (62, .slice oq q.length oqc), (63, .agg #[.int .u8 (j0 : Int), .int .u8 (j1 : Int), .int .u8 (j2 : Int), .int .u8 (j3 : Int), .int .u8 (j4 : Int), .int .u8 (j5 : Int), .int .u8 (j6 : Int), .int .u8 (j7 : Int)]), (64, .slice (some ⟨x.2.2.1, 0, none⟩) 1 1), (65, .tuple #[.slice x.2.2.2.1 x.2.2.2.2.1.length x.2.2.2.2.2, .int .i64 0]), (59, .tuple #[.slice x.2.2.2.1 x.2.2.2.2.1.length x.2.2.2.2.2, .int .i64 0]), (66, .slice x.2.2.2.1 x.2.2.2.2.1.length x.2.2.2.2.2), (67, .int .i64 0), (13, .slice x.2.2.2.1 x.2.2.2.2.1.length x.2.2.2.2.2), (9, .int .i64 0)]) (fun x u => Hid (Below w8.heap.size w8 u) ∧ Hid (SAt 2 blC u x.2.2.2.1 x.2.2.2.2.1) ∧ (x.2.2.2.2.1.length ≤ x.2.2.2.2.2 ∧ x.2.2.2.2.1.length ≤ 1000) ∧ Hid (Sends (l.map pidL) q [j0, j1, j2, j3, j4, j5, j6, j7] x.2.2.2.2.1)) ?_ ?_
 ·
  refine wp_region_noPanic ?_
  refine wp_region_held_drew (S := fun u => Below w8.heap.size w8 u) (by kernel_rfl) (Below.refl _ _).drew (fun hS0 => ?_)
  have HS0 := Lib.hid hS0
  clear hS0
  refine take_val 0 (.slice oa l.length oc) rfl (by kernel_rfl) (by kernel_rfl) (by kernel_rfl) (fun _ _ _ _ h => h) (by rfl) rfl (fun wz hS => by go_simp) HS0.out ?_
  try simp only [List.set_cons_zero, List.set_cons_succ]
  refine take_val 2 (.slice oq q.length oqc) rfl (by kernel_rfl) (by kernel_rfl) (by kernel_rfl) (fun _ _ _ _ h => h) (by rfl) rfl (fun wz hS => by go_simp) HS0.out ?_
  try simp only [List.set_cons_zero, List.set_cons_succ]
  refine take_row 3 (cs := [.int .u8 (j0 : Int), .int .u8 (j1 : Int), .int .u8 (j2 : Int), .int .u8 (j3 : Int), .int .u8 (j4 : Int), .int .u8 (j5 : Int), .int .u8 (j6 : Int), .int .u8 (j7 : Int)]) rfl (by kernel_rfl) (by kernel_rfl) (by kernel_rfl) (fun _ _ _ _ h => h) (by rfl) rfl rfl rfl (fun u hS => row_rangeA ((hS.block _ (lt_of_block HRJ8.out)).trans HRJ8.out)) HUT.out rfl HICT.out HS0.out ?_
  try simp only [List.set_cons_zero, List.set_cons_succ]
  generalize w8.drew = v0 at *
  refine two_ready 1 4 (by kernel_rfl) rfl rfl (by rfl) (by rfl) (fun KQ hK => ?_) (fun KQ hK => ?_)
  ·
   refine wp_call_run (f := 39) (args := #[.slice oa l.length oc]) (by kernel_rfl) (idsOf_any oa oc l v0 (HSL.out.below HS0.out) (by have := HZZ.out; omega)) ?_
   rintro e u1 ⟨hbu, ia, ic, rfl, hown⟩
   refine ⟨_, rfl, ?_⟩
   have HSu1 := Lib.hid (HS0.out.trans (hbu.mono HS0.out.size))
   have HIO := Lib.hid (IofEnd.sat hown)
   clear hbu hown
   refine hK.out _ _ HSu1.out ?_
   clear hK KQ
   try simp only [Act.put, List.setIfInBounds_toArray]
   try simp only [List.set_cons_zero, List.set_cons_succ]
   refine one_ready 4 (by kernel_rfl) rfl (by rfl) (fun KQ hK => ?_)
   have hba := (Below.refl u1.heap.size u1).alloc (Nat.le_refl _) (.cells #[.int .u8 (j0 : Int), .int .u8 (j1 : Int), .int .u8 (j2 : Int), .int .u8 (j3 : Int), .int .u8 (j4 : Int), .int .u8 (j5 : Int), .int .u8 (j6 : Int), .int .u8 (j7 : Int)] 30)
   have hna := heap_alloc_new u1 (.cells #[.int .u8 (j0 : Int), .int .u8 (j1 : Int), .int .u8 (j2 : Int), .int .u8 (j3 : Int), .int .u8 (j4 : Int), .int .u8 (j5 : Int), .int .u8 (j6 : Int), .int .u8 (j7 : Int)] 30)
   have HSu2 := Lib.hid (HSu1.out.trans (hba.mono HSu1.out.size))
   have HIO2 := Lib.hid (HIO.out.below hba)
   have HRY := Lib.hid hna
   clear hba hna
   go_simp
   refine hK.out _ _ HSu2.out ?_
   clear hK KQ
   try simp only [Act.put, List.setIfInBounds_toArray]
   try simp only [List.set_cons_zero, List.set_cons_succ]
   generalize hu2 : u1.alloc (.cells #[.int .u8 (j0 : Int), .int .u8 (j1 : Int), .int .u8 (j2 : Int), .int .u8 (j3 : Int), .int .u8 (j4 : Int), .int .u8 (j5 : Int), .int .u8 (j6 : Int), .int .u8 (j7 : Int)] 30) = u2 at *
   clear hu2
   refine one_ready 5 (by kernel_rfl) rfl (by rfl) (fun KQ hK => ?_)
   refine wp_call_run (f := 38) (args := #[.slice ia l.length ic, .slice oq q.length oqc, .slice (some ⟨u1.heap.size, 0, none⟩) 1 1]) (by kernel_rfl) (plan_sent_any ia oq (some ⟨u1.heap.size, 0, none⟩) ic oqc 1 l q [j0, j1, j2, j3, j4, j5, j6, j7] u2 HIO2.out (HSQ.out.below HSu2.out) (sat_oneK (lt_of_block HRY.out) (row_rangeA HRY.out)) rfl HLB.out.plm HZZ.out HIN.out (HT.out.below (HB8.out.trans (HSu2.out.mono HB8.out.size)))) ?_
   rintro e wz ⟨hbz, N, pa, pc, rfl, hsn, hnc, hnz, hsd⟩
   refine ⟨_, rfl, ?_⟩
   have HSz := Lib.hid (HSu2.out.trans (hbz.mono HSu2.out.size))
   have HSN := Lib.hid hsn
   have HSD := Lib.hid hsd
   have HNZ := Lib.hid (And.intro hnc hnz)
   clear hbz hsn hnc hnz hsd
   refine hK.out _ _ HSz.out ?_
   clear hK KQ
   try simp only [Act.put, List.setIfInBounds_toArray]
   try simp only [List.set_cons_zero, List.set_cons_succ]
   refine take_val 6 (.tuple #[.slice pa N.length pc, .int .i64 0]) rfl (by kernel_rfl) (by kernel_rfl) (by kernel_rfl) (fun _ _ _ _ h => h) (by rfl) rfl (fun wz hS => by go_simp) HSz.out ?_
   try simp only [List.set_cons_zero, List.set_cons_succ]
   refine take_val 7 (.slice pa N.length pc) rfl (by kernel_rfl) (by kernel_rfl) (by kernel_rfl) (fun _ _ _ _ h => h) (by rfl) rfl (fun wz hS => by go_simp) HSz.out ?_
   try simp only [List.set_cons_zero, List.set_cons_succ]
   refine take_val 8 (.int .i64 0) rfl (by kernel_rfl) (by kernel_rfl) (by kernel_rfl) (fun _ _ _ _ h => h) (by rfl) rfl (fun wz hS => by go_simp) HSz.out ?_
   try simp only [List.set_cons_zero, List.set_cons_succ]
   refine take_val 9 (.slice pa N.length pc) rfl (by kernel_rfl) (by kernel_rfl) (by kernel_rfl) (fun _ _ _ _ h => h) (by rfl) rfl (fun wz hS => by go_simp) HSz.out ?_
   try simp only [List.set_cons_zero, List.set_cons_succ]
   refine take_val 10 (.int .i64 0) rfl (by kernel_rfl) (by kernel_rfl) (by kernel_rfl) (fun _ _ _ _ h => h) (by rfl) rfl (fun wz hS => by go_simp) HSz.out ?_
   try simp only [List.set_cons_zero, List.set_cons_succ]
   refine wpAnyH_done (by kernel_rfl) ?_ _
   refine NoPanic.normal ?_
   exact ⟨rfl, (ia, ic, u1.heap.size, pa, N, pc), by kernel_rfl, HSz, HSN, HNZ.out, HSD⟩
  ·
   have hba := (Below.refl v0.heap.size v0).alloc (Nat.le_refl _) (.cells #[.int .u8 (j0 : Int), .int .u8 (j1 : Int), .int .u8 (j2 : Int), .int .u8 (j3 : Int), .int .u8 (j4 : Int), .int .u8 (j5 : Int), .int .u8 (j6 : Int), .int .u8 (j7 : Int)] 30)
   have hna := heap_alloc_new v0 (.cells #[.int .u8 (j0 : Int), .int .u8 (j1 : Int), .int .u8 (j2 : Int), .int .u8 (j3 : Int), .int .u8 (j4 : Int), .int .u8 (j5 : Int), .int .u8 (j6 : Int), .int .u8 (j7 : Int)] 30)
   have HSu1 := Lib.hid (HS0.out.trans (hba.mono HS0.out.size))
   have HRY := Lib.hid hna
   clear hba hna
   go_simp
   refine hK.out _ _ HSu1.out ?_
   clear hK KQ
   try simp only [Act.put, List.setIfInBounds_toArray]
   try simp only [List.set_cons_zero, List.set_cons_succ]
   generalize hu1 : v0.alloc (.cells #[.int .u8 (j0 : Int), .int .u8 (j1 : Int), .int .u8 (j2 : Int), .int .u8 (j3 : Int), .int .u8 (j4 : Int), .int .u8 (j5 : Int), .int .u8 (j6 : Int), .int .u8 (j7 : Int)] 30) = u1 at *
   clear hu1
   refine one_ready 1 (by kernel_rfl) rfl (by rfl) (fun KQ hK => ?_)
   refine wp_call_run (f := 39) (args := #[.slice oa l.length oc]) (by kernel_rfl) (idsOf_any oa oc l u1 (HSL.out.below HSu1.out) (by have := HZZ.out; omega)) ?_
   rintro e u2 ⟨hbu, ia, ic, rfl, hown⟩
   refine ⟨_, rfl, ?_⟩
   have HSu2 := Lib.hid (HSu1.out.trans (hbu.mono HSu1.out.size))
   have HIO2 := Lib.hid (IofEnd.sat hown)
   have HRY2 := Lib.hid ((hbu.block _ (lt_of_block HRY.out)).trans HRY.out)
   clear hbu hown
   refine hK.out _ _ HSu2.out ?_
   clear hK KQ
   try simp only [Act.put, List.setIfInBounds_toArray]
   try simp only [List.set_cons_zero, List.set_cons_succ]
   refine one_ready 5 (by kernel_rfl) rfl (by rfl) (fun KQ hK => ?_)
   refine wp_call_run (f := 38) (args := #[.slice ia l.length ic, .slice oq q.length oqc, .slice (some ⟨v0.heap.size, 0, none⟩) 1 1]) (by kernel_rfl) (plan_sent_any ia oq (some ⟨v0.heap.size, 0, none⟩) ic oqc 1 l q [j0, j1, j2, j3, j4, j5, j6, j7] u2 HIO2.out (HSQ.out.below HSu2.out) (sat_oneK (lt_of_block HRY2.out) (row_rangeA HRY2.out)) rfl HLB.out.plm HZZ.out HIN.out (HT.out.below (HB8.out.trans (HSu2.out.mono HB8.out.size)))) ?_
   rintro e wz ⟨hbz, N, pa, pc, rfl, hsn, hnc, hnz, hsd⟩
   refine ⟨_, rfl, ?_⟩
   have HSz := Lib.hid (HSu2.out.trans (hbz.mono HSu2.out.size))
   have HSN := Lib.hid hsn
   have HSD := Lib.hid hsd
   have HNZ := Lib.hid (And.intro hnc hnz)
   clear hbz hsn hnc hnz hsd
   refine hK.out _ _ HSz.out ?_
   clear hK KQ
   try simp only [Act.put, List.setIfInBounds_toArray]
   try simp only [List.set_cons_zero, List.set_cons_succ]
   refine take_val 6 (.tuple #[.slice pa N.length pc, .int .i64 0]) rfl (by kernel_rfl) (by kernel_rfl) (by kernel_rfl) (fun _ _ _ _ h => h) (by rfl) rfl (fun wz hS => by go_simp) HSz.out ?_
   try simp only [List.set_cons_zero, List.set_cons_succ]
   refine take_val 7 (.slice pa N.length pc) rfl (by kernel_rfl) (by kernel_rfl) (by kernel_rfl) (fun _ _ _ _ h => h) (by rfl) rfl (fun wz hS => by go_simp) HSz.out ?_
   try simp only [List.set_cons_zero, List.set_cons_succ]
   refine take_val 8 (.int .i64 0) rfl (by kernel_rfl) (by kernel_rfl) (by kernel_rfl) (fun _ _ _ _ h => h) (by rfl) rfl (fun wz hS => by go_simp) HSz.out ?_
   try simp only [List.set_cons_zero, List.set_cons_succ]
   refine take_val 9 (.slice pa N.length pc) rfl (by kernel_rfl) (by kernel_rfl) (by kernel_rfl) (fun _ _ _ _ h => h) (by rfl) rfl (fun wz hS => by go_simp) HSz.out ?_
   try simp only [List.set_cons_zero, List.set_cons_succ]
   refine take_val 10 (.int .i64 0) rfl (by kernel_rfl) (by kernel_rfl) (by kernel_rfl) (fun _ _ _ _ h => h) (by rfl) rfl (fun wz hS => by go_simp) HSz.out ?_
   try simp only [List.set_cons_zero, List.set_cons_succ]
   refine wpAnyH_done (by kernel_rfl) ?_ _
   refine NoPanic.normal ?_
   exact ⟨rfl, (ia, ic, v0.heap.size, pa, N, pc), by kernel_rfl, HSz, HSN, HNZ.out, HSD⟩
 ·
  skip
  rintro ⟨ia, ic, gy, pa, N, pc⟩ u9 ⟨HS9, HSN, hnz, HSD⟩
  simp only [setAll, List.zip_cons_cons, List.zip_nil_right, List.foldl_cons, List.foldl_nil, List.set_cons_zero, List.set_cons_succ]
  go_wp2_with fail
  have HEN := Lib.hid (enough_law HPA.out HPB.out HTA.out HTB.out HCN.out HSD.out)
  have HUB := Lib.hid Tryz.underlying37
  have HICB : Hid ((Tryz.prog.info? 37).map (·.size) = some 2) := by show _ = _; kernel_rfl
  obtain ⟨hnc, hnz2⟩ := hnz
  go_loopw [72] (fun iv wr => ∃ i : Nat, i ≤ N.length ∧ iv = .int .i64 (i : Int) ∧ Hid (Below u9.heap.size u9 wr)) (fun iv _ => N.length - (intOf iv).toNat)
  case atStart => exact ⟨0, Nat.zero_le _, rfl, Lib.hid (Below.refl _ _)⟩
  case round =>
   obtain ⟨i, hi, rfl, HBR⟩ := hrel
   by_cases hlt : i < N.length
   ·
    have m1 : (i : Int) < (N.length : Int) := by omega
    obtain ⟨g, off, rfl, hg, hr⟩ := (HSN.out.below HBR.out) i hlt
    have hN := HSN.out
    have hk1 : N[i] ∉ l := HEN.out.old _ (List.getElem_mem hlt)
    have hk2 : N[i] ∉ N.take i := fun h => by
     obtain ⟨j, hj, e⟩ := List.mem_iff_getElem.1 h
     have hj2 : j < i := by rw [List.length_take] at hj; omega
     rw [List.getElem_take] at e
     have := nodup_at HEN.out.nodup (by omega) hlt e
     omega
    have hk3 : N[i] ∈ q := HEN.out.from_ _ (List.getElem_mem hlt)
    have htl : (N.take i).length = i := by rw [List.length_take]; omega
    have hst : SAt 2 blC wr (some ⟨g, off, none⟩) (N.take i) := fun j hj => by
     have hj2 : j < i := by omega
     obtain ⟨g2, off2, h1, h2, h3⟩ := (HSN.out.below HBR.out) j (by omega)
     refine ⟨g2, off2, h1, h2, ?_⟩
     rw [List.getElem_take]
     exact h3
    generalize N[i] = bl at *
    obtain ⟨k, s⟩ := bl
    have r0 : wr.cell? ⟨g, off + i * 2, none⟩ = some (.int .i64 k) := hr 0 _ rfl
    have r1 : wr.cell? ⟨g, off + i * 2 + 1, none⟩ = some (.string s) := hr 1 _ rfl
    have HLT := Lib.hid hlt
    have HXN := Lib.hid (heap_alloc_new wr (.cells #[.int .i64 k, .string s] 37))
    have HBN := Lib.hid ((Below.refl wr.heap.size wr).alloc (Nat.le_refl _) (.cells #[.int .i64 k, .string s] 37))
    have k1 : (0 : Int) ≤ (i : Int) := Int.natCast_nonneg _
    have k2 : (i : Int) ≤ (pc : Int) := by omega
    have C1 : Hid (∀ u, (u.heap[wr.heap.size]? = some (.cells #[.int .i64 k, .string s] 37 (0, 0)) ∧ Below wr.heap.size wr u) → Calls Tryz.prog 22 #[.slice oa l.length oc, .agg #[.int .i64 k, .string s]] u fun e w' => e = .returned (.bool false) ∧ (w'.heap[wr.heap.size]? = some (.cells #[.int .i64 k, .string s] 37 (0, 0)) ∧ Below wr.heap.size wr w')) := Lib.hid fun u hu => by
     refine (containsBl_any oa oc l (k, s) u ((HSL.out.below (HS9.out.trans (HBR.out.mono HS9.out.size))).below hu.2) (by omega)).mono ?_
     rintro e w' ⟨⟨r, rfl, hr⟩, hb⟩
     have hr2 : r = false := by
      cases r with | false => rfl | true => exact absurd (hr.1 rfl) hk1
     subst hr2
     exact ⟨rfl, (hb.block _ (lt_of_block hu.1)).trans hu.1, hu.2.trans (hb.mono hu.2.size)⟩
    have C2 : Hid (∀ u, (u.heap[wr.heap.size]? = some (.cells #[.int .i64 k, .string s] 37 (0, 0)) ∧ Below wr.heap.size wr u) → Calls Tryz.prog 22 #[.slice (some ⟨g, off, none⟩) i pc, .agg #[.int .i64 k, .string s]] u fun e w' => e = .returned (.bool false) ∧ (w'.heap[wr.heap.size]? = some (.cells #[.int .i64 k, .string s] 37 (0, 0)) ∧ Below wr.heap.size wr w')) := Lib.hid fun u hu => by
     have hcc := (by have h := containsBl_any (some ⟨g, off, none⟩) pc (N.take i) (k, s) u (hst.below hu.2) (by omega); rw [htl] at h; exact h : Calls Tryz.prog 22 #[.slice (some ⟨g, off, none⟩) i pc, .agg (blC (k, s)).toArray] u fun e w' => (∃ r : Bool, e = .returned (.bool r) ∧ (r = true ↔ (k, s) ∈ N.take i)) ∧ Below u.heap.size u w')
     refine hcc.mono ?_
     rintro e w' ⟨⟨r, rfl, hr⟩, hb⟩
     have hr2 : r = false := by
      cases r with | false => rfl | true => exact absurd (hr.1 rfl) hk2
     subst hr2
     exact ⟨rfl, (hb.block _ (lt_of_block hu.1)).trans hu.1, hu.2.trans (hb.mono hu.2.size)⟩
    have C3 : Hid (∀ u, (u.heap[wr.heap.size]? = some (.cells #[.int .i64 k, .string s] 37 (0, 0)) ∧ Below wr.heap.size wr u) → Calls Tryz.prog 22 #[.slice oq q.length oqc, .agg #[.int .i64 k, .string s]] u fun e w' => e = .returned (.bool true) ∧ (w'.heap[wr.heap.size]? = some (.cells #[.int .i64 k, .string s] 37 (0, 0)) ∧ Below wr.heap.size wr w')) := Lib.hid fun u hu => by
     refine (containsBl_any oq oqc q (k, s) u ((HSQ.out.below (HS9.out.trans (HBR.out.mono HS9.out.size))).below hu.2) (by omega)).mono ?_
     rintro e w' ⟨⟨r, rfl, hr⟩, hb⟩
     have hr2 : r = true := by
      exact hr.2 hk3
     subst hr2
     exact ⟨rfl, (hb.block _ (lt_of_block hu.1)).trans hu.1, hu.2.trans (hb.mono hu.2.size)⟩
    clear hr hg hN hk1 hk2 hk3 htl hst hlt
    go_wp2_with fail
    refine wp_region_noPanic ?_
    refine wp_region_held_drew (S := fun u => u.heap[wr.heap.size]? = some (.cells #[.int .i64 k, .string s] 37 (0, 0)) ∧ Below wr.heap.size wr u) (by kernel_rfl) ⟨HXN.out, HBN.out.drew⟩ (fun hS0 => ?_)
    have HS0 := Lib.hid hS0
    clear hS0
    refine take_val 0 (.slice oa l.length oc) rfl (by kernel_rfl) (by kernel_rfl) (by kernel_rfl) (fun _ _ _ _ h => h) (by rfl) rfl (fun wz hS => by go_simp) HS0.out ?_
    try simp only [List.set_cons_zero, List.set_cons_succ]
    refine take_row 1 (cs := [.int .i64 k, .string s]) rfl (by kernel_rfl) (by kernel_rfl) (by kernel_rfl) (fun _ _ _ _ h => h) (by rfl) rfl rfl rfl (fun u hS => row_rangeA hS.1) HUB.out rfl HICB.out HS0.out ?_
    try simp only [List.set_cons_zero, List.set_cons_succ]
    refine take_call 2 (.bool false) (by kernel_rfl) rfl (by rfl) rfl (by go_simp) (C1.out _ HS0.out) ?_
    clear HS0
    intro u1 hS1
    have HS0 := Lib.hid hS1
    clear hS1
    try simp only [List.set_cons_zero, List.set_cons_succ]
    refine take_val 3 (.bool false) rfl (by kernel_rfl) (by kernel_rfl) (by kernel_rfl) (fun _ _ _ _ h => h) (by rfl) rfl (fun wz hS => by go_simp) HS0.out ?_
    try simp only [List.set_cons_zero, List.set_cons_succ]
    refine take_val 4 (.slice (some ⟨g, off, none⟩) N.length pc) rfl (by kernel_rfl) (by kernel_rfl) (by kernel_rfl) (fun _ _ _ _ h => h) (by rfl) rfl (fun wz hS => by go_simp) HS0.out ?_
    try simp only [List.set_cons_zero, List.set_cons_succ]
    refine take_val 5 (.int .i64 (i : Int)) rfl (by kernel_rfl) (by kernel_rfl) (by kernel_rfl) (fun _ _ _ _ h => h) (by rfl) rfl (fun wz hS => by go_simp) HS0.out ?_
    try simp only [List.set_cons_zero, List.set_cons_succ]
    refine take_val 6 (.slice (some ⟨g, off, none⟩) i pc) rfl (by kernel_rfl) (by kernel_rfl) (by kernel_rfl) (fun _ _ _ _ h => h) (by rfl) rfl (fun wz hS => by go_simp) HS0.out ?_
    try simp only [List.set_cons_zero, List.set_cons_succ]
    refine take_row 7 (cs := [.int .i64 k, .string s]) rfl (by kernel_rfl) (by kernel_rfl) (by kernel_rfl) (fun _ _ _ _ h => h) (by rfl) rfl rfl rfl (fun u hS => row_rangeA hS.1) HUB.out rfl HICB.out HS0.out ?_
    try simp only [List.set_cons_zero, List.set_cons_succ]
    refine take_call 8 (.bool false) (by kernel_rfl) rfl (by rfl) rfl (by go_simp) (C2.out _ HS0.out) ?_
    clear HS0
    intro u2 hS2
    have HS0 := Lib.hid hS2
    clear hS2
    try simp only [List.set_cons_zero, List.set_cons_succ]
    refine take_val 9 (.bool false) rfl (by kernel_rfl) (by kernel_rfl) (by kernel_rfl) (fun _ _ _ _ h => h) (by rfl) rfl (fun wz hS => by go_simp) HS0.out ?_
    try simp only [List.set_cons_zero, List.set_cons_succ]
    refine take_val 10 (.bool false) rfl (by kernel_rfl) (by kernel_rfl) (by kernel_rfl) (fun _ _ _ _ h => h) (by rfl) rfl (fun wz hS => by go_simp) HS0.out ?_
    try simp only [List.set_cons_zero, List.set_cons_succ]
    refine take_val 11 (.slice oq q.length oqc) rfl (by kernel_rfl) (by kernel_rfl) (by kernel_rfl) (fun _ _ _ _ h => h) (by rfl) rfl (fun wz hS => by go_simp) HS0.out ?_
    try simp only [List.set_cons_zero, List.set_cons_succ]
    refine take_row 12 (cs := [.int .i64 k, .string s]) rfl (by kernel_rfl) (by kernel_rfl) (by kernel_rfl) (fun _ _ _ _ h => h) (by rfl) rfl rfl rfl (fun u hS => row_rangeA hS.1) HUB.out rfl HICB.out HS0.out ?_
    try simp only [List.set_cons_zero, List.set_cons_succ]
    refine take_call 13 (.bool true) (by kernel_rfl) rfl (by rfl) rfl (by go_simp) (C3.out _ HS0.out) ?_
    clear HS0
    intro u3 hS3
    have HS0 := Lib.hid hS3
    clear hS3
    try simp only [List.set_cons_zero, List.set_cons_succ]
    refine take_val 14 (.bool false) rfl (by kernel_rfl) (by kernel_rfl) (by kernel_rfl) (fun _ _ _ _ h => h) (by rfl) rfl (fun wz hS => by go_simp) HS0.out ?_
    try simp only [List.set_cons_zero, List.set_cons_succ]
    refine take_val 15 (.bool false) rfl (by kernel_rfl) (by kernel_rfl) (by kernel_rfl) (fun _ _ _ _ h => h) (by rfl) rfl (fun wz hS => by go_simp) HS0.out ?_
    try simp only [List.set_cons_zero, List.set_cons_succ]
    refine wpAnyH_done (by kernel_rfl) ?_ _
    refine NoPanic.normal ?_
    have HBZ := Lib.hid (HBR.out.trans (HS0.out.2.mono HBR.out.size))
    clear HS0 HXN HBN C1 C2 C3
    go_wp2_with fail
    go_roundw
    case rel => exact ⟨i + 1, HLT.out, by go_num, HBZ⟩
    case measure => simp [intOf]; have := HLT.out; omega
   ·
    have m1 : ¬ (i : Int) < (N.length : Int) := by omega
    go_wp2_with fail
    have HG := Lib.hid (HS9.out.trans (HBR.out.mono HS9.out.size))
    have HBW := Lib.hid (HB8.out.trans (HG.out.mono HB8.out.size))
    have z1 : l.length + N.length ≤ 1000 := by have := HEN.out.len; have := HZZ.out; omega
    have hinto := into_sent_any oa pa oc pc l q N [j0, j1, j2, j3, j4, j5, j6, j7] wr (HSL.out.below HG.out) (HSN.out.below HBR.out) HLA.out.plm HLB.out.plm HSD.out z1 (HT.out.below HBW.out)
    have hcns := HEN.out.cons
    have htla := HEN.out.tellA
    have htlb := HEN.out.tellB
    have hrt := HEN.out.root
    obtain ⟨al, hal⟩ : ∃ al, l ++ N = al := ⟨_, rfl⟩
    have hall : al.length = l.length + N.length := by rw [← hal, List.length_append]
    rw [hal] at hinto hcns htla htlb hrt
    have HCA := Lib.hid hcns
    have HTLA := Lib.hid htla
    have HTLB := Lib.hid htlb
    have HRT := Lib.hid hrt
    clear hal hcns htla htlb hrt
    refine hinto.mono ?_
    rintro e wA ⟨hbA, xa, xc, rfl, hsA⟩
    have HBA := Lib.hid (HBW.out.trans (hbA.mono HBW.out.size))
    have HXA := Lib.hid hsA
    have HGA := Lib.hid (HG.out.trans (hbA.mono HG.out.size))
    have hriA := (HGA.out.block _ (lt_of_block HRI8.out)).trans HRI8.out
    have p0 := cell_of_row _ _ 0 _ _ _ hriA
    have p1 := cell_of_row _ _ 1 _ _ _ hriA
    have p2 := cell_of_row _ _ 2 _ _ _ hriA
    have p3 := cell_of_row _ _ 3 _ _ _ hriA
    have p4 := cell_of_row _ _ 4 _ _ _ hriA
    have p5 := cell_of_row _ _ 5 _ _ _ hriA
    have p6 := cell_of_row _ _ 6 _ _ _ hriA
    have p7 := cell_of_row _ _ 7 _ _ _ hriA
    simp only [List.getElem?_toArray, List.getElem?_cons_zero, List.getElem?_cons_succ] at p0 p1 p2 p3 p4 p5 p6 p7
    have f1 : ((al.length : Int) != (l.length : Int) + (N.length : Int)) = false := by simp [hall]
    have HAL : Hid (al.length ≤ 1000) := Lib.hid (by omega)
    have z2 : (l.length : Int) + (N.length : Int) ≤ 1000 := by omega
    clear hbA hsA hriA hinto HG HSN HSD hall
    go_wp2_with fail
    clear p0 p1 p2 p3 p4 p5 p6 p7
    refine (reap_any xa xc al i0 i1 i2 i3 i4 i5 i6 i7 la wA HXA.out HAL.out HCA.out HTLA.out HPA.out.len (HT.out.below HBA.out)).mono ?_
    rintro e wB ⟨hbB, ra, rc, rfl, howB⟩
    have HBB := Lib.hid (HBA.out.trans (hbB.mono HBA.out.size))
    have HXB := Lib.hid (HXA.out.below hbB)
    have HGB := Lib.hid (HGA.out.trans (hbB.mono HGA.out.size))
    have HRA := Lib.hid (own_satW iC_length howB)
    have hrjB := (HGB.out.block _ (lt_of_block HRJ8.out)).trans HRJ8.out
    have p0 := cell_of_row _ _ 0 _ _ _ hrjB
    have p1 := cell_of_row _ _ 1 _ _ _ hrjB
    have p2 := cell_of_row _ _ 2 _ _ _ hrjB
    have p3 := cell_of_row _ _ 3 _ _ _ hrjB
    have p4 := cell_of_row _ _ 4 _ _ _ hrjB
    have p5 := cell_of_row _ _ 5 _ _ _ hrjB
    have p6 := cell_of_row _ _ 6 _ _ _ hrjB
    have p7 := cell_of_row _ _ 7 _ _ _ hrjB
    simp only [List.getElem?_toArray, List.getElem?_cons_zero, List.getElem?_cons_succ] at p0 p1 p2 p3 p4 p5 p6 p7
    clear hbB howB hrjB HXA HGA
    go_wp2_with fail
    clear p0 p1 p2 p3 p4 p5 p6 p7
    refine (reap_any xa xc al j0 j1 j2 j3 j4 j5 j6 j7 lb wB HXB.out HAL.out HCA.out HTLB.out HPB.out.len (HT.out.below HBB.out)).mono ?_
    rintro e wC ⟨hbC, rb, rd, rfl, howC⟩
    have HBC := Lib.hid (HBB.out.trans (hbC.mono HBB.out.size))
    have HXC := Lib.hid (HXB.out.below hbC)
    have HGC := Lib.hid (HGB.out.trans (hbC.mono HGB.out.size))
    have HRA2 := Lib.hid (HRA.out.below hbC)
    have HRB := Lib.hid (own_satW iC_length howC)
    have HSQC := Lib.hid (HSQ.out.below HGC.out)
    have HRJC := Lib.hid ((HGC.out.block _ (lt_of_block HRJ8.out)).trans HRJ8.out)
    clear hbC howC HXB HGB HRA
    go_wp2_with fail
    refine wp_join (fun x : Option Addr × Nat × Nat × Option Addr × Nat => [(125, .slice xa al.length xc), (126, .slice x.1 al.length x.2.1), (127, .slice oq q.length oqc), (128, .agg #[.int .u8 (j0 : Int), .int .u8 (j1 : Int), .int .u8 (j2 : Int), .int .u8 (j3 : Int), .int .u8 (j4 : Int), .int .u8 (j5 : Int), .int .u8 (j6 : Int), .int .u8 (j7 : Int)]), (129, .slice (some ⟨x.2.2.1, 0, none⟩) 1 1), (130, .tuple #[.slice x.2.2.2.1 0 x.2.2.2.2, .int .i64 0]), (124, .tuple #[.slice x.2.2.2.1 0 x.2.2.2.2, .int .i64 0]), (131, .slice x.2.2.2.1 0 x.2.2.2.2), (132, .int .i64 0), (20, .slice x.2.2.2.1 0 x.2.2.2.2), (21, .int .i64 0)]) (fun x u => Hid (Below wC.heap.size wC u)) ?_ ?_
    ·
     refine wp_region_noPanic ?_
     refine wp_region_held_drew (S := fun u => Below wC.heap.size wC u) (by kernel_rfl) (Below.refl _ _).drew (fun hS0 => ?_)
     have HS0 := Lib.hid hS0
     clear hS0
     refine take_val 0 (.slice xa al.length xc) rfl (by kernel_rfl) (by kernel_rfl) (by kernel_rfl) (fun _ _ _ _ h => h) (by rfl) rfl (fun wz hS => by go_simp) HS0.out ?_
     try simp only [List.set_cons_zero, List.set_cons_succ]
     refine take_val 2 (.slice oq q.length oqc) rfl (by kernel_rfl) (by kernel_rfl) (by kernel_rfl) (fun _ _ _ _ h => h) (by rfl) rfl (fun wz hS => by go_simp) HS0.out ?_
     try simp only [List.set_cons_zero, List.set_cons_succ]
     refine take_row 3 (cs := [.int .u8 (j0 : Int), .int .u8 (j1 : Int), .int .u8 (j2 : Int), .int .u8 (j3 : Int), .int .u8 (j4 : Int), .int .u8 (j5 : Int), .int .u8 (j6 : Int), .int .u8 (j7 : Int)]) rfl (by kernel_rfl) (by kernel_rfl) (by kernel_rfl) (fun _ _ _ _ h => h) (by rfl) rfl rfl rfl (fun u hS => row_rangeA ((hS.block _ (lt_of_block HRJC.out)).trans HRJC.out)) HUT.out rfl HICT.out HS0.out ?_
     try simp only [List.set_cons_zero, List.set_cons_succ]
     generalize wC.drew = v0 at *
     refine two_ready 1 4 (by kernel_rfl) rfl rfl (by rfl) (by rfl) (fun KQ hK => ?_) (fun KQ hK => ?_)
     ·
      refine wp_call_run (f := 39) (args := #[.slice xa al.length xc]) (by kernel_rfl) (idsOf_any xa xc al v0 (HXC.out.below HS0.out) (by have := HAL.out; omega)) ?_
      rintro e u1 ⟨hbu, ia, ic, rfl, hown⟩
      refine ⟨_, rfl, ?_⟩
      have HSu1 := Lib.hid (HS0.out.trans (hbu.mono HS0.out.size))
      have HIO := Lib.hid (IofEnd.sat hown)
      clear hbu hown
      refine hK.out _ _ HSu1.out ?_
      clear hK KQ
      try simp only [Act.put, List.setIfInBounds_toArray]
      try simp only [List.set_cons_zero, List.set_cons_succ]
      refine one_ready 4 (by kernel_rfl) rfl (by rfl) (fun KQ hK => ?_)
      have hba := (Below.refl u1.heap.size u1).alloc (Nat.le_refl _) (.cells #[.int .u8 (j0 : Int), .int .u8 (j1 : Int), .int .u8 (j2 : Int), .int .u8 (j3 : Int), .int .u8 (j4 : Int), .int .u8 (j5 : Int), .int .u8 (j6 : Int), .int .u8 (j7 : Int)] 30)
      have hna := heap_alloc_new u1 (.cells #[.int .u8 (j0 : Int), .int .u8 (j1 : Int), .int .u8 (j2 : Int), .int .u8 (j3 : Int), .int .u8 (j4 : Int), .int .u8 (j5 : Int), .int .u8 (j6 : Int), .int .u8 (j7 : Int)] 30)
      have HSu2 := Lib.hid (HSu1.out.trans (hba.mono HSu1.out.size))
      have HIO2 := Lib.hid (HIO.out.below hba)
      have HRY := Lib.hid hna
      clear hba hna
      go_simp
      refine hK.out _ _ HSu2.out ?_
      clear hK KQ
      try simp only [Act.put, List.setIfInBounds_toArray]
      try simp only [List.set_cons_zero, List.set_cons_succ]
      generalize hu2 : u1.alloc (.cells #[.int .u8 (j0 : Int), .int .u8 (j1 : Int), .int .u8 (j2 : Int), .int .u8 (j3 : Int), .int .u8 (j4 : Int), .int .u8 (j5 : Int), .int .u8 (j6 : Int), .int .u8 (j7 : Int)] 30) = u2 at *
      clear hu2
      refine one_ready 5 (by kernel_rfl) rfl (by rfl) (fun KQ hK => ?_)
      refine wp_call_run (f := 38) (args := #[.slice ia al.length ic, .slice oq q.length oqc, .slice (some ⟨u1.heap.size, 0, none⟩) 1 1]) (by kernel_rfl) (plan_seen_any ia oq (some ⟨u1.heap.size, 0, none⟩) ic oqc 1 al q [j0, j1, j2, j3, j4, j5, j6, j7] u2 HIO2.out (HSQC.out.below HSu2.out) (sat_oneK (lt_of_block HRY.out) (row_rangeA HRY.out)) rfl HLB.out.ids.cons HAL.out (by have := HZZ.out; omega) HRT.out (HT.out.below (HBC.out.trans (HSu2.out.mono HBC.out.size)))) ?_
      rintro e wz ⟨hbz, pa2, pc2, rfl⟩
      refine ⟨_, rfl, ?_⟩
      have HSz := Lib.hid (HSu2.out.trans (hbz.mono HSu2.out.size))
      clear hbz
      refine hK.out _ _ HSz.out ?_
      clear hK KQ
      try simp only [Act.put, List.setIfInBounds_toArray]
      try simp only [List.set_cons_zero, List.set_cons_succ]
      refine take_val 6 (.tuple #[.slice pa2 0 pc2, .int .i64 0]) rfl (by kernel_rfl) (by kernel_rfl) (by kernel_rfl) (fun _ _ _ _ h => h) (by rfl) rfl (fun wz hS => by go_simp) HSz.out ?_
      try simp only [List.set_cons_zero, List.set_cons_succ]
      refine take_val 7 (.slice pa2 0 pc2) rfl (by kernel_rfl) (by kernel_rfl) (by kernel_rfl) (fun _ _ _ _ h => h) (by rfl) rfl (fun wz hS => by go_simp) HSz.out ?_
      try simp only [List.set_cons_zero, List.set_cons_succ]
      refine take_val 8 (.int .i64 0) rfl (by kernel_rfl) (by kernel_rfl) (by kernel_rfl) (fun _ _ _ _ h => h) (by rfl) rfl (fun wz hS => by go_simp) HSz.out ?_
      try simp only [List.set_cons_zero, List.set_cons_succ]
      refine take_val 9 (.slice pa2 0 pc2) rfl (by kernel_rfl) (by kernel_rfl) (by kernel_rfl) (fun _ _ _ _ h => h) (by rfl) rfl (fun wz hS => by go_simp) HSz.out ?_
      try simp only [List.set_cons_zero, List.set_cons_succ]
      refine take_val 10 (.int .i64 0) rfl (by kernel_rfl) (by kernel_rfl) (by kernel_rfl) (fun _ _ _ _ h => h) (by rfl) rfl (fun wz hS => by go_simp) HSz.out ?_
      try simp only [List.set_cons_zero, List.set_cons_succ]
      refine wpAnyH_done (by kernel_rfl) ?_ _
      refine NoPanic.normal ?_
      exact ⟨rfl, (ia, ic, u1.heap.size, pa2, pc2), by kernel_rfl, HSz⟩
     ·
      have hba := (Below.refl v0.heap.size v0).alloc (Nat.le_refl _) (.cells #[.int .u8 (j0 : Int), .int .u8 (j1 : Int), .int .u8 (j2 : Int), .int .u8 (j3 : Int), .int .u8 (j4 : Int), .int .u8 (j5 : Int), .int .u8 (j6 : Int), .int .u8 (j7 : Int)] 30)
      have hna := heap_alloc_new v0 (.cells #[.int .u8 (j0 : Int), .int .u8 (j1 : Int), .int .u8 (j2 : Int), .int .u8 (j3 : Int), .int .u8 (j4 : Int), .int .u8 (j5 : Int), .int .u8 (j6 : Int), .int .u8 (j7 : Int)] 30)
      have HSu1 := Lib.hid (HS0.out.trans (hba.mono HS0.out.size))
      have HRY := Lib.hid hna
      clear hba hna
      go_simp
      refine hK.out _ _ HSu1.out ?_
      clear hK KQ
      try simp only [Act.put, List.setIfInBounds_toArray]
      try simp only [List.set_cons_zero, List.set_cons_succ]
      generalize hu1 : v0.alloc (.cells #[.int .u8 (j0 : Int), .int .u8 (j1 : Int), .int .u8 (j2 : Int), .int .u8 (j3 : Int), .int .u8 (j4 : Int), .int .u8 (j5 : Int), .int .u8 (j6 : Int), .int .u8 (j7 : Int)] 30) = u1 at *
      clear hu1
      refine one_ready 1 (by kernel_rfl) rfl (by rfl) (fun KQ hK => ?_)
      refine wp_call_run (f := 39) (args := #[.slice xa al.length xc]) (by kernel_rfl) (idsOf_any xa xc al u1 (HXC.out.below HSu1.out) (by have := HAL.out; omega)) ?_
      rintro e u2 ⟨hbu, ia, ic, rfl, hown⟩
      refine ⟨_, rfl, ?_⟩
      have HSu2 := Lib.hid (HSu1.out.trans (hbu.mono HSu1.out.size))
      have HIO2 := Lib.hid (IofEnd.sat hown)
      have HRY2 := Lib.hid ((hbu.block _ (lt_of_block HRY.out)).trans HRY.out)
      clear hbu hown
      refine hK.out _ _ HSu2.out ?_
      clear hK KQ
      try simp only [Act.put, List.setIfInBounds_toArray]
      try simp only [List.set_cons_zero, List.set_cons_succ]
      refine one_ready 5 (by kernel_rfl) rfl (by rfl) (fun KQ hK => ?_)
      refine wp_call_run (f := 38) (args := #[.slice ia al.length ic, .slice oq q.length oqc, .slice (some ⟨v0.heap.size, 0, none⟩) 1 1]) (by kernel_rfl) (plan_seen_any ia oq (some ⟨v0.heap.size, 0, none⟩) ic oqc 1 al q [j0, j1, j2, j3, j4, j5, j6, j7] u2 HIO2.out (HSQC.out.below HSu2.out) (sat_oneK (lt_of_block HRY2.out) (row_rangeA HRY2.out)) rfl HLB.out.ids.cons HAL.out (by have := HZZ.out; omega) HRT.out (HT.out.below (HBC.out.trans (HSu2.out.mono HBC.out.size)))) ?_
      rintro e wz ⟨hbz, pa2, pc2, rfl⟩
      refine ⟨_, rfl, ?_⟩
      have HSz := Lib.hid (HSu2.out.trans (hbz.mono HSu2.out.size))
      clear hbz
      refine hK.out _ _ HSz.out ?_
      clear hK KQ
      try simp only [Act.put, List.setIfInBounds_toArray]
      try simp only [List.set_cons_zero, List.set_cons_succ]
      refine take_val 6 (.tuple #[.slice pa2 0 pc2, .int .i64 0]) rfl (by kernel_rfl) (by kernel_rfl) (by kernel_rfl) (fun _ _ _ _ h => h) (by rfl) rfl (fun wz hS => by go_simp) HSz.out ?_
      try simp only [List.set_cons_zero, List.set_cons_succ]
      refine take_val 7 (.slice pa2 0 pc2) rfl (by kernel_rfl) (by kernel_rfl) (by kernel_rfl) (fun _ _ _ _ h => h) (by rfl) rfl (fun wz hS => by go_simp) HSz.out ?_
      try simp only [List.set_cons_zero, List.set_cons_succ]
      refine take_val 8 (.int .i64 0) rfl (by kernel_rfl) (by kernel_rfl) (by kernel_rfl) (fun _ _ _ _ h => h) (by rfl) rfl (fun wz hS => by go_simp) HSz.out ?_
      try simp only [List.set_cons_zero, List.set_cons_succ]
      refine take_val 9 (.slice pa2 0 pc2) rfl (by kernel_rfl) (by kernel_rfl) (by kernel_rfl) (fun _ _ _ _ h => h) (by rfl) rfl (fun wz hS => by go_simp) HSz.out ?_
      try simp only [List.set_cons_zero, List.set_cons_succ]
      refine take_val 10 (.int .i64 0) rfl (by kernel_rfl) (by kernel_rfl) (by kernel_rfl) (fun _ _ _ _ h => h) (by rfl) rfl (fun wz hS => by go_simp) HSz.out ?_
      try simp only [List.set_cons_zero, List.set_cons_succ]
      refine wpAnyH_done (by kernel_rfl) ?_ _
      refine NoPanic.normal ?_
      exact ⟨rfl, (ia, ic, v0.heap.size, pa2, pc2), by kernel_rfl, HSz⟩
    ·
     skip
     rintro ⟨ia3, ic3, g3, pa3, pc3⟩ uD HSX
     simp only [setAll, List.zip_cons_cons, List.zip_nil_right, List.foldl_cons, List.foldl_nil, List.set_cons_zero, List.set_cons_succ]
     have HBD := Lib.hid (HBC.out.trans (HSX.out.mono HBC.out.size))
     have HVA := Lib.hid (HRA2.out.below HSX.out)
     have HVB := Lib.hid (HRB.out.below HSX.out)
     clear HSX HRA2 HRB HBC
     go_wp2_with fail
     refine (eqIts_any ra aa rc ca la la uD HVA.out (HA.out.below HBD.out) za za).mono ?_
     rintro e uE ⟨⟨r, rfl, hr⟩, hbE⟩
     obtain rfl : r = true := hr.2 rfl
     have HBE := Lib.hid (HBD.out.trans (hbE.mono HBD.out.size))
     have HVB2 := Lib.hid (HVB.out.below hbE)
     clear hbE hr HVA HVB HBD
     go_wp2_with fail
     refine (eqIts_any rb ab rd cb lb lb uE HVB2.out (HB.out.below HBE.out) zb zb).mono ?_
     rintro e uF ⟨⟨r, rfl, hr⟩, hbF⟩
     obtain rfl : r = true := hr.2 rfl
     have HBF := Lib.hid (HBE.out.trans (hbF.mono HBE.out.size))
     clear hbF hr
     go_wp2_with fail
     go_ret
     exact ⟨rfl, HBF.out⟩
end Go.Proofs.YtbfoonfbhebhfaaGreatDoor
