/- Joined: WalkMoreW. -/
import Derived.Test.YtbfoonfbhebhfaaGreatDoorGoJ
import Derived.Test.YtbfoonfbhebhfaaGreatDoorGoK
namespace Go.Proofs.YtbfoonfbhebhfaaGreatDoor
open Go.RowKit Plain Go.Maps Go.ChangeMaps
set_option linter.unusedVariables false
set_option linter.unusedSimpArgs false
set_option maxRecDepth 100000 in
set_option maxHeartbeats 2000000 in
theorem walkMore_any (fx mn mx bt : Int) (aa ab : Option Addr) (ca cb : Nat) (la : List It) (q : List Bl) (m : Int) (w : World) (ha : SAt 5 iC w aa la) (hb : SAt 2 blC w ab q) (za : la.length ≤ 9223372036854775807) (zb : q.length ≤ 1048576) (sa : ∀ x ∈ la, x.1.size ≤ 1048576) (ta : TmOk la) (hm : MaxL m w) (hT : Tabs w) (hMC : MaxC w) :
    Calls Tryz.prog 4 #[.agg #[.int .i64 fx, .int .i64 mn, .int .i64 mx, .int .i64 bt], .slice aa la.length ca, .slice ab q.length cb] w fun e w' => e = .returned (.bool true) ∧ Below w.heap.size w w' := by
  obtain ⟨ib0, hib0, hbz0, hbz1, hbz2⟩ := info_parts info_blW
  have hb0 := (Below.refl w.heap.size w).alloc (Nat.le_refl _) (.cells #[.int .i64 fx, .int .i64 mn, .int .i64 mx, .int .i64 bt] 25)
  have hr0 := heap_alloc_new w (.cells #[.int .i64 fx, .int .i64 mn, .int .i64 mx, .int .i64 bt] 25)
  have HB0 := Lib.hid hb0
  have HR0 := Lib.hid hr0
  have HA := Lib.hid ha
  have HB := Lib.hid hb
  have HSA := Lib.hid sa
  have HTA := Lib.hid ta
  have HM := Lib.hid hm
  have HT := Lib.hid hT
  have HMC := Lib.hid hMC
  have HZ := Lib.hid (And.intro za zb)
  clear hb0 hr0 ha hb sa ta hm hT hMC
  go_enter Tryz.func4, Tryz.ntmps4
  go_wp2_with fail
  refine (walked_any m _ (HM.out.below HB0.out) (HT.out.below HB0.out) (HMC.out.below HB0.out)).mono ?_
  rintro e w1 ⟨rfl, hb1⟩
  have hr1 := (hb1.block _ (lt_of_block HR0.out)).trans HR0.out
  have HB1 := Lib.hid (HB0.out.trans (hb1.mono HB0.out.size))
  have b0 := cell_of_row _ _ 0 _ _ _ hr1
  have b1 := cell_of_row _ _ 1 _ _ _ hr1
  have b2 := cell_of_row _ _ 2 _ _ _ hr1
  have b3 := cell_of_row _ _ 3 _ _ _ hr1
  simp only [List.getElem?_toArray, List.getElem?_cons_zero, List.getElem?_cons_succ] at b0 b1 b2 b3
  clear hb1 hr1 HR0 HB0
  go_wp2_with fail
  clear b0 b1 b2 b3
  refine (plantU fx mn mx bt aa ca la m w1 (HA.out.below HB1.out) za HSA.out HTA.out (HM.out.below HB1.out) (HT.out.below HB1.out) (HMC.out.below HB1.out)).mono ?_
  rintro e w2 ⟨hb2, l, i0, i1, i2, i3, i4, i5, i6, i7, oa, oc, c, rfl, hs2, hown2, hl2, hc⟩
  have HB2 := Lib.hid (HB1.out.trans (hb2.mono HB1.out.size))
  have hba := (Below.refl w2.heap.size w2).alloc (Nat.le_refl _) (.cells #[.int .u8 (i0 : Int), .int .u8 (i1 : Int), .int .u8 (i2 : Int), .int .u8 (i3 : Int), .int .u8 (i4 : Int), .int .u8 (i5 : Int), .int .u8 (i6 : Int), .int .u8 (i7 : Int)] 30)
  have hna := heap_alloc_new w2 (.cells #[.int .u8 (i0 : Int), .int .u8 (i1 : Int), .int .u8 (i2 : Int), .int .u8 (i3 : Int), .int .u8 (i4 : Int), .int .u8 (i5 : Int), .int .u8 (i6 : Int), .int .u8 (i7 : Int)] 30)
  have HB3 := Lib.hid (HB2.out.trans (hba.mono HB2.out.size))
  have HRI := Lib.hid hna
  have HS3 := Lib.hid (hs2.below hba)
  have HC := Lib.hid hc
  have HL2 := Lib.hid hl2
  clear hb2 hba hna hs2 hown2 hc hl2
  go_wp2_with fail
  generalize hw3 : w2.alloc (.cells #[.int .u8 (i0 : Int), .int .u8 (i1 : Int), .int .u8 (i2 : Int), .int .u8 (i3 : Int), .int .u8 (i4 : Int), .int .u8 (i5 : Int), .int .u8 (i6 : Int), .int .u8 (i7 : Int)] 30) = w3 at *
  clear hw3
  refine (cloneBl_any oa oc l _ HS3.out (by have := HL2.out; omega)).mono ?_
  rintro e w6 ⟨hb6, a6, c6, rfl, how6⟩
  have HQ6 := Lib.hid ((HB.out.below HB3.out).below hb6)
  have HO6 := Lib.hid how6
  have HB6 := Lib.hid hb6
  clear hb6 how6
  have D3 : Hid (l.length + q.length ≤ maxLen) := Lib.hid (by have := HL2.out; have := HZ.out.2; unfold maxLen; omega)
  have D4 : Hid ((l.length + q.length) * 24 ≤ 140737488355328) := Lib.hid (by have := HL2.out; have := HZ.out.2; omega)
  have D5 : Hid (w3.heap.size ≤ w6.heap.size) := Lib.hid HB6.out.size
  go_wp2_with (at_builtin; refine wpList_append_satG (by rfl) _ _ 28 rfl w3.heap.size 37 ib0 (.agg #[.int .i64 0, .string ⟨#[]⟩]) 2 24 Tryz.underlying28 hib0 hbz0 hbz1 hbz2 rfl (by decide) (.slice a6 l.length c6) l.length (l.flatMap blC) rfl HO6.out ab cb q rfl HQ6.out (fun _ => rfl) (fun p => blC_one p) D3.out D4.out D5.out ?_)
  intro v' w7 hown7 hgrow7
  have hb7 := below_own HB6.out hgrow7 HB6.out.size HO6.out (Nat.le_refl _)
  obtain ⟨oa7, oc7, rfl⟩ := own_formK hown7
  have hs7 : SAt 2 blC w7 oa7 (l ++ q) := own_satW (base := w3.heap.size) (T := 37) (cc := oc7) blC_length (by rw [List.length_append, List.flatMap_append]; exact hown7)
  have hcl := clash_any oa7 oc7 (l ++ q) w7 hs7 (by rw [List.length_append]; have := D3.out; unfold maxLen at this; omega)
  rw [List.length_append] at hcl
  have HCL := Lib.hid hcl
  have HS7 := Lib.hid hs7
  have HB7 := Lib.hid hb7
  have z7 : l.length + q.length ≤ 9223372036854775807 := by have := D3.out; unfold maxLen at this; omega
  clear hown7 hgrow7 hb7 hs7 hcl D3 D4 D5 HO6 HQ6 HB6
  by_cases hc0 : c = 0
  rotate_left
  · have c1 : (c != 0) = true := by simpa using hc0
    have HF := Lib.hid (HB3.out.trans (HB7.out.mono HB3.out.size))
    clear hc0
    go_wp2_with fail
    go_ret
    exact ⟨rfl, HF.out⟩
  subst hc0
  have HPA := Lib.hid (HC.out.resolve_right (fun h => h.1 rfl)).2
  clear HC
  go_wp2_with fail
  refine HCL.out.mono ?_
  rintro e w8 ⟨hb8, ⟨hcons, rfl⟩ | ⟨_, rfl⟩⟩
  rotate_left
  · have HB8 := Lib.hid (HB3.out.trans ((HB7.out.trans (hb8.mono HB7.out.size)).mono HB3.out.size))
    clear hb8
    go_wp2_with fail
    go_ret
    exact ⟨rfl, HB8.out⟩
  have HX8 := Lib.hid (HB7.out.trans (hb8.mono HB7.out.size))
  have HB8 := Lib.hid (HB3.out.trans (HX8.out.mono HB3.out.size))
  by_cases hbig : 1000 < l.length + q.length
  · have d1 : (1000 : Int) < (l.length : Int) + (q.length : Int) := by omega
    have d2 : (1000 : Int) < ((l.length + q.length : Nat) : Int) := by omega
    clear hb8 hcons hbig
    go_wp2_with fail
    go_ret
    exact ⟨rfl, HB8.out⟩
  have d1 : ¬ (1000 : Int) < (l.length : Int) + (q.length : Int) := by omega
  have d2 : ¬ (1000 : Int) < ((l.length + q.length : Nat) : Int) := by omega
  have HRI8 := (HX8.out.block _ (lt_of_block HRI.out)).trans HRI.out
  have p0 := cell_of_row _ _ 0 _ _ _ HRI8
  have p1 := cell_of_row _ _ 1 _ _ _ HRI8
  have p2 := cell_of_row _ _ 2 _ _ _ HRI8
  have p3 := cell_of_row _ _ 3 _ _ _ HRI8
  have p4 := cell_of_row _ _ 4 _ _ _ HRI8
  have p5 := cell_of_row _ _ 5 _ _ _ HRI8
  have p6 := cell_of_row _ _ 6 _ _ _ HRI8
  have p7 := cell_of_row _ _ 7 _ _ _ HRI8
  simp only [List.getElem?_toArray, List.getElem?_cons_zero, List.getElem?_cons_succ] at p0 p1 p2 p3 p4 p5 p6 p7
  have hrp := reap_any oa7 oc7 (l ++ q) i0 i1 i2 i3 i4 i5 i6 i7 la w8 (HS7.out.below hb8) (by rw [List.length_append]; omega) hcons (HPA.out.tellsL HTA.out hcons (fun b hb => List.mem_append_left _ hb)) HPA.out.len (HT.out.below HB8.out)
  rw [List.length_append] at hrp
  have HRP := Lib.hid hrp
  clear hb8 hcons hbig hrp HRI8 HCL HB7 HS7
  go_wp2_with fail
  refine HRP.out.mono ?_
  rintro e w9 ⟨hb9, ra, rc, rfl, how9⟩
  have HB9 := Lib.hid (HB8.out.trans (hb9.mono HB8.out.size))
  have HS9 := Lib.hid (own_satW iC_length how9)
  clear hb9 how9 HRP p0 p1 p2 p3 p4 p5 p6 p7
  go_wp2_with fail
  refine (eqIts_any ra aa rc ca la la w9 HS9.out (HA.out.below HB9.out) za za).mono ?_
  rintro e wA ⟨⟨r, rfl, hr⟩, hbA⟩
  obtain rfl : r = true := hr.2 rfl
  have HFIN := Lib.hid (HB9.out.trans (hbA.mono HB9.out.size))
  clear hbA hr
  go_wp2_with fail
  go_ret
  exact ⟨rfl, HFIN.out⟩
end Go.Proofs.YtbfoonfbhebhfaaGreatDoor
