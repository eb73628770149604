/- Joined: BlRev, WalkBackW. -/
import Derived.Test.YtbfoonfbhebhfaaGreatDoorGoK
import Derived.Test.YtbfoonfbhebhfaaGreatDoorGnU
import Derived.Test.YtbfoonfbhebhfaaGreatDoorShelf2
import Derived.Test.YtbfoonfbhebhfaaGreatDoorGoJ
namespace Go.Proofs.YtbfoonfbhebhfaaGreatDoor
open Go.RowKit Plain
set_option maxRecDepth 100000 in
theorem isAgg_bl (w : World) : (isAgg (Tryz.revBl_ren.t 23)).run Tryz.prog w = .ok true w := by kernel_rfl
set_option maxRecDepth 100000 in
theorem sizeOf_bl (w : World) : (Go.sizeOf (Tryz.revBl_ren.t 23)).run Tryz.prog w = .ok 2 w := by kernel_rfl
theorem revBl_any (base : Nat) (a : Option Addr) (cap : Nat) (l : List Bl) (w : World) (hown : w.ownsRow base 37 2 (.slice a l.length cap) l.length (l.flatMap blC)) (hl : l.length ≤ 100000) :
    Calls Tryz.prog 18 #[.slice a l.length cap] w fun e w' => e = .returned (.tuple #[]) ∧ w'.ownsRow base 37 2 (.slice a l.length cap) l.length (l.reverse.flatMap blC) ∧ Below base w w' := by
  rcases hown.2 with ⟨h0, hn⟩ | ⟨g, c', cur, h0, hr⟩
  · injection h0 with h1 _ h3
    subst h1 h3
    have hnil := List.length_eq_zero_iff.1 hn
    subst hnil
    have h := Proofs.AnyQ.slices_Reverse_empty Tryz.revBl none 0 w
    change Calls Tryz.prog 18 _ _ _ at h
    refine h.mono ?_
    rintro e w' ⟨rfl, rfl⟩
    exact ⟨rfl, hown, Below.refl _ _⟩
  · injection h0 with h1 _ h3
    subst h1 h3
    obtain ⟨hbg, hgw, hnc, hc63, _⟩ := own_block hown
    have h := Proofs.AnyQ.slices_Reverse Tryz.revBl 2 isAgg_bl sizeOf_bl blC blC_length (fun x v hv => blC_one x v hv) g 0 cap l.toArray w (holdsK_own blC_length hown) (by simp; omega)
    change Calls Tryz.prog 18 _ _ _ at h
    rw [show l.toArray.size = l.length from by simp] at h
    refine h.mono ?_
    rintro e w' ⟨rfl, n, rfl⟩
    have e0 : Sort.putRowK blC 2 (Sort.ahead w n) g 0 l.toArray.reverse = Proofs.sortWorldK blC 2 w g 0 n l.reverse.toArray #[] := by
      unfold Proofs.sortWorldK Sort.grow
      simp
    have h2 := own_sortK blC_length hown n l.reverse (by simp) #[]
    have h3 := below_sortK (k := 2) (c := blC) (Below.refl _ w) hbg hgw n l.reverse.toArray #[]
    rw [List.length_reverse] at h2
    rw [e0]
    exact ⟨rfl, h2, h3⟩
end Go.Proofs.YtbfoonfbhebhfaaGreatDoor
namespace Go.Proofs.YtbfoonfbhebhfaaGreatDoor
open Go.RowKit Plain Go.Maps Go.ChangeMaps
set_option linter.unusedVariables false
set_option linter.unusedSimpArgs false
set_option maxRecDepth 100000 in
set_option maxHeartbeats 2000000 in
theorem walkBack_any (fx mn mx bt fy ny my bY : Int) (aa : Option Addr) (ca : Nat) (la : List It) (m : Int) (w : World) (ha : SAt 5 iC w aa la) (za : la.length ≤ 9223372036854775807) (sa : ∀ x ∈ la, x.1.size ≤ 1048576) (ta : TmOk la) (hm : MaxL m w) (hT : Tabs w) (hMC : MaxC w) :
    Calls Tryz.prog 5 #[.agg #[.int .i64 fx, .int .i64 mn, .int .i64 mx, .int .i64 bt], .agg #[.int .i64 fy, .int .i64 ny, .int .i64 my, .int .i64 bY], .slice aa la.length ca] w fun e w' => e = .returned (.bool true) ∧ Below w.heap.size w w' := by
  have h2 := heap_twoK w (.cells #[.int .i64 fx, .int .i64 mn, .int .i64 mx, .int .i64 bt] 25) (.cells #[.int .i64 fy, .int .i64 ny, .int .i64 my, .int .i64 bY] 25)
  have hb0 : Below w.heap.size w ((w.alloc (.cells #[.int .i64 fx, .int .i64 mn, .int .i64 mx, .int .i64 bt] 25)).alloc (.cells #[.int .i64 fy, .int .i64 ny, .int .i64 my, .int .i64 bY] 25)) := ((Below.refl w.heap.size w).alloc (Nat.le_refl _) _).alloc (by simp) _
  have HB0 := Lib.hid hb0
  have HR0 := Lib.hid h2.1
  have HS0 := Lib.hid h2.2
  have HA := Lib.hid ha
  have HSA := Lib.hid sa
  have HTA := Lib.hid ta
  have HM := Lib.hid hm
  have HT := Lib.hid hT
  have HMC := Lib.hid hMC
  clear hb0 h2 ha sa ta hm hT hMC
  go_enter Tryz.func5, Tryz.ntmps5
  go_wp2_with fail
  refine (walked_any m _ (HM.out.below HB0.out) (HT.out.below HB0.out) (HMC.out.below HB0.out)).mono ?_
  rintro e w1 ⟨rfl, hb1⟩
  have hr1 := (hb1.block _ (lt_of_block HR0.out)).trans HR0.out
  have HS1 := Lib.hid ((hb1.block _ (lt_of_block HS0.out)).trans HS0.out)
  have HB1 := Lib.hid (HB0.out.trans (hb1.mono HB0.out.size))
  have b0 := cell_of_row _ _ 0 _ _ _ hr1
  have b1 := cell_of_row _ _ 1 _ _ _ hr1
  have b2 := cell_of_row _ _ 2 _ _ _ hr1
  have b3 := cell_of_row _ _ 3 _ _ _ hr1
  simp only [List.getElem?_toArray, List.getElem?_cons_zero, List.getElem?_cons_succ] at b0 b1 b2 b3
  clear hb1 hr1 HR0 HB0 HS0
  go_wp2_with fail
  clear b0 b1 b2 b3
  refine (plantU fx mn mx bt aa ca la m w1 (HA.out.below HB1.out) za HSA.out HTA.out (HM.out.below HB1.out) (HT.out.below HB1.out) (HMC.out.below HB1.out)).mono ?_
  rintro e w2 ⟨hb2, l, i0, i1, i2, i3, i4, i5, i6, i7, oa, oc, c, rfl, hs2, hown2, hl2, hc⟩
  have HB2 := Lib.hid (HB1.out.trans (hb2.mono HB1.out.size))
  have hba := (Below.refl w2.heap.size w2).alloc (Nat.le_refl _) (.cells #[.int .u8 (i0 : Int), .int .u8 (i1 : Int), .int .u8 (i2 : Int), .int .u8 (i3 : Int), .int .u8 (i4 : Int), .int .u8 (i5 : Int), .int .u8 (i6 : Int), .int .u8 (i7 : Int)] 30)
  have hna := heap_alloc_new w2 (.cells #[.int .u8 (i0 : Int), .int .u8 (i1 : Int), .int .u8 (i2 : Int), .int .u8 (i3 : Int), .int .u8 (i4 : Int), .int .u8 (i5 : Int), .int .u8 (i6 : Int), .int .u8 (i7 : Int)] 30)
  have HB3 := Lib.hid (HB2.out.trans (hba.mono HB2.out.size))
  have HRI := Lib.hid hna
  have HS3 := Lib.hid (hs2.below hba)
  have HW3 := Lib.hid ((hba.block _ (lt_of_block ((hb2.block _ (lt_of_block HS1.out)).trans HS1.out))).trans ((hb2.block _ (lt_of_block HS1.out)).trans HS1.out))
  have HC := Lib.hid hc
  have HL2 := Lib.hid hl2
  clear hb2 hba hna hs2 hown2 hc hl2 HS1
  by_cases hc0 : c = 0
  rotate_left
  · have c1 : (c != 0) = true := by simpa using hc0
    obtain ⟨_, h1, h3, _⟩ := HC.out.resolve_left (fun h => hc0 h.1)
    have l0 : (l.length : Int) = 0 := by rw [h1]; rfl
    have hrow := HRI.out
    obtain ⟨E1, E3⟩ := eqK_id [0, 0, 0, 0, 0, 0, 0, 0] [0, 0, 0, 0, 0, 0, 0, 0] rfl rfl
    replace E1 : ∀ wx, (binOp .eql 30 (.agg #[.int .u8 0, .int .u8 0, .int .u8 0, .int .u8 0, .int .u8 0, .int .u8 0, .int .u8 0, .int .u8 0]) (.agg #[.int .u8 0, .int .u8 0, .int .u8 0, .int .u8 0, .int .u8 0, .int .u8 0, .int .u8 0, .int .u8 0])).run Tryz.prog wx = .ok (.bool true) wx := E1
    simp only [List.cons.injEq, and_true] at h3
    obtain ⟨rfl, rfl, rfl, rfl, rfl, rfl, rfl, rfl⟩ := h3
    have p0 := cell_of_row _ _ 0 _ _ _ hrow
    have p1 := cell_of_row _ _ 1 _ _ _ hrow
    have p2 := cell_of_row _ _ 2 _ _ _ hrow
    have p3 := cell_of_row _ _ 3 _ _ _ hrow
    have p4 := cell_of_row _ _ 4 _ _ _ hrow
    have p5 := cell_of_row _ _ 5 _ _ _ hrow
    have p6 := cell_of_row _ _ 6 _ _ _ hrow
    have p7 := cell_of_row _ _ 7 _ _ _ hrow
    simp only [List.getElem?_toArray, List.getElem?_cons_zero, List.getElem?_cons_succ] at p0 p1 p2 p3 p4 p5 p6 p7
    simp only [Int.ofNat_zero, Int.natCast_zero] at p0 p1 p2 p3 p4 p5 p6 p7
    clear hc0 hrow h1 HC
    go_wp2_with fail
    go_ret
    exact ⟨rfl, HB3.out⟩
  subst hc0
  have HPA := Lib.hid (HC.out.resolve_right (fun h => h.1 rfl)).2
  have HCN := Lib.hid HPA.out.ids.cons
  clear HC
  go_wp2_with fail
  generalize hw3 : w2.alloc (.cells #[.int .u8 (i0 : Int), .int .u8 (i1 : Int), .int .u8 (i2 : Int), .int .u8 (i3 : Int), .int .u8 (i4 : Int), .int .u8 (i5 : Int), .int .u8 (i6 : Int), .int .u8 (i7 : Int)] 30) = w3 at *
  clear hw3
  refine (cloneBl_any oa oc l _ HS3.out (by have := HL2.out; omega)).mono ?_
  rintro e w6 ⟨hb6, a6, c6, rfl, how6⟩
  have HO6 := Lib.hid how6
  have HB6 := Lib.hid hb6
  clear hb6 how6
  go_wp2_with fail
  refine (revBl_any w3.heap.size a6 c6 l w6 HO6.out (by have := HL2.out; omega)).mono ?_
  rintro e w7 ⟨rfl, how7, hb7⟩
  have HX7 := Lib.hid (HB6.out.trans hb7)
  have hs7 : SAt 2 blC w7 a6 l.reverse := own_satW (base := w3.heap.size) (T := 37) (cc := c6) blC_length (by rw [List.length_reverse]; exact how7)
  have HS7 := Lib.hid hs7
  have HB7 := Lib.hid (HB3.out.trans (HX7.out.mono HB3.out.size))
  have HL7 := Lib.hid (HS3.out.below HX7.out)
  have HRI7 := Lib.hid ((HX7.out.block _ (lt_of_block HRI.out)).trans HRI.out)
  have HW7 := Lib.hid ((HX7.out.block _ (lt_of_block HW3.out)).trans HW3.out)
  clear hb7 how7 hs7 HB6 HO6 HRI HW3 HS3 HX7
  have p0 := cell_of_row _ _ 0 _ _ _ HRI7.out
  have p1 := cell_of_row _ _ 1 _ _ _ HRI7.out
  have p2 := cell_of_row _ _ 2 _ _ _ HRI7.out
  have p3 := cell_of_row _ _ 3 _ _ _ HRI7.out
  have p4 := cell_of_row _ _ 4 _ _ _ HRI7.out
  have p5 := cell_of_row _ _ 5 _ _ _ HRI7.out
  have p6 := cell_of_row _ _ 6 _ _ _ HRI7.out
  have p7 := cell_of_row _ _ 7 _ _ _ HRI7.out
  simp only [List.getElem?_toArray, List.getElem?_cons_zero, List.getElem?_cons_succ] at p0 p1 p2 p3 p4 p5 p6 p7
  by_cases hbig : 1000 < l.length
  · have d1 : (1000 : Int) < (l.length : Int) := by omega
    have HBG := Lib.hid hbig
    clear hbig
    go_wp2_with fail
    clear p0 p1 p2 p3 p4 p5 p6 p7
    refine (reap_big oa oc l i0 i1 i2 i3 i4 i5 i6 i7 w7 HL7.out HBG.out (by have := HL2.out; omega)).mono ?_
    rintro e w8 ⟨rfl, hb8⟩
    have HB8 := Lib.hid (HB7.out.trans (hb8.mono HB7.out.size))
    have hri8 := (hb8.block _ (lt_of_block HRI7.out)).trans HRI7.out
    have hrp := reap_big a6 c6 l.reverse i0 i1 i2 i3 i4 i5 i6 i7 w8 (HS7.out.below hb8) (by rw [List.length_reverse]; exact HBG.out) (by rw [List.length_reverse]; have := HL2.out; omega)
    rw [List.length_reverse] at hrp
    have HRP := Lib.hid hrp
    have p0 := cell_of_row _ _ 0 _ _ _ hri8
    have p1 := cell_of_row _ _ 1 _ _ _ hri8
    have p2 := cell_of_row _ _ 2 _ _ _ hri8
    have p3 := cell_of_row _ _ 3 _ _ _ hri8
    have p4 := cell_of_row _ _ 4 _ _ _ hri8
    have p5 := cell_of_row _ _ 5 _ _ _ hri8
    have p6 := cell_of_row _ _ 6 _ _ _ hri8
    have p7 := cell_of_row _ _ 7 _ _ _ hri8
    simp only [List.getElem?_toArray, List.getElem?_cons_zero, List.getElem?_cons_succ] at p0 p1 p2 p3 p4 p5 p6 p7
    clear hb8 hri8 hrp
    go_wp2_with fail
    refine HRP.out.mono ?_
    rintro e w9 ⟨rfl, hb9⟩
    have HB9 := Lib.hid (HB8.out.trans (hb9.mono HB8.out.size))
    clear hb9 HRP p0 p1 p2 p3 p4 p5 p6 p7
    go_wp2_with fail
    go_ret
    exact ⟨rfl, HB9.out⟩
  · have d1 : ¬ (1000 : Int) < (l.length : Int) := by omega
    have HBG : Hid (l.length ≤ 1000) := Lib.hid (by omega)
    clear hbig
    go_wp2_with fail
    clear p0 p1 p2 p3 p4 p5 p6 p7
    refine (reap_any oa oc l i0 i1 i2 i3 i4 i5 i6 i7 la w7 HL7.out HBG.out HCN.out (HPA.out.tellsL HTA.out HCN.out (fun b hb => hb)) HPA.out.len (HT.out.below HB7.out)).mono ?_
    rintro e w8 ⟨hb8, ra, rc, rfl, how8⟩
    have HB8 := Lib.hid (HB7.out.trans (hb8.mono HB7.out.size))
    have hri8 := (hb8.block _ (lt_of_block HRI7.out)).trans HRI7.out
    have HW8 := Lib.hid ((hb8.block _ (lt_of_block HW7.out)).trans HW7.out)
    have HS8 := Lib.hid (own_satW iC_length how8)
    have hrp := reap_any a6 c6 l.reverse i0 i1 i2 i3 i4 i5 i6 i7 la w8 (HS7.out.below hb8) (by rw [List.length_reverse]; exact HBG.out) HCN.out.reverse (HPA.out.tellsL HTA.out HCN.out.reverse (fun b hb => List.mem_reverse.2 hb)) HPA.out.len (HT.out.below HB8.out)
    rw [List.length_reverse] at hrp
    have HRP := Lib.hid hrp
    have p0 := cell_of_row _ _ 0 _ _ _ hri8
    have p1 := cell_of_row _ _ 1 _ _ _ hri8
    have p2 := cell_of_row _ _ 2 _ _ _ hri8
    have p3 := cell_of_row _ _ 3 _ _ _ hri8
    have p4 := cell_of_row _ _ 4 _ _ _ hri8
    have p5 := cell_of_row _ _ 5 _ _ _ hri8
    have p6 := cell_of_row _ _ 6 _ _ _ hri8
    have p7 := cell_of_row _ _ 7 _ _ _ hri8
    simp only [List.getElem?_toArray, List.getElem?_cons_zero, List.getElem?_cons_succ] at p0 p1 p2 p3 p4 p5 p6 p7
    clear hb8 hri8 hrp how8 HRI7 HW7 HS7 HL7
    go_wp2_with fail
    refine HRP.out.mono ?_
    rintro e w9 ⟨hb9, rb, rd, rfl, how9⟩
    have HB9 := Lib.hid (HB8.out.trans (hb9.mono HB8.out.size))
    have HW9 := Lib.hid ((hb9.block _ (lt_of_block HW8.out)).trans HW8.out)
    have HS89 := Lib.hid (HS8.out.below hb9)
    have HS9 := Lib.hid (own_satW iC_length how9)
    clear hb9 HRP p0 p1 p2 p3 p4 p5 p6 p7 how9 HW8 HS8
    go_wp2_with fail
    refine (eqIts_any ra aa rc ca la la w9 HS89.out (HA.out.below HB9.out) za za).mono ?_
    rintro e wA ⟨⟨r, rfl, hr⟩, hbA⟩
    obtain rfl : r = true := hr.2 rfl
    have HBA := Lib.hid (HB9.out.trans (hbA.mono HB9.out.size))
    have HWA := Lib.hid ((hbA.block _ (lt_of_block HW9.out)).trans HW9.out)
    have HSA9 := Lib.hid (HS9.out.below hbA)
    clear hbA hr HW9 HS9 HS89
    go_wp2_with fail
    refine (eqIts_any rb aa rd ca la la wA HSA9.out (HA.out.below HBA.out) za za).mono ?_
    rintro e wB ⟨⟨r, rfl, hr⟩, hbB⟩
    obtain rfl : r = true := hr.2 rfl
    have HBB := Lib.hid (HBA.out.trans (hbB.mono HBA.out.size))
    have hwb := (hbB.block _ (lt_of_block HWA.out)).trans HWA.out
    have b0 := cell_of_row _ _ 0 _ _ _ hwb
    have b1 := cell_of_row _ _ 1 _ _ _ hwb
    have b2 := cell_of_row _ _ 2 _ _ _ hwb
    have b3 := cell_of_row _ _ 3 _ _ _ hwb
    simp only [List.getElem?_toArray, List.getElem?_cons_zero, List.getElem?_cons_succ] at b0 b1 b2 b3
    clear hbB hr hwb HWA HSA9
    go_wp2_with fail
    clear b0 b1 b2 b3
    refine (plantU fy ny my bY aa ca la m wB (HA.out.below HBB.out) za HSA.out HTA.out (HM.out.below HBB.out) (HT.out.below HBB.out) (HMC.out.below HBB.out)).mono ?_
    rintro e wC ⟨hbC, q, j0, j1, j2, j3, j4, j5, j6, j7, oq, od, f, rfl, hsC, hownC, hlC, hf⟩
    have HBC := Lib.hid (HBB.out.trans (hbC.mono HBB.out.size))
    have hba := (Below.refl wC.heap.size wC).alloc (Nat.le_refl _) (.cells #[.int .u8 (j0 : Int), .int .u8 (j1 : Int), .int .u8 (j2 : Int), .int .u8 (j3 : Int), .int .u8 (j4 : Int), .int .u8 (j5 : Int), .int .u8 (j6 : Int), .int .u8 (j7 : Int)] 30)
    have hna := heap_alloc_new wC (.cells #[.int .u8 (j0 : Int), .int .u8 (j1 : Int), .int .u8 (j2 : Int), .int .u8 (j3 : Int), .int .u8 (j4 : Int), .int .u8 (j5 : Int), .int .u8 (j6 : Int), .int .u8 (j7 : Int)] 30)
    have HBD := Lib.hid (HBC.out.trans (hba.mono HBC.out.size))
    have HSD := Lib.hid (hsC.below hba)
    have HF := Lib.hid hf
    have p0 := cell_of_row _ _ 0 _ _ _ hna
    have p1 := cell_of_row _ _ 1 _ _ _ hna
    have p2 := cell_of_row _ _ 2 _ _ _ hna
    have p3 := cell_of_row _ _ 3 _ _ _ hna
    have p4 := cell_of_row _ _ 4 _ _ _ hna
    have p5 := cell_of_row _ _ 5 _ _ _ hna
    have p6 := cell_of_row _ _ 6 _ _ _ hna
    have p7 := cell_of_row _ _ 7 _ _ _ hna
    simp only [List.getElem?_toArray, List.getElem?_cons_zero, List.getElem?_cons_succ] at p0 p1 p2 p3 p4 p5 p6 p7
    clear hbC hba hna hsC hownC hlC hf
    by_cases hf0 : f = 0
    rotate_left
    · have c1 : (f != 0) = true := by simpa using hf0
      clear hf0
      go_wp2_with fail
      go_ret
      exact ⟨rfl, HBD.out⟩
    subst hf0
    have HPB := Lib.hid (HF.out.resolve_right (fun h => h.1 rfl)).2
    clear HF
    by_cases hbig : 1000 < q.length
    · have d2 : (1000 : Int) < (q.length : Int) := by omega
      clear hbig
      go_wp2_with fail
      go_ret
      exact ⟨rfl, HBD.out⟩
    have d2 : ¬ (1000 : Int) < (q.length : Int) := by omega
    have HRP := Lib.hid (reap_any oq od q j0 j1 j2 j3 j4 j5 j6 j7 la _ HSD.out (by omega) HPB.out.ids.cons (HPB.out.tellsL HTA.out HPB.out.ids.cons (fun b hb => hb)) HPB.out.len (HT.out.below HBD.out))
    clear hbig
    go_wp2_with fail
    refine HRP.out.mono ?_
    rintro e wE ⟨hbE, rx, ry, rfl, howE⟩
    have HBE := Lib.hid (HBD.out.trans (hbE.mono HBD.out.size))
    have HSE := Lib.hid (own_satW iC_length howE)
    clear hbE howE HRP p0 p1 p2 p3 p4 p5 p6 p7
    go_wp2_with fail
    refine (eqIts_any rx aa ry ca la la wE HSE.out (HA.out.below HBE.out) za za).mono ?_
    rintro e wG ⟨⟨r, rfl, hr⟩, hbG⟩
    obtain rfl : r = true := hr.2 rfl
    have HFIN := Lib.hid (HBE.out.trans (hbG.mono HBE.out.size))
    clear hbG hr
    go_wp2_with fail
    go_ret
    exact ⟨rfl, HFIN.out⟩
end Go.Proofs.YtbfoonfbhebhfaaGreatDoor
