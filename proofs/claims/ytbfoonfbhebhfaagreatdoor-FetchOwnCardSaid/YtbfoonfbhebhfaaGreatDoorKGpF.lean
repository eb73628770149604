/- Joined: FetchPl. -/
import Derived.Test.YtbfoonfbhebhfaaGreatDoorKGpE
import Derived.Test.YtbfoonfbhebhfaaGreatDoorKGoE
namespace Go.Proofs.YtbfoonfbhebhfaaGreatDoor
open Go.RowKit Plain Go.Maps Go.ChangeMaps
set_option linter.unusedVariables false
set_option linter.unusedSimpArgs false
theorem VX.same {base P H S : Nat} {es : List (List Nat × Bl)} {seen : List (List Nat)} {out : List Bl} {ss : List (List Nat × Bool)} {oa : Option Addr} {oc : Nat} {w : World} (h : VX base P H S es seen out ss oa oc w) :
  VX base P H S es seen out ss oa oc (setBlock w S (imO vB ss)) ∧ FrV P S (obk oa) (obk oa) w (setBlock w S (imO vB ss)) := by
 refine ⟨⟨(setBlockI_other _ h.pne.1).trans h.1, own_setBlockV h.2.1 _ (fun g hg => (h.ob (by rw [← own_obk oa out.length oc]; exact hg)).2.2.2.2), (setBlockI_other _ h.2.2.2.2.2.2.2.2).trans h.2.2.1, setBlockI_same vB h.2.2.2.1 _, h.2.2.2.2⟩, ⟨rfl, rfl, rfl, by simp [setBlock], fun k _ _ hns _ => setBlockI_other _ hns, .inl rfl⟩⟩
noncomputable def planF (l : List Bl) (hv rs : List (List Nat)) : Option VSt := runL (visitF (lkL l) 1000) rs (ddp hv, [])
def PlanOk (hv : List (List Nat)) (l : List Bl) (rs : List (List Nat)) : Prop := hv.length ≤ 1000 ∧ rs.length ≤ 64 ∧ l.length ≤ 1000 ∧ Cons l
def PlanEnd (hv : List (List Nat)) (l : List Bl) (rs : List (List Nat)) (w0 : World) (e : Ending) (w : World) : Prop := Below w0.heap.size w0 w ∧
 ((PlanOk hv l rs ∧ ∃ seen out oa oc, planF l hv rs = some (seen, out) ∧ e = .returned (.tuple #[.slice oa out.length oc, .int .i64 0]) ∧ w.ownsRow w0.heap.size 37 2 (.slice oa out.length oc) out.length (out.flatMap blC) ∧ out.length ≤ 1000) ∨
  (∃ c : Int, c ≠ 0 ∧ e = .returned (.tuple #[.slice none 0 0, .int .i64 c]) ∧ (PlanOk hv l rs → planF l hv rs = none)))
theorem HpM.mz {l : List Bl} {es : List (List Nat × Bl)} (h : HpM l es) : ∀ id b, ilk es id = some b → (id, b) ∈ esOf l := fun id b hb => by
 rw [h.2] at hb
 obtain ⟨h1, h2⟩ := lkL_some hb
 exact List.mem_map.2 ⟨b, h1, by rw [h2]⟩
theorem remV_l (l : List Bl) (seen : List (List Nat)) : remV (esOf l) seen ≤ l.length := Nat.le_trans (remV_le _ _) (by simp [esOf])
theorem ilk_lkF {l : List Bl} {es : List (List Nat × Bl)} (h : HpM l es) : ilk es = lkL l := funext h.2
set_option maxRecDepth 100000 in
set_option maxHeartbeats 4000000 in
theorem plan_any (ah ab ar : Option Addr) (ch cb cr : Nat) (hv : List (List Nat)) (l : List Bl) (rs : List (List Nat)) (w : World) (hh : SAt 8 idK w ah hv) (hl : SAt 2 blC w ab l) (hr : SAt 8 idK w ar rs) (h8 : IdsL hv) (r8 : IdsL rs) (zh : hv.length ≤ 9223372036854775807) (zl : l.length ≤ 9223372036854775807) (zr : rs.length ≤ 9223372036854775807) (hT : Tabs w) :
  Calls Tryz.prog 38 #[.slice ah hv.length ch, .slice ab l.length cb, .slice ar rs.length cr] w (PlanEnd hv l rs w) := by
 have HHV := Lib.hid hh
 have HLL := Lib.hid hl
 have HRS := Lib.hid hr
 have H8 := Lib.hid h8
 have R8 := Lib.hid r8
 have HT := Lib.hid hT
 have HZL := Lib.hid zl
 clear hh hl hr h8 r8 hT zl
 by_cases hbig : hv.length ≤ 1000 ∧ rs.length ≤ 64
 rotate_left
 ·
  have HBG := Lib.hid hbig
  by_cases h1 : 1000 < hv.length
  ·
   have c1 : (1000 : Int) < (hv.length : Int) := by omega
   clear hbig h1
   go_enter Tryz.func38, Tryz.ntmps38
   go_wp2_with fail
   go_ret2
   exact ⟨Below.refl _ _, .inr ⟨2, by decide, rfl, fun h => absurd ⟨h.1, h.2.1⟩ HBG.out⟩⟩
  ·
   have c1 : ¬ (1000 : Int) < (hv.length : Int) := by omega
   have c2 : (64 : Int) < (rs.length : Int) := by omega
   clear hbig h1
   go_enter Tryz.func38, Tryz.ntmps38
   go_wp2_with fail
   go_ret2
   exact ⟨Below.refl _ _, .inr ⟨2, by decide, rfl, fun h => absurd ⟨h.1, h.2.1⟩ HBG.out⟩⟩
 have c1 : ¬ (1000 : Int) < (hv.length : Int) := by omega
 have c2 : ¬ (64 : Int) < (rs.length : Int) := by omega
 have HBG := Lib.hid hbig
 clear hbig
 go_enter Tryz.func38, Tryz.ntmps38
 go_wp2_with fail
 refine (heap_any ab cb l w HLL.out HZL.out).mono ?_
 rintro e w1 ⟨hb1, ⟨es, H, hes, hcons, hle, hHw, hmap, rfl⟩ | ⟨hbl, rfl⟩ | ⟨hle, hnc, c, hc, rfl⟩⟩
 rotate_left
 ·
  have HB1 := Lib.hid hb1
  have HBL := Lib.hid hbl
  clear hb1 hbl
  go_wp2_with fail
  go_ret2
  exact ⟨HB1.out, .inr ⟨2, by decide, rfl, fun h => absurd h.2.2.1 (by have := HBL.out; omega)⟩⟩
 ·
  have HB1 := Lib.hid hb1
  have d1 : (c != 0) = true := by simpa using hc
  have HC := Lib.hid hc
  have HNC := Lib.hid hnc
  clear hb1 hc hnc hle
  go_wp2_with fail
  go_ret2
  exact ⟨HB1.out, .inr ⟨c, HC.out, rfl, fun h => absurd h.2.2.2 HNC.out⟩⟩
 have HES := Lib.hid hes
 have HCN := Lib.hid hcons
 have HLE := Lib.hid hle
 have hmm := @run_makeMap Tryz.prog
 have hH1 : H < w1.heap.size := lt_of_blockW hmap
 have h2 := heap_twoK w1 (.map #[] 0) (.cells #[.map (some H), .map (some w1.heap.size), .slice none 0 0] 138)
 have hb2 : Below w1.heap.size w1 ((w1.alloc (.map #[] 0)).alloc (.cells #[.map (some H), .map (some w1.heap.size), .slice none 0 0] 138)) := ((Below.refl w1.heap.size w1).alloc (Nat.le_refl _) _).alloc (by simp) _
 have HX2 : Hid (VX w.heap.size (w1.heap.size + 1) H w1.heap.size es [] [] [] none 0 ((w1.alloc (.map #[] 0)).alloc (.cells #[.map (some H), .map (some w1.heap.size), .slice none 0 0] 138))) := Lib.hid ⟨h2.2, World.ownsRow_nil _ _ _ _, (hb2.block _ hH1).trans hmap, h2.1, SeenM.nil, Nat.le_succ_of_le hb1.size, hHw, hb1.size, by omega⟩
 have HB2 := Lib.hid (hb1.trans (hb2.mono hb1.size))
 clear hb1 hes hcons hle hHw hmap hH1 h2 hb2
 go_wp2_with fail
 clear hmm
 obtain ⟨S, hS⟩ : ∃ S, w1.heap.size = S := ⟨_, rfl⟩
 obtain ⟨P, hP⟩ : ∃ P, S + 1 = P := ⟨_, rfl⟩
 generalize hw2 : (w1.alloc (.map #[] 0)).alloc (.cells #[.map (some H), .map (some w1.heap.size), .slice none 0 0] 138) = w2 at *
 rw [hS, hP] at HX2
 rw [hS, hP]
 clear hw2 hS hP
 go_loopw [38] (fun iv wr => ∃ (i : Nat) (ss : List (List Nat × Bool)), i ≤ hv.length ∧ iv = .int .i64 (i : Int) ∧ Hid (VX w.heap.size P H S es (ddp (hv.take i)) [] ss none 0 wr) ∧ Hid (Below w.heap.size w wr)) (fun iv _ => hv.length - (intOf iv).toNat)
 case atStart => exact ⟨0, [], Nat.zero_le _, rfl, HX2, HB2⟩
 case round =>
  obtain ⟨i, ss, hi, rfl, HXR, HBR⟩ := hrel
  clear HX2 HB2
  by_cases hlt : i < hv.length
  ·
   skip
   have m1 : (i : Int) < (hv.length : Int) := by omega
   obtain ⟨g2, off2, rfl, hg2, hrr⟩ := (HHV.out.below HBR.out) i hlt
   have htk2 : hv.take (i + 1) = hv.take i ++ [hv[i]] := List.take_succ_eq_append_getElem hlt
   have h8 := H8.out _ (List.getElem_mem hlt)
   generalize hv[i] = n at *
   obtain ⟨v0, v1, v2, v3, v4, v5, v6, v7, rfl⟩ := list8W h8
   have q0 := hrr 0 _ rfl
   have q1 := hrr 1 _ rfl
   have q2 := hrr 2 _ rfl
   have q3 := hrr 3 _ rfl
   have q4 := hrr 4 _ rfl
   have q5 := hrr 5 _ rfl
   have q6 := hrr 6 _ rfl
   have q7 := hrr 7 _ rfl
   simp only [Nat.add_zero, bV] at q0 q1 q2 q3 q4 q5 q6 q7
   have HTK2 := Lib.hid htk2
   have HLJ := Lib.hid hlt
   have hrn := heap_alloc_new wr (.cells #[.int .u8 (v0 : Int), .int .u8 (v1 : Int), .int .u8 (v2 : Int), .int .u8 (v3 : Int), .int .u8 (v4 : Int), .int .u8 (v5 : Int), .int .u8 (v6 : Int), .int .u8 (v7 : Int)] 30)
   have hba := (Below.refl wr.heap.size wr).alloc (Nat.le_refl _) (.cells #[.int .u8 (v0 : Int), .int .u8 (v1 : Int), .int .u8 (v2 : Int), .int .u8 (v3 : Int), .int .u8 (v4 : Int), .int .u8 (v5 : Int), .int .u8 (v6 : Int), .int .u8 (v7 : Int)] 30)
   have HRN := Lib.hid hrn
   have HBA := Lib.hid (HBR.out.trans (hba.mono HBR.out.size))
   have HXN := Lib.hid (HXR.out.below hba)
   clear hrr hg2 htk2 h8 hrn hba hlt
   go_wp2_with fail
   generalize hw3 : wr.alloc (.cells #[.int .u8 (v0 : Int), .int .u8 (v1 : Int), .int .u8 (v2 : Int), .int .u8 (v3 : Int), .int .u8 (v4 : Int), .int .u8 (v5 : Int), .int .u8 (v6 : Int), .int .u8 (v7 : Int)] 30) = w3 at *
   clear hw3 q0 q1 q2 q3 q4 q5 q6 q7
   refine wp_region_noPanic ?_
   refine wp_region_E (S := fun u => Below w3.heap.size w3 u) 5 (by kernel_rfl) (Below.refl _ _).drew (fun hS0 => ?_)
   have HS0 := Lib.hid hS0
   clear hS0
   have HX3 := Lib.hid (HXN.out.below (Below.refl _ _).drew)
   have HB3 := Lib.hid HBA.out.drew
   refine takeE_val 0 (.pointer (some ⟨P, 0, none⟩)) rfl (by kernel_rfl) (by kernel_rfl) (by kernel_rfl) (by kernel_rfl) rfl (fun _ _ _ _ h => h) (by rfl) rfl (fun wz hS => by go_simp) HS0.out ?_
   try simp only [List.set_cons_zero, List.set_cons_succ]
   refine takeE_val 1 (.pointer (some ⟨P, 0, none⟩)) rfl (by kernel_rfl) (by kernel_rfl) (by kernel_rfl) (by kernel_rfl) rfl (fun _ _ _ _ h => h) (by rfl) rfl (fun wz hS => by go_simp) HS0.out ?_
   try simp only [List.set_cons_zero, List.set_cons_succ]
   refine takeE_val 2 (.pointer (some ⟨P, 1, none⟩)) rfl (by kernel_rfl) (by kernel_rfl) (by kernel_rfl) (by kernel_rfl) rfl (fun _ _ _ _ h => h) (by rfl) rfl (fun wz hS => by go_simp) HS0.out ?_
   try simp only [List.set_cons_zero, List.set_cons_succ]
   refine takeE_val 3 (.map (some S)) rfl (by kernel_rfl) (by kernel_rfl) (by kernel_rfl) (by kernel_rfl) rfl (fun _ _ _ _ h => h) (by rfl) rfl (fun wz hS => by have c1 := (HXN.out.below hS).1.c1; go_simp) HS0.out ?_
   try simp only [List.set_cons_zero, List.set_cons_succ]
   refine takeE_val 4 (.agg #[.int .u8 (v0 : Int), .int .u8 (v1 : Int), .int .u8 (v2 : Int), .int .u8 (v3 : Int), .int .u8 (v4 : Int), .int .u8 (v5 : Int), .int .u8 (v6 : Int), .int .u8 (v7 : Int)]) rfl (by kernel_rfl) (by kernel_rfl) (by kernel_rfl) (by kernel_rfl) rfl (fun _ _ _ _ h => h) (by rfl) rfl (fun wz hS => by have r6 := (hS.block _ (lt_of_block HRN.out)).trans HRN.out; have d0 := cell_of_row _ _ 0 _ _ _ r6; have d1 := cell_of_row _ _ 1 _ _ _ r6; have d2 := cell_of_row _ _ 2 _ _ _ r6; have d3 := cell_of_row _ _ 3 _ _ _ r6; have d4 := cell_of_row _ _ 4 _ _ _ r6; have d5 := cell_of_row _ _ 5 _ _ _ r6; have d6 := cell_of_row _ _ 6 _ _ _ r6; have d7 := cell_of_row _ _ 7 _ _ _ r6; simp only [List.getElem?_toArray, List.getElem?_cons_zero, List.getElem?_cons_succ] at d0 d1 d2 d3 d4 d5 d6 d7; go_simp) HS0.out ?_
   try simp only [List.set_cons_zero, List.set_cons_succ]
   generalize w3.drew = w4 at *
   by_cases hm : [v0, v1, v2, v3, v4, v5, v6, v7] ∈ ddp (hv.take i)
   ·
    skip
    obtain ⟨hx4, hfr4⟩ := HX3.out.same
    have hq : ilk ss [v0, v1, v2, v3, v4, v5, v6, v7] = some true := by rw [HX3.out.2.2.2.2.1.2, if_pos hm]
    have hput := put_id8_same vB (mt := 136) Tryz.underlying136 HX3.out.2.2.2.1 [v0, v1, v2, v3, v4, v5, v6, v7] true rfl HX3.out.2.2.2.2.1.1 hq
    replace hput : (Instr.mapUpdate 136 (.map (some S)) (.agg #[.int .u8 (v0 : Int), .int .u8 (v1 : Int), .int .u8 (v2 : Int), .int .u8 (v3 : Int), .int .u8 (v4 : Int), .int .u8 (v5 : Int), .int .u8 (v6 : Int), .int .u8 (v7 : Int)]) (.bool true)).run Tryz.prog w4 = .ok () (setBlock w4 S (imO vB ss)) := hput
    have HMI := Lib.hid hm
    refine oneE_ready 5 (by kernel_rfl) rfl (by rfl) (fun KQ hK => ?_)
    go_simp
    refine hK.out _ _ (fun h => absurd rfl h) ?_
    clear hK KQ
    try simp only [Act.put, List.setIfInBounds_toArray, List.set_cons_zero, List.set_cons_succ]
    refine wpAnyE_done (by kernel_rfl) ?_ _
    refine NoPanic.normal ?_
    have HX5 := Lib.hid hx4
    have HB5 := Lib.hid (HB3.out.trans (hfr4.below HX3.out.2.2.2.2.2.1 HX3.out.2.2.2.2.2.2.2.1 (fun g h => by cases h) HB3.out.size))
    clear hx4 hfr4 hq hput HS0 HX3 HXN HRN HB3 HBA
    go_wp2_with fail
    go_roundw
    case rel => exact ⟨i + 1, ss, HLJ.out, by go_num, Lib.hid (by rw [HTK2.out, ddp_snoc]; rw [if_pos HMI.out]; exact HX5.out), HB5⟩
    case measure => simp [intOf]; have := HLJ.out; omega
   ·
    skip
    obtain ⟨hx4, hfr4⟩ := HX3.out.put (id := [v0, v1, v2, v3, v4, v5, v6, v7]) rfl hm
    have hq : ilk ss [v0, v1, v2, v3, v4, v5, v6, v7] = none := by rw [HX3.out.2.2.2.2.1.2, if_neg hm]
    have hput := put_id8 vB (mt := 136) Tryz.underlying136 HX3.out.2.2.2.1 [v0, v1, v2, v3, v4, v5, v6, v7] true rfl HX3.out.2.2.2.2.1.1 hq
    replace hput : (Instr.mapUpdate 136 (.map (some S)) (.agg #[.int .u8 (v0 : Int), .int .u8 (v1 : Int), .int .u8 (v2 : Int), .int .u8 (v3 : Int), .int .u8 (v4 : Int), .int .u8 (v5 : Int), .int .u8 (v6 : Int), .int .u8 (v7 : Int)]) (.bool true)).run Tryz.prog w4 = .ok () (setBlock w4 S (imO vB (ss ++ [([v0, v1, v2, v3, v4, v5, v6, v7], true)]))) := hput
    have HMI := Lib.hid hm
    refine oneE_ready 5 (by kernel_rfl) rfl (by rfl) (fun KQ hK => ?_)
    go_simp
    refine hK.out _ _ (fun h => absurd rfl h) ?_
    clear hK KQ
    try simp only [Act.put, List.setIfInBounds_toArray, List.set_cons_zero, List.set_cons_succ]
    refine wpAnyE_done (by kernel_rfl) ?_ _
    refine NoPanic.normal ?_
    have HX5 := Lib.hid hx4
    have HB5 := Lib.hid (HB3.out.trans (hfr4.below HX3.out.2.2.2.2.2.1 HX3.out.2.2.2.2.2.2.2.1 (fun g h => by cases h) HB3.out.size))
    clear hx4 hfr4 hq hput HS0 HX3 HXN HRN HB3 HBA
    go_wp2_with fail
    go_roundw
    case rel => exact ⟨i + 1, _, HLJ.out, by go_num, Lib.hid (by rw [HTK2.out, ddp_snoc]; rw [if_neg HMI.out]; exact HX5.out), HB5⟩
    case measure => simp [intOf]; have := HLJ.out; omega
  ·
   skip
   have m1 : ¬ (i : Int) < (hv.length : Int) := by omega
   obtain rfl : i = hv.length := by omega
   have hta : hv.take hv.length = hv := List.take_length
   rw [hta] at HXR
   clear hta
   go_wp2_with fail
   go_loopw [50] (fun jv wr => ∃ (j : Nat) (seen : List (List Nat)) (out : List Bl) (ss : List (List Nat × Bool)) (oa : Option Addr) (oc : Nat), j ≤ rs.length ∧ jv = .int .i64 (j : Int) ∧ Hid (runL (visitF (ilk es) 1000) (rs.take j) (ddp hv, []) = some (seen, out)) ∧ Hid (VX w.heap.size P H S es seen out ss oa oc wr) ∧ Hid (Below w.heap.size w wr)) (fun jv _ => rs.length - (intOf jv).toNat)
   case atStart => exact ⟨0, ddp hv, [], ss, none, 0, Nat.zero_le _, rfl, Lib.hid rfl, HXR, HBR⟩
   case round =>
    obtain ⟨j, seen, out, ss, oa, oc, hj, rfl, HRL, HXR, HBR⟩ := hrel
    have HGR := Lib.hid (runL_grw (visitF_grw HES.out.mz 1000) _ _ _ HRL.out)
    by_cases hlt : j < rs.length
    ·
     skip
     have m2 : (j : Int) < (rs.length : Int) := by omega
     obtain ⟨g2, off2, rfl, hg2, hrr⟩ := (HRS.out.below HBR.out) j hlt
     have htk2 : rs.take (j + 1) = rs.take j ++ [rs[j]] := List.take_succ_eq_append_getElem hlt
     have h8 := R8.out _ (List.getElem_mem hlt)
     generalize rs[j] = n at *
     obtain ⟨v0, v1, v2, v3, v4, v5, v6, v7, rfl⟩ := list8W h8
     have q0 := hrr 0 _ rfl
     have q1 := hrr 1 _ rfl
     have q2 := hrr 2 _ rfl
     have q3 := hrr 3 _ rfl
     have q4 := hrr 4 _ rfl
     have q5 := hrr 5 _ rfl
     have q6 := hrr 6 _ rfl
     have q7 := hrr 7 _ rfl
     simp only [Nat.add_zero, bV] at q0 q1 q2 q3 q4 q5 q6 q7
     have HTK2 := Lib.hid htk2
     have HLJ := Lib.hid hlt
     have hrn := heap_alloc_new wr (.cells #[.int .u8 (v0 : Int), .int .u8 (v1 : Int), .int .u8 (v2 : Int), .int .u8 (v3 : Int), .int .u8 (v4 : Int), .int .u8 (v5 : Int), .int .u8 (v6 : Int), .int .u8 (v7 : Int)] 30)
     have hba := (Below.refl wr.heap.size wr).alloc (Nat.le_refl _) (.cells #[.int .u8 (v0 : Int), .int .u8 (v1 : Int), .int .u8 (v2 : Int), .int .u8 (v3 : Int), .int .u8 (v4 : Int), .int .u8 (v5 : Int), .int .u8 (v6 : Int), .int .u8 (v7 : Int)] 30)
     have HBN := Lib.hid hba
     have HXN := Lib.hid (HXR.out.below hba)
     have HBW := Lib.hid (HBR.out.trans (hba.mono HBR.out.size))
     have p0 := cell_of_row _ _ 0 _ _ _ hrn
     have p1 := cell_of_row _ _ 1 _ _ _ hrn
     have p2 := cell_of_row _ _ 2 _ _ _ hrn
     have p3 := cell_of_row _ _ 3 _ _ _ hrn
     have p4 := cell_of_row _ _ 4 _ _ _ hrn
     have p5 := cell_of_row _ _ 5 _ _ _ hrn
     have p6 := cell_of_row _ _ 6 _ _ _ hrn
     have p7 := cell_of_row _ _ 7 _ _ _ hrn
     simp only [List.getElem?_toArray, List.getElem?_cons_zero, List.getElem?_cons_succ] at p0 p1 p2 p3 p4 p5 p6 p7
     have HCL := Lib.hid (visit_any HT.out (Nat.le_refl w.heap.size) HES.out.1 HES.out.mz 1000 v0 v1 v2 v3 v4 v5 v6 v7 seen out ss oa oc (wr.alloc (.cells #[.int .u8 (v0 : Int), .int .u8 (v1 : Int), .int .u8 (v2 : Int), .int .u8 (v3 : Int), .int .u8 (v4 : Int), .int .u8 (v5 : Int), .int .u8 (v6 : Int), .int .u8 (v7 : Int)] 30)) (Nat.le_trans (remV_l l _) HLE.out) HXN.out HBW.out (by have h1 := HGR.out.len; have h2 := remV_l l (ddp hv); have h3 := HLE.out; simp only [List.length_nil] at h1; omega))
     clear hrr hg2 htk2 h8 hrn hba hlt
     go_wp2_with fail
     refine HCL.out.mono ?_
     rintro e wB ⟨seen2, out2, ss2, oa2, oc2, c, rfl, hxB, hfB, hst⟩
     have HXB := Lib.hid hxB
     have HBB := Lib.hid (HBW.out.trans (hfB.below HXN.out.2.2.2.2.2.1 HXN.out.2.2.2.2.2.2.2.1 (fun g e => (HXN.out.ob e).1) HBW.out.size))
     have HST := Lib.hid hst
     clear hxB hfB hst HCL HXN q0 q1 q2 q3 q4 q5 q6 q7 p0 p1 p2 p3 p4 p5 p6 p7
     rcases HST.out with ⟨h1, h2⟩ | ⟨h1, h2⟩
     ·
      subst h2
      have HRL2 : Hid (runL (visitF (ilk es) 1000) (rs.take (j + 1)) (ddp hv, []) = some (seen2, out2)) := Lib.hid (by rw [HTK2.out, runL_snoc, HRL.out]; exact h1)
      clear h1 HST
      go_wp2_with fail
      go_roundw
      case rel => exact ⟨j + 1, seen2, out2, ss2, oa2, oc2, HLJ.out, by go_num, HRL2, HXB, HBB⟩
      case measure => simp [intOf]; have := HLJ.out; omega
     ·
      have d1 : (c != 0) = true := by simpa using h2
      have HRN : Hid (planF l hv rs = none) := Lib.hid (by
       unfold planF
       rw [← ilk_lkF HES.out, ← List.take_append_drop (j + 1) rs, runL_append, HTK2.out, runL_snoc, HRL.out]
       simp only [h1])
      have HC := Lib.hid h2
      clear h1 h2 HST
      go_wp2_with fail
      go_ret2
      exact ⟨HBB.out, .inr ⟨c, HC.out, rfl, fun _ => HRN.out⟩⟩
    ·
     skip
     have m2 : ¬ (j : Int) < (rs.length : Int) := by omega
     obtain rfl : j = rs.length := by omega
     have HRA : Hid (planF l hv rs = some (seen, out)) := Lib.hid (by have h := HRL.out; rw [List.take_length] at h; unfold planF; rw [← ilk_lkF HES.out]; exact h)
     have HOL : Hid (out.length ≤ 1000) := Lib.hid (by have h1 := HGR.out.len; have h2 := remV_l l (ddp hv); have h3 := HLE.out; simp only [List.length_nil] at h1; omega)
     have e2 := HXR.out.1.c2
     go_wp2_with fail
     go_ret2
     exact ⟨HBR.out, .inl ⟨⟨HBG.out.1, HBG.out.2, HLE.out, HCN.out⟩, seen, out, oa, oc, HRA.out, rfl, HXR.out.2.1, HOL.out⟩⟩
end Go.Proofs.YtbfoonfbhebhfaaGreatDoor
