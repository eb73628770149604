/- Joined: EdCheck, DeltaDiff. -/
import Derived.Test.YtbfoonfbhebhfaaGreatDoorKGoU
import Derived.Deep.RegionHeld3
import Derived.Test.YtbfoonfbhebhfaaGreatDoorKGoV
namespace Go.Proofs.YtbfoonfbhebhfaaGreatDoor
open Go.RowKit Plain
def ebad (x : Ed) : Prop := (x.2.1 = true ∧ x.2.2 ≠ zIt) ∨ (x.2.1 = false ∧ x.2.2.1 ≠ x.1)
open Classical in
noncomputable def ego : Option ByteArray → List Ed → Int
 | _, [] => 0
 | pv, x :: l =>
  if nc x.1 ≠ 0 then nc x.1
  else if ebad x then 4
  else if ∃ p, pv = some p ∧ 0 ≤ cmpL (nk p) (nk x.1) then 4
  else ego (some x.1) l
noncomputable def ecode (l : List Ed) : Int := if 200 < l.length then 2 else ego none l
theorem ego_bad {x : Ed} (h : nc x.1 ≠ 0) (pv : Option ByteArray) (l : List Ed) : ego pv (x :: l) = nc x.1 := by rw [ego, if_pos h]
theorem ego_form {x : Ed} (h : nc x.1 = 0) (hb : ebad x) (pv : Option ByteArray) (l : List Ed) : ego pv (x :: l) = 4 := by rw [ego, if_neg (fun g => g h), if_pos hb]
theorem ego_ord {x : Ed} (h : nc x.1 = 0) (hb : ¬ ebad x) {pv : Option ByteArray} {p : ByteArray} (hp : pv = some p) (hc : 0 ≤ cmpL (nk p) (nk x.1)) (l : List Ed) : ego pv (x :: l) = 4 := by rw [ego, if_neg (fun g => g h), if_neg hb, if_pos ⟨p, hp, hc⟩]
theorem ego_on {x : Ed} (h : nc x.1 = 0) (hb : ¬ ebad x) {pv : Option ByteArray} (hp : ∀ p, pv = some p → cmpL (nk p) (nk x.1) < 0) (l : List Ed) : ego pv (x :: l) = ego (some x.1) l := by
 rw [ego, if_neg (fun g => g h), if_neg hb, if_neg (fun ⟨p, e, g⟩ => by have := hp p e; omega)]
theorem ego_zero : ∀ (l : List Ed) (pv : Option ByteArray), ego pv l = 0 → (∀ x ∈ l, nc x.1 = 0 ∧ ¬ ebad x) ∧ Srt (ke nk) l ∧ ∀ p, pv = some p → ∀ x ∈ l, cmpL (nk p) (nk x.1) < 0
 | [], _, _ => ⟨by simp, Srt.nil, by simp⟩
 | x :: l, pv, h => by
  unfold ego at h
  by_cases h1 : nc x.1 = 0
  ·
   rw [if_neg (fun g => g h1)] at h
   by_cases h2 : ebad x
   ·
    rw [if_pos h2] at h; cases h
   ·
    rw [if_neg h2] at h
    by_cases h3 : ∃ p, pv = some p ∧ 0 ≤ cmpL (nk p) (nk x.1)
    ·
     rw [if_pos h3] at h; cases h
    ·
     rw [if_neg h3] at h
     obtain ⟨i1, i2, i3⟩ := ego_zero l _ h
     have i4 := i3 x.1 rfl
     refine ⟨fun y hy => ?_, Srt.cons (fun y hy => i4 y hy) i2, fun p hp y hy => ?_⟩
     ·
      rcases List.mem_cons.1 hy with rfl | hy
      ·
       exact ⟨h1, h2⟩
      ·
       exact i1 y hy
     ·
      have hpx : cmpL (nk p) (nk x.1) < 0 := by
       apply Classical.byContradiction
       intro hne
       exact h3 ⟨p, hp, by omega⟩
      rcases List.mem_cons.1 hy with rfl | hy
      ·
       exact hpx
      ·
       exact cmpL_trans _ _ _ hpx (i4 y hy)
  ·
   rw [if_pos h1] at h; exact absurd h h1
theorem ebad_ok {x : Ed} (h : ¬ ebad x) : EdOk (pth := Prod.fst) (zero := zIt) x := by
 refine ⟨fun h1 => ?_, fun h1 => ?_⟩
 ·
  apply Classical.byContradiction
  intro h2
  exact h (.inl ⟨h1, h2⟩)
 ·
  apply Classical.byContradiction
  intro h2
  exact h (.inr ⟨h1, h2⟩)
theorem ecode_zero {l : List Ed} (h : ecode l = 0) : l.length ≤ 200 ∧ (∀ x ∈ l, nc x.1 = 0) ∧ (∀ x ∈ l, EdOk (pth := Prod.fst) (zero := zIt) x) ∧ Srt (ke nk) l := by
 unfold ecode at h
 split at h
 ·
  cases h
 ·
  obtain ⟨h1, h2, _⟩ := ego_zero l _ h
  exact ⟨by omega, fun x hx => (h1 x hx).1, fun x hx => ebad_ok (h1 x hx).2, h2⟩
set_option maxRecDepth 100000 in
set_option maxHeartbeats 8000000 in
theorem echeck_any (a : Option Addr) (cap : Nat) (l : List Ed) (m : Int) (w : World) (h : SAt 7 eC w a l) (hl : l.length ≤ 9223372036854775807) (hs : ∀ x ∈ l, x.1.size ≤ 1048576) (hm : MaxL m w) (hT : Tabs w) :
  Calls Tryz.prog 68 #[.slice a l.length cap] w fun e w' => e = .returned (.int .i64 (ecode l)) ∧ Below w.heap.size w w' := by
 have HS := Lib.hid h
 have HSZ := Lib.hid hs
 have HM := Lib.hid hm
 have HT := Lib.hid hT
 have HSP := Lib.hid split_u
 have HNC := Lib.hid ncompare_any
 clear h hs hm hT
 by_cases h200 : 200 < l.length
 ·
  have f1 : (200 : Int) < (l.length : Int) := by omega
  have HR : Hid (ecode l = 2) := by show _ = _; unfold ecode; rw [if_pos h200]
  clear h200
  go_enter Tryz.func68, Tryz.ntmps68
  go_wp2_with fail
  go_ret
  exact ⟨by rw [HR.out]; rfl, Below.refl _ _⟩
 ·
  have f1 : ¬ (200 : Int) < (l.length : Int) := by omega
  have HR : Hid (ecode l = ego none l) := by show _ = _; unfold ecode; rw [if_neg h200]
  have hl1 : l.length ≤ 200 := by omega
  generalize ecode l = wc at *
  clear h200
  go_enter Tryz.func68, Tryz.ntmps68
  go_wp2_with fail
  go_loopw [13] (fun iv wr => ∃ (i : Nat) (pv : Option ByteArray), i ≤ l.length ∧ iv = .int .i64 (i : Int) ∧ Hid (wc = ego pv (l.drop i)) ∧ Hid (pv = if i = 0 then none else (l[i - 1]?).map (·.1)) ∧ Hid (Below w.heap.size w wr)) (fun iv _ => l.length - (intOf iv).toNat)
  case atStart => exact ⟨0, none, by omega, rfl, HR, Lib.hid rfl, Lib.hid (Below.refl _ _)⟩
  case round =>
   obtain ⟨i, pv, hi, rfl, HWC, HPV, HBR⟩ := hrel
   by_cases hlt : i < l.length
   ·
    have m1 : (i : Int) < (l.length : Int) := by omega
    obtain ⟨g, off, rfl, hg, hr⟩ := (HS.out.below HBR.out) i hlt
    have a0 := hr 0 _ rfl
    have a1 := hr 1 _ rfl
    have a2 := hr 2 _ rfl
    have a3 := hr 3 _ rfl
    have a4 := hr 4 _ rfl
    have a5 := hr 5 _ rfl
    have a6 := hr 6 _ rfl
    have HPRV : Hid (i ≠ 0 → ∃ p, pv = some p ∧ wr.cell? ⟨g, off + (i - 1) * 7, none⟩ = some (.string p) ∧ p.size ≤ 1048576) := fun h0 => by
     have hk : i - 1 < l.length := by omega
     obtain ⟨g', off', e, _, hr'⟩ := (HS.out.below HBR.out) (i - 1) hk
     cases e
     refine ⟨(l[i - 1]).1, by rw [HPV.out, if_neg h0, List.getElem?_eq_getElem hk]; rfl, ?_, HSZ.out _ (List.getElem_mem hk)⟩
     have := hr' 0 _ rfl
     exact this
    have HZ : Hid (l[i].1.size ≤ 1048576) := HSZ.out _ (List.getElem_mem hlt)
    have HWD : Hid (wc = ego pv (l[i] :: l.drop (i + 1))) := by show _ = _; rw [HWC.out, List.drop_eq_getElem_cons hlt]
    have HNP : Hid ((some l[i].1) = if i + 1 = 0 then none else (l[i + 1 - 1]?).map (·.1)) := by
     show _ = _
     rw [if_neg (by omega), show i + 1 - 1 = i from rfl, List.getElem?_eq_getElem hlt]; rfl
    have HPZ : Hid (i = 0 → pv = none) := fun h => by rw [HPV.out, if_pos h]
    clear HWC HPV hr
    generalize l[i] = x at *
    obtain ⟨p, gn, q1, q2, q3, q4, q5⟩ := x
    simp only [Nat.add_zero] at a0
    have HBA : Hid (Below w.heap.size w (wr.alloc (.cells #[.string p, .bool gn, .string q1, .int .i64 q2, .int .i64 q3, .int .i64 q4, .string q5] 65))) := HBR.out.alloc HBR.out.size _
    have HRA := Lib.hid (heap_alloc_new wr (.cells #[.string p, .bool gn, .string q1, .int .i64 q2, .int .i64 q3, .int .i64 q4, .string q5] 65))
    have HPA2 : Hid (i ≠ 0 → ∃ p', pv = some p' ∧ (wr.alloc (.cells #[.string p, .bool gn, .string q1, .int .i64 q2, .int .i64 q3, .int .i64 q4, .string q5] 65)).cell? ⟨g, off + (i - 1) * 7, none⟩ = some (.string p') ∧ p'.size ≤ 1048576) := fun h0 => by
     obtain ⟨p', e1, e2, e3⟩ := HPRV.out h0
     exact ⟨p', e1, (((Below.refl _ _).alloc (Nat.le_refl _) _).cell (by exact hg)).trans e2, e3⟩
    have HSPC := Lib.hid (HSP.out p m (wr.alloc (.cells #[.string p, .bool gn, .string q1, .int .i64 q2, .int .i64 q3, .int .i64 q4, .string q5] 65)) (Nat.lt_of_le_of_lt HZ.out (by omega)) (HM.out.below HBA.out) (HT.out.below HBA.out))
    clear HPRV HBR
    dsimp only at *
    have b0 := cell_of_row _ _ 0 _ _ _ HRA.out
    simp only [List.getElem?_toArray, List.getElem?_cons_zero] at b0
    go_wp2_with fail
    have hgA : g < (wr.alloc (.cells #[.string p, .bool gn, .string q1, .int .i64 q2, .int .i64 q3, .int .i64 q4, .string q5] 65)).heap.size := lt_of_block ((((Below.refl _ _).alloc (Nat.le_refl _) _).block _ hg).trans (by rw [Array.getElem?_eq_getElem hg]))
    generalize wr.alloc (.cells #[.string p, .bool gn, .string q1, .int .i64 q2, .int .i64 q3, .int .i64 q4, .string q5] 65) = wa at *
    generalize wr.heap.size = AB at *
    refine HSPC.out.mono ?_
    rintro e w1 ⟨a9, c9, L9, rfl, hb1, _, _, _⟩
    have HB1 := Lib.hid (Below.step HBA.out hb1)
    have HR1 := Lib.hid ((hb1.block _ (lt_of_block HRA.out)).trans HRA.out)
    have HP1 : Hid (i ≠ 0 → ∃ p', pv = some p' ∧ w1.cell? ⟨g, off + (i - 1) * 7, none⟩ = some (.string p') ∧ p'.size ≤ 1048576) := fun h0 => by
     obtain ⟨p', e1, e2, e3⟩ := HPA2.out h0
     exact ⟨p', e1, (hb1.cell (by exact hgA)).trans e2, e3⟩
    have hg1 : g < w1.heap.size := Nat.lt_of_lt_of_le hgA hb1.size
    have hA1 : AB < w1.heap.size := lt_of_block HR1.out
    clear hb1 hgA hg HSPC HPA2 HRA HBA a0 a1 a2 a3 a4 a5 a6 b0
    have y0 := cell_of_row _ _ 0 _ _ _ HR1.out
    have y1 := cell_of_row _ _ 1 _ _ _ HR1.out
    have y2 := cell_of_row _ _ 2 _ _ _ HR1.out
    have y3 := cell_of_row _ _ 3 _ _ _ HR1.out
    have y4 := cell_of_row _ _ 4 _ _ _ HR1.out
    have y5 := cell_of_row _ _ 5 _ _ _ HR1.out
    have y6 := cell_of_row _ _ 6 _ _ _ HR1.out
    simp only [List.getElem?_toArray, List.getElem?_cons_succ, List.getElem?_cons_zero] at y0 y1 y2 y3 y4 y5 y6
    by_cases hc : nc p = 0
    ·
     have HNC0 := Lib.hid hc
     have f2 : (nc p != 0) = false := by simp [hc]
     generalize hic : nc p = ic at f2
     clear hc hic
     obtain ⟨z, hz⟩ : ∃ z : Bool, decide (((q1, q2, q3, q4, q5) : It) = zIt) = z := ⟨_, rfl⟩
     obtain ⟨E1, _, E3⟩ := eqIt (q1, q2, q3, q4, q5) zIt z hz
     simp only [iC, zIt] at E1 E3
     have HZZ : Hid (z = true ↔ ((q1, q2, q3, q4, q5) : It) = zIt) := by rw [← hz]; exact decide_eq_true_iff
     clear hz
     go_wp2_with fail
     cases gn with
     | true =>
      cases z with
      | false =>
       have HBD : Hid (ebad (p, true, q1, q2, q3, q4, q5)) := .inl ⟨rfl, fun h => by have := HZZ.out.2 h; cases this⟩
       clear E1 E3 HZZ
       have HW4 : Hid (wc = 4) := by show _ = _; rw [HWD.out]; exact ego_form HNC0.out HBD.out _ _
       go_wp2_with fail
       go_region
       have HBF : Hid (Below w.heap.size w w1.drew) := HB1.out.drew
       go_wp2_with fail
       go_ret
       exact ⟨by rw [HW4.out]; rfl, HBF.out⟩
      | true =>
       have HNB : Hid (¬ ebad (p, true, q1, q2, q3, q4, q5)) := by
        rintro (⟨_, h⟩ | ⟨h, _⟩)
        ·
         exact h (HZZ.out.1 rfl)
        ·
         cases h
       clear E1 E3 HZZ
       by_cases h0 : i = 0
       ·
        have HWN : Hid (wc = ego (some p) (l.drop (i + 1))) := by show _ = _; rw [HWD.out]; exact ego_on HNC0.out HNB.out (fun p' e => by rw [HPZ.out h0] at e; cases e) _
        have f3 : ¬ (0 : Int) < (i : Int) := by omega
        go_wp2_with fail
        go_region
        have HBF : Hid (Below w.heap.size w w1.drew) := HB1.out.drew
        go_wp2_with fail
        go_roundw
        case rel => exact ⟨i + 1, some p, by omega, by go_num, HWN, HNP, HBF⟩
        case measure => simp [intOf]; omega

       ·
        obtain ⟨j, rfl⟩ : ∃ j, i = j + 1 := ⟨i - 1, by omega⟩
        have f3 : (0 : Int) < ((j + 1 : Nat) : Int) := by omega
        obtain ⟨p', hpv, hpc, hpz⟩ := HP1.out h0
        rw [Nat.add_sub_cancel] at hpc
        have HCMP : Hid (∀ u, Below w1.heap.size w1 u → Calls Tryz.prog 84 #[.string p', .string p] u fun e w' => e = .returned (.int .i64 (cmpL (nk p') (nk p))) ∧ Below u.heap.size u w') := fun u hu => HNC.out p' p m u (by omega) (Nat.lt_of_le_of_lt HZ.out (by omega)) (HM.out.below (Below.step HB1.out hu)) (HT.out.below (Below.step HB1.out hu))
        have HPV := Lib.hid hpv
        have hi1 : (j : Int) < (l.length : Int) := by omega
        have hi2 : (0 : Int) ≤ (j : Int) := by omega
        have hwr1 : IntKind.i64.wrap ((j : Int) + 1 - 1) = (j : Int) := by rw [show (j : Int) + 1 - 1 = (j : Int) by omega]; exact wraps_i64 _ (by omega) (by omega)
        have hix : ((j + 1 : Nat) : Int) - 1 = (j : Int) := by omega
        have hwr2 : IntKind.i64.wrap (j : Int) = (j : Int) := wraps_i64 _ (by omega) (by omega)
        generalize hcv : cmpL (nk p') (nk p) = cv at *
        have HCV := Lib.hid hcv
        clear hcv hpv HP1 HPZ h0
        by_cases hc4 : 0 ≤ cv
        ·
         have HW4 : Hid (wc = 4) := by show _ = _; rw [HWD.out]; exact ego_ord HNC0.out HNB.out HPV.out (by rw [HCV.out]; exact hc4) _
         have hgx : g < w1.drew.heap.size := hg1
         have HSK : Hid (∀ u, Below w1.drew.heap.size w1.drew u → u.cell? ⟨g, off + j * 7, none⟩ = some (.string p') ∧ u.cell? ⟨AB, 0, none⟩ = some (.string p) ∧ u.cell? ⟨AB, 1, none⟩ = some (.bool true) ∧ u.cell? ⟨AB, 2, none⟩ = some (.string q1) ∧ True) := fun u hb => ⟨(hb.cell (p := ⟨g, off + j * 7, none⟩) hg1).trans hpc, (hb.cell (p := ⟨AB, 0, none⟩) hA1).trans y0, (hb.cell (p := ⟨AB, 1, none⟩) hA1).trans y1, (hb.cell (p := ⟨AB, 2, none⟩) hA1).trans y2, trivial⟩
         have HB1 : Hid (Below w.heap.size w w1.drew) := HB1.out.drew
         go_wp2_with fail
         refine wp_region_noPanic ?_
         refine wp_region_held_drew (S := fun u => u.cell? ⟨g, off + j * 7, none⟩ = some (.string p') ∧ u.cell? ⟨AB, 0, none⟩ = some (.string p) ∧ u.cell? ⟨AB, 1, none⟩ = some (.bool true) ∧ u.cell? ⟨AB, 2, none⟩ = some (.string q1) ∧ True) (by kernel_rfl) (HSK.out _ (Below.refl _ _)) (fun hS0 => ?_)
         have HS0 := Lib.hid hS0
         have HB2 : Hid (Below w1.drew.heap.size w1.drew w1.drew) := Below.refl _ _
         have HCMP : Hid (∀ u, Below w1.drew.heap.size w1.drew u → _) := fun u hu => HCMP.out u ((Below.refl w1.heap.size w1).drew.trans hu)
         clear hS0 hpc y0 y1 y2
         generalize w1.drew = w2 at *
         refine take_val 0 (.pointer (some ⟨AB, 1, none⟩)) rfl (by kernel_rfl) (by kernel_rfl) (by kernel_rfl) (fun _ _ _ _ h => h) (by rfl) rfl (fun w _ => by go_simp) HS0.out ?_
         try simp only [List.set_cons_zero, List.set_cons_succ]
         refine take_val 1 (.bool true) rfl (by kernel_rfl) (by kernel_rfl) (by kernel_rfl) (fun _ _ _ _ h => h) (by rfl) rfl (fun w hS => by obtain ⟨s0, s1, s2, s3, _⟩ := hS; go_simp) HS0.out ?_
         try simp only [List.set_cons_zero, List.set_cons_succ]
         refine take_val 2 (.bool true) rfl (by kernel_rfl) (by kernel_rfl) (by kernel_rfl) (fun _ _ _ _ h => h) (by rfl) rfl (fun w _ => by go_simp) HS0.out ?_
         try simp only [List.set_cons_zero, List.set_cons_succ]
         refine take_val 3 (.bool true) rfl (by kernel_rfl) (by kernel_rfl) (by kernel_rfl) (fun _ _ _ _ h => h) (by rfl) rfl (fun w _ => by go_simp) HS0.out ?_
         try simp only [List.set_cons_zero, List.set_cons_succ]
         refine take_val 4 (.bool false) rfl (by kernel_rfl) (by kernel_rfl) (by kernel_rfl) (fun _ _ _ _ h => h) (by rfl) rfl (fun w _ => by go_simp) HS0.out ?_
         try simp only [List.set_cons_zero, List.set_cons_succ]
         refine take_val 5 (.bool false) rfl (by kernel_rfl) (by kernel_rfl) (by kernel_rfl) (fun _ _ _ _ h => h) (by rfl) rfl (fun w _ => by go_simp) HS0.out ?_
         try simp only [List.set_cons_zero, List.set_cons_succ]
         refine take_val 6 (.bool false) rfl (by kernel_rfl) (by kernel_rfl) (by kernel_rfl) (fun _ _ _ _ h => h) (by rfl) rfl (fun w _ => by go_simp) HS0.out ?_
         try simp only [List.set_cons_zero, List.set_cons_succ]
         refine take_val 7 (.pointer (some ⟨AB, 1, none⟩)) rfl (by kernel_rfl) (by kernel_rfl) (by kernel_rfl) (fun _ _ _ _ h => h) (by rfl) rfl (fun w _ => by go_simp) HS0.out ?_
         try simp only [List.set_cons_zero, List.set_cons_succ]
         refine take_val 8 (.bool true) rfl (by kernel_rfl) (by kernel_rfl) (by kernel_rfl) (fun _ _ _ _ h => h) (by rfl) rfl (fun w hS => by obtain ⟨s0, s1, s2, s3, _⟩ := hS; go_simp) HS0.out ?_
         try simp only [List.set_cons_zero, List.set_cons_succ]
         refine take_val 9 (.bool false) rfl (by kernel_rfl) (by kernel_rfl) (by kernel_rfl) (fun _ _ _ _ h => h) (by rfl) rfl (fun w _ => by go_simp) HS0.out ?_
         try simp only [List.set_cons_zero, List.set_cons_succ]
         refine take_val 10 (.bool false) rfl (by kernel_rfl) (by kernel_rfl) (by kernel_rfl) (fun _ _ _ _ h => h) (by rfl) rfl (fun w _ => by go_simp) HS0.out ?_
         try simp only [List.set_cons_zero, List.set_cons_succ]
         refine take_not 11 rfl (by kernel_rfl) (by kernel_rfl) (by kernel_rfl) (fun _ _ _ _ h => h) (by rfl) rfl HS0.out ?_
         try simp only [List.set_cons_zero, List.set_cons_succ]
         refine take_not 12 rfl (by kernel_rfl) (by kernel_rfl) (by kernel_rfl) (fun _ _ _ _ h => h) (by rfl) rfl HS0.out ?_
         try simp only [List.set_cons_zero, List.set_cons_succ]
         refine take_not 13 rfl (by kernel_rfl) (by kernel_rfl) (by kernel_rfl) (fun _ _ _ _ h => h) (by rfl) rfl HS0.out ?_
         try simp only [List.set_cons_zero, List.set_cons_succ]
         refine take_not 14 rfl (by kernel_rfl) (by kernel_rfl) (by kernel_rfl) (fun _ _ _ _ h => h) (by rfl) rfl HS0.out ?_
         try simp only [List.set_cons_zero, List.set_cons_succ]
         refine take_not 15 rfl (by kernel_rfl) (by kernel_rfl) (by kernel_rfl) (fun _ _ _ _ h => h) (by rfl) rfl HS0.out ?_
         try simp only [List.set_cons_zero, List.set_cons_succ]
         refine take_not 16 rfl (by kernel_rfl) (by kernel_rfl) (by kernel_rfl) (fun _ _ _ _ h => h) (by rfl) rfl HS0.out ?_
         try simp only [List.set_cons_zero, List.set_cons_succ]
         refine take_val 17 (.bool false) rfl (by kernel_rfl) (by kernel_rfl) (by kernel_rfl) (fun _ _ _ _ h => h) (by rfl) rfl (fun w _ => by go_simp) HS0.out ?_
         try simp only [List.set_cons_zero, List.set_cons_succ]
         refine take_val 18 (.bool false) rfl (by kernel_rfl) (by kernel_rfl) (by kernel_rfl) (fun _ _ _ _ h => h) (by rfl) rfl (fun w _ => by go_simp) HS0.out ?_
         try simp only [List.set_cons_zero, List.set_cons_succ]
         refine take_val 19 (.bool false) rfl (by kernel_rfl) (by kernel_rfl) (by kernel_rfl) (fun _ _ _ _ h => h) (by rfl) rfl (fun w _ => by go_simp) HS0.out ?_
         try simp only [List.set_cons_zero, List.set_cons_succ]
         refine take_val 20 (.int .i64 ((j : Int) + 1)) rfl (by kernel_rfl) (by kernel_rfl) (by kernel_rfl) (fun _ _ _ _ h => h) (by rfl) rfl (fun w _ => by go_simp) HS0.out ?_
         try simp only [List.set_cons_zero, List.set_cons_succ]
         refine take_val 21 (.bool true) rfl (by kernel_rfl) (by kernel_rfl) (by kernel_rfl) (fun _ _ _ _ h => h) (by rfl) rfl (fun w _ => by go_simp) HS0.out ?_
         try simp only [List.set_cons_zero, List.set_cons_succ]
         refine take_val 22 (.bool true) rfl (by kernel_rfl) (by kernel_rfl) (by kernel_rfl) (fun _ _ _ _ h => h) (by rfl) rfl (fun w _ => by go_simp) HS0.out ?_
         try simp only [List.set_cons_zero, List.set_cons_succ]
         refine take_val 23 (.slice (some ⟨g, off, none⟩) l.length cap) rfl (by kernel_rfl) (by kernel_rfl) (by kernel_rfl) (fun _ _ _ _ h => h) (by rfl) rfl (fun w _ => by go_simp) HS0.out ?_
         try simp only [List.set_cons_zero, List.set_cons_succ]
         refine take_val 24 (.int .i64 ((j : Int) + 1)) rfl (by kernel_rfl) (by kernel_rfl) (by kernel_rfl) (fun _ _ _ _ h => h) (by rfl) rfl (fun w _ => by go_simp) HS0.out ?_
         try simp only [List.set_cons_zero, List.set_cons_succ]
         refine take_val 25 (.int .i64 (j : Int)) rfl (by kernel_rfl) (by kernel_rfl) (by kernel_rfl) (fun _ _ _ _ h => h) (by rfl) rfl (fun w _ => by go_simp) HS0.out ?_
         try simp only [List.set_cons_zero, List.set_cons_succ]
         refine take_val 26 (.pointer (some ⟨g, off + j * 7, none⟩)) rfl (by kernel_rfl) (by kernel_rfl) (by kernel_rfl) (fun _ _ _ _ h => h) (by rfl) rfl (fun w _ => by go_simp) HS0.out ?_
         try simp only [List.set_cons_zero, List.set_cons_succ]
         refine take_val 27 (.pointer (some ⟨g, off + j * 7, none⟩)) rfl (by kernel_rfl) (by kernel_rfl) (by kernel_rfl) (fun _ _ _ _ h => h) (by rfl) rfl (fun w _ => by go_simp) HS0.out ?_
         try simp only [List.set_cons_zero, List.set_cons_succ]
         refine take_val 28 (.string p') rfl (by kernel_rfl) (by kernel_rfl) (by kernel_rfl) (fun _ _ _ _ h => h) (by rfl) rfl (fun w hS => by obtain ⟨s0, s1, s2, s3, _⟩ := hS; go_simp) HS0.out ?_
         try simp only [List.set_cons_zero, List.set_cons_succ]
         refine take_val 29 (.pointer (some ⟨AB, 0, none⟩)) rfl (by kernel_rfl) (by kernel_rfl) (by kernel_rfl) (fun _ _ _ _ h => h) (by rfl) rfl (fun w _ => by go_simp) HS0.out ?_
         try simp only [List.set_cons_zero, List.set_cons_succ]
         refine take_val 30 (.string p) rfl (by kernel_rfl) (by kernel_rfl) (by kernel_rfl) (fun _ _ _ _ h => h) (by rfl) rfl (fun w hS => by obtain ⟨s0, s1, s2, s3, _⟩ := hS; go_simp) HS0.out ?_
         try simp only [List.set_cons_zero, List.set_cons_succ]
         refine one_ready 31 (by kernel_rfl) rfl (by rfl) (fun K hK => ?_)
         go_simp
         refine (HCMP.out _ HB2.out).mono ?_
         rintro e w3 ⟨rfl, hb⟩
         go_wp2_with fail
         have HB3 := Lib.hid (Below.step HB2.out hb)
         have HS3 := Lib.hid (HSK.out _ HB3.out)
         refine hK.out _ _ HS3.out ?_
         clear hK K
         try simp only [Act.put, List.setIfInBounds_toArray]
         try simp only [List.set_cons_zero, List.set_cons_succ]
         refine take_val 32 (.bool true) rfl (by kernel_rfl) (by kernel_rfl) (by kernel_rfl) (fun _ _ _ _ h => h) (by rfl) rfl (fun w _ => by go_simp) HS3.out ?_
         try simp only [List.set_cons_zero, List.set_cons_succ]
         refine take_val 33 (.bool true) rfl (by kernel_rfl) (by kernel_rfl) (by kernel_rfl) (fun _ _ _ _ h => h) (by rfl) rfl (fun w _ => by go_simp) HS3.out ?_
         try simp only [List.set_cons_zero, List.set_cons_succ]
         refine take_val 34 (.bool true) rfl (by kernel_rfl) (by kernel_rfl) (by kernel_rfl) (fun _ _ _ _ h => h) (by rfl) rfl (fun w _ => by go_simp) HS3.out ?_
         try simp only [List.set_cons_zero, List.set_cons_succ]
         refine wpAnyH_done (by kernel_rfl) ?_ _
         refine NoPanic.normal ?_
         have HBF := Lib.hid (Below.step HB1.out HB3.out)
         go_wp2_with fail
         go_ret
         exact ⟨by rw [HW4.out]; rfl, HBF.out⟩
        ·
         have HWN : Hid (wc = ego (some p) (l.drop (j + 1 + 1))) := by
          show _ = _
          rw [HWD.out]
          exact ego_on HNC0.out HNB.out (fun p2 e => by rw [HPV.out] at e; cases e; rw [HCV.out]; omega) _
         clear HPV HCV
         have hgx : g < w1.drew.heap.size := hg1
         have HSK : Hid (∀ u, Below w1.drew.heap.size w1.drew u → u.cell? ⟨g, off + j * 7, none⟩ = some (.string p') ∧ u.cell? ⟨AB, 0, none⟩ = some (.string p) ∧ u.cell? ⟨AB, 1, none⟩ = some (.bool true) ∧ u.cell? ⟨AB, 2, none⟩ = some (.string q1) ∧ True) := fun u hb => ⟨(hb.cell (p := ⟨g, off + j * 7, none⟩) hg1).trans hpc, (hb.cell (p := ⟨AB, 0, none⟩) hA1).trans y0, (hb.cell (p := ⟨AB, 1, none⟩) hA1).trans y1, (hb.cell (p := ⟨AB, 2, none⟩) hA1).trans y2, trivial⟩
         have HB1 : Hid (Below w.heap.size w w1.drew) := HB1.out.drew
         go_wp2_with fail
         refine wp_region_noPanic ?_
         refine wp_region_held_drew (S := fun u => u.cell? ⟨g, off + j * 7, none⟩ = some (.string p') ∧ u.cell? ⟨AB, 0, none⟩ = some (.string p) ∧ u.cell? ⟨AB, 1, none⟩ = some (.bool true) ∧ u.cell? ⟨AB, 2, none⟩ = some (.string q1) ∧ True) (by kernel_rfl) (HSK.out _ (Below.refl _ _)) (fun hS0 => ?_)
         have HS0 := Lib.hid hS0
         have HB2 : Hid (Below w1.drew.heap.size w1.drew w1.drew) := Below.refl _ _
         have HCMP : Hid (∀ u, Below w1.drew.heap.size w1.drew u → _) := fun u hu => HCMP.out u ((Below.refl w1.heap.size w1).drew.trans hu)
         clear hS0 hpc y0 y1 y2
         generalize w1.drew = w2 at *
         refine take_val 0 (.pointer (some ⟨AB, 1, none⟩)) rfl (by kernel_rfl) (by kernel_rfl) (by kernel_rfl) (fun _ _ _ _ h => h) (by rfl) rfl (fun w _ => by go_simp) HS0.out ?_
         try simp only [List.set_cons_zero, List.set_cons_succ]
         refine take_val 1 (.bool true) rfl (by kernel_rfl) (by kernel_rfl) (by kernel_rfl) (fun _ _ _ _ h => h) (by rfl) rfl (fun w hS => by obtain ⟨s0, s1, s2, s3, _⟩ := hS; go_simp) HS0.out ?_
         try simp only [List.set_cons_zero, List.set_cons_succ]
         refine take_val 2 (.bool true) rfl (by kernel_rfl) (by kernel_rfl) (by kernel_rfl) (fun _ _ _ _ h => h) (by rfl) rfl (fun w _ => by go_simp) HS0.out ?_
         try simp only [List.set_cons_zero, List.set_cons_succ]
         refine take_val 3 (.bool true) rfl (by kernel_rfl) (by kernel_rfl) (by kernel_rfl) (fun _ _ _ _ h => h) (by rfl) rfl (fun w _ => by go_simp) HS0.out ?_
         try simp only [List.set_cons_zero, List.set_cons_succ]
         refine take_val 4 (.bool false) rfl (by kernel_rfl) (by kernel_rfl) (by kernel_rfl) (fun _ _ _ _ h => h) (by rfl) rfl (fun w _ => by go_simp) HS0.out ?_
         try simp only [List.set_cons_zero, List.set_cons_succ]
         refine take_val 5 (.bool false) rfl (by kernel_rfl) (by kernel_rfl) (by kernel_rfl) (fun _ _ _ _ h => h) (by rfl) rfl (fun w _ => by go_simp) HS0.out ?_
         try simp only [List.set_cons_zero, List.set_cons_succ]
         refine take_val 6 (.bool false) rfl (by kernel_rfl) (by kernel_rfl) (by kernel_rfl) (fun _ _ _ _ h => h) (by rfl) rfl (fun w _ => by go_simp) HS0.out ?_
         try simp only [List.set_cons_zero, List.set_cons_succ]
         refine take_val 7 (.pointer (some ⟨AB, 1, none⟩)) rfl (by kernel_rfl) (by kernel_rfl) (by kernel_rfl) (fun _ _ _ _ h => h) (by rfl) rfl (fun w _ => by go_simp) HS0.out ?_
         try simp only [List.set_cons_zero, List.set_cons_succ]
         refine take_val 8 (.bool true) rfl (by kernel_rfl) (by kernel_rfl) (by kernel_rfl) (fun _ _ _ _ h => h) (by rfl) rfl (fun w hS => by obtain ⟨s0, s1, s2, s3, _⟩ := hS; go_simp) HS0.out ?_
         try simp only [List.set_cons_zero, List.set_cons_succ]
         refine take_val 9 (.bool false) rfl (by kernel_rfl) (by kernel_rfl) (by kernel_rfl) (fun _ _ _ _ h => h) (by rfl) rfl (fun w _ => by go_simp) HS0.out ?_
         try simp only [List.set_cons_zero, List.set_cons_succ]
         refine take_val 10 (.bool false) rfl (by kernel_rfl) (by kernel_rfl) (by kernel_rfl) (fun _ _ _ _ h => h) (by rfl) rfl (fun w _ => by go_simp) HS0.out ?_
         try simp only [List.set_cons_zero, List.set_cons_succ]
         refine take_not 11 rfl (by kernel_rfl) (by kernel_rfl) (by kernel_rfl) (fun _ _ _ _ h => h) (by rfl) rfl HS0.out ?_
         try simp only [List.set_cons_zero, List.set_cons_succ]
         refine take_not 12 rfl (by kernel_rfl) (by kernel_rfl) (by kernel_rfl) (fun _ _ _ _ h => h) (by rfl) rfl HS0.out ?_
         try simp only [List.set_cons_zero, List.set_cons_succ]
         refine take_not 13 rfl (by kernel_rfl) (by kernel_rfl) (by kernel_rfl) (fun _ _ _ _ h => h) (by rfl) rfl HS0.out ?_
         try simp only [List.set_cons_zero, List.set_cons_succ]
         refine take_not 14 rfl (by kernel_rfl) (by kernel_rfl) (by kernel_rfl) (fun _ _ _ _ h => h) (by rfl) rfl HS0.out ?_
         try simp only [List.set_cons_zero, List.set_cons_succ]
         refine take_not 15 rfl (by kernel_rfl) (by kernel_rfl) (by kernel_rfl) (fun _ _ _ _ h => h) (by rfl) rfl HS0.out ?_
         try simp only [List.set_cons_zero, List.set_cons_succ]
         refine take_not 16 rfl (by kernel_rfl) (by kernel_rfl) (by kernel_rfl) (fun _ _ _ _ h => h) (by rfl) rfl HS0.out ?_
         try simp only [List.set_cons_zero, List.set_cons_succ]
         refine take_val 17 (.bool false) rfl (by kernel_rfl) (by kernel_rfl) (by kernel_rfl) (fun _ _ _ _ h => h) (by rfl) rfl (fun w _ => by go_simp) HS0.out ?_
         try simp only [List.set_cons_zero, List.set_cons_succ]
         refine take_val 18 (.bool false) rfl (by kernel_rfl) (by kernel_rfl) (by kernel_rfl) (fun _ _ _ _ h => h) (by rfl) rfl (fun w _ => by go_simp) HS0.out ?_
         try simp only [List.set_cons_zero, List.set_cons_succ]
         refine take_val 19 (.bool false) rfl (by kernel_rfl) (by kernel_rfl) (by kernel_rfl) (fun _ _ _ _ h => h) (by rfl) rfl (fun w _ => by go_simp) HS0.out ?_
         try simp only [List.set_cons_zero, List.set_cons_succ]
         refine take_val 20 (.int .i64 ((j : Int) + 1)) rfl (by kernel_rfl) (by kernel_rfl) (by kernel_rfl) (fun _ _ _ _ h => h) (by rfl) rfl (fun w _ => by go_simp) HS0.out ?_
         try simp only [List.set_cons_zero, List.set_cons_succ]
         refine take_val 21 (.bool true) rfl (by kernel_rfl) (by kernel_rfl) (by kernel_rfl) (fun _ _ _ _ h => h) (by rfl) rfl (fun w _ => by go_simp) HS0.out ?_
         try simp only [List.set_cons_zero, List.set_cons_succ]
         refine take_val 22 (.bool true) rfl (by kernel_rfl) (by kernel_rfl) (by kernel_rfl) (fun _ _ _ _ h => h) (by rfl) rfl (fun w _ => by go_simp) HS0.out ?_
         try simp only [List.set_cons_zero, List.set_cons_succ]
         refine take_val 23 (.slice (some ⟨g, off, none⟩) l.length cap) rfl (by kernel_rfl) (by kernel_rfl) (by kernel_rfl) (fun _ _ _ _ h => h) (by rfl) rfl (fun w _ => by go_simp) HS0.out ?_
         try simp only [List.set_cons_zero, List.set_cons_succ]
         refine take_val 24 (.int .i64 ((j : Int) + 1)) rfl (by kernel_rfl) (by kernel_rfl) (by kernel_rfl) (fun _ _ _ _ h => h) (by rfl) rfl (fun w _ => by go_simp) HS0.out ?_
         try simp only [List.set_cons_zero, List.set_cons_succ]
         refine take_val 25 (.int .i64 (j : Int)) rfl (by kernel_rfl) (by kernel_rfl) (by kernel_rfl) (fun _ _ _ _ h => h) (by rfl) rfl (fun w _ => by go_simp) HS0.out ?_
         try simp only [List.set_cons_zero, List.set_cons_succ]
         refine take_val 26 (.pointer (some ⟨g, off + j * 7, none⟩)) rfl (by kernel_rfl) (by kernel_rfl) (by kernel_rfl) (fun _ _ _ _ h => h) (by rfl) rfl (fun w _ => by go_simp) HS0.out ?_
         try simp only [List.set_cons_zero, List.set_cons_succ]
         refine take_val 27 (.pointer (some ⟨g, off + j * 7, none⟩)) rfl (by kernel_rfl) (by kernel_rfl) (by kernel_rfl) (fun _ _ _ _ h => h) (by rfl) rfl (fun w _ => by go_simp) HS0.out ?_
         try simp only [List.set_cons_zero, List.set_cons_succ]
         refine take_val 28 (.string p') rfl (by kernel_rfl) (by kernel_rfl) (by kernel_rfl) (fun _ _ _ _ h => h) (by rfl) rfl (fun w hS => by obtain ⟨s0, s1, s2, s3, _⟩ := hS; go_simp) HS0.out ?_
         try simp only [List.set_cons_zero, List.set_cons_succ]
         refine take_val 29 (.pointer (some ⟨AB, 0, none⟩)) rfl (by kernel_rfl) (by kernel_rfl) (by kernel_rfl) (fun _ _ _ _ h => h) (by rfl) rfl (fun w _ => by go_simp) HS0.out ?_
         try simp only [List.set_cons_zero, List.set_cons_succ]
         refine take_val 30 (.string p) rfl (by kernel_rfl) (by kernel_rfl) (by kernel_rfl) (fun _ _ _ _ h => h) (by rfl) rfl (fun w hS => by obtain ⟨s0, s1, s2, s3, _⟩ := hS; go_simp) HS0.out ?_
         try simp only [List.set_cons_zero, List.set_cons_succ]
         refine one_ready 31 (by kernel_rfl) rfl (by rfl) (fun K hK => ?_)
         go_simp
         refine (HCMP.out _ HB2.out).mono ?_
         rintro e w3 ⟨rfl, hb⟩
         go_wp2_with fail
         have HB3 := Lib.hid (Below.step HB2.out hb)
         have HS3 := Lib.hid (HSK.out _ HB3.out)
         refine hK.out _ _ HS3.out ?_
         clear hK K
         try simp only [Act.put, List.setIfInBounds_toArray]
         try simp only [List.set_cons_zero, List.set_cons_succ]
         refine take_val 32 (.bool false) rfl (by kernel_rfl) (by kernel_rfl) (by kernel_rfl) (fun _ _ _ _ h => h) (by rfl) rfl (fun w _ => by go_simp) HS3.out ?_
         try simp only [List.set_cons_zero, List.set_cons_succ]
         refine take_val 33 (.bool false) rfl (by kernel_rfl) (by kernel_rfl) (by kernel_rfl) (fun _ _ _ _ h => h) (by rfl) rfl (fun w _ => by go_simp) HS3.out ?_
         try simp only [List.set_cons_zero, List.set_cons_succ]
         refine take_val 34 (.bool false) rfl (by kernel_rfl) (by kernel_rfl) (by kernel_rfl) (fun _ _ _ _ h => h) (by rfl) rfl (fun w _ => by go_simp) HS3.out ?_
         try simp only [List.set_cons_zero, List.set_cons_succ]
         refine wpAnyH_done (by kernel_rfl) ?_ _
         refine NoPanic.normal ?_
         have HBF := Lib.hid (Below.step HB1.out HB3.out)
         go_wp2_with fail
         go_roundw
         case rel => exact ⟨j + 1 + 1, some p, by omega, by go_num, HWN, HNP, HBF⟩
         case measure => simp [intOf]; omega

     | false =>
      clear E1 E3 HZZ
      by_cases hq : q1 = p
      ·
       subst hq
       have HNB : Hid (¬ ebad (q1, false, q1, q2, q3, q4, q5)) := by
        rintro (⟨h, _⟩ | ⟨_, h⟩)
        ·
         cases h
        ·
         exact h rfl
       have f4 : (q1.toList == q1.toList) = true := same_strB rfl
       by_cases h0 : i = 0
       ·
        have HWN : Hid (wc = ego (some q1) (l.drop (i + 1))) := by show _ = _; rw [HWD.out]; exact ego_on HNC0.out HNB.out (fun p' e => by rw [HPZ.out h0] at e; cases e) _
        have f3 : ¬ (0 : Int) < (i : Int) := by omega
        go_wp2_with fail
        go_region
        have HBF : Hid (Below w.heap.size w w1.drew) := HB1.out.drew
        go_wp2_with fail
        go_roundw
        case rel => exact ⟨i + 1, some q1, by omega, by go_num, HWN, HNP, HBF⟩
        case measure => simp [intOf]; omega

       ·
        obtain ⟨j, rfl⟩ : ∃ j, i = j + 1 := ⟨i - 1, by omega⟩
        have f3 : (0 : Int) < ((j + 1 : Nat) : Int) := by omega
        obtain ⟨p', hpv, hpc, hpz⟩ := HP1.out h0
        rw [Nat.add_sub_cancel] at hpc
        have HCMP : Hid (∀ u, Below w1.heap.size w1 u → Calls Tryz.prog 84 #[.string p', .string q1] u fun e w' => e = .returned (.int .i64 (cmpL (nk p') (nk q1))) ∧ Below u.heap.size u w') := fun u hu => HNC.out p' q1 m u (by omega) (Nat.lt_of_le_of_lt HZ.out (by omega)) (HM.out.below (Below.step HB1.out hu)) (HT.out.below (Below.step HB1.out hu))
        have HPV := Lib.hid hpv
        have hi1 : (j : Int) < (l.length : Int) := by omega
        have hi2 : (0 : Int) ≤ (j : Int) := by omega
        have hwr1 : IntKind.i64.wrap ((j : Int) + 1 - 1) = (j : Int) := by rw [show (j : Int) + 1 - 1 = (j : Int) by omega]; exact wraps_i64 _ (by omega) (by omega)
        have hix : ((j + 1 : Nat) : Int) - 1 = (j : Int) := by omega
        have hwr2 : IntKind.i64.wrap (j : Int) = (j : Int) := wraps_i64 _ (by omega) (by omega)
        generalize hcv : cmpL (nk p') (nk q1) = cv at *
        have HCV := Lib.hid hcv
        clear hcv hpv HP1 HPZ h0
        by_cases hc4 : 0 ≤ cv
        ·
         have HW4 : Hid (wc = 4) := by show _ = _; rw [HWD.out]; exact ego_ord HNC0.out HNB.out HPV.out (by rw [HCV.out]; exact hc4) _
         have hgx : g < w1.drew.heap.size := hg1
         have HSK : Hid (∀ u, Below w1.drew.heap.size w1.drew u → u.cell? ⟨g, off + j * 7, none⟩ = some (.string p') ∧ u.cell? ⟨AB, 0, none⟩ = some (.string q1) ∧ u.cell? ⟨AB, 1, none⟩ = some (.bool false) ∧ u.cell? ⟨AB, 2, none⟩ = some (.string q1) ∧ True) := fun u hb => ⟨(hb.cell (p := ⟨g, off + j * 7, none⟩) hg1).trans hpc, (hb.cell (p := ⟨AB, 0, none⟩) hA1).trans y0, (hb.cell (p := ⟨AB, 1, none⟩) hA1).trans y1, (hb.cell (p := ⟨AB, 2, none⟩) hA1).trans y2, trivial⟩
         have HB1 : Hid (Below w.heap.size w w1.drew) := HB1.out.drew
         go_wp2_with fail
         refine wp_region_noPanic ?_
         refine wp_region_held_drew (S := fun u => u.cell? ⟨g, off + j * 7, none⟩ = some (.string p') ∧ u.cell? ⟨AB, 0, none⟩ = some (.string q1) ∧ u.cell? ⟨AB, 1, none⟩ = some (.bool false) ∧ u.cell? ⟨AB, 2, none⟩ = some (.string q1) ∧ True) (by kernel_rfl) (HSK.out _ (Below.refl _ _)) (fun hS0 => ?_)
         have HS0 := Lib.hid hS0
         have HB2 : Hid (Below w1.drew.heap.size w1.drew w1.drew) := Below.refl _ _
         have HCMP : Hid (∀ u, Below w1.drew.heap.size w1.drew u → _) := fun u hu => HCMP.out u ((Below.refl w1.heap.size w1).drew.trans hu)
         clear hS0 hpc y0 y1 y2
         generalize w1.drew = w2 at *
         refine take_val 0 (.pointer (some ⟨AB, 1, none⟩)) rfl (by kernel_rfl) (by kernel_rfl) (by kernel_rfl) (fun _ _ _ _ h => h) (by rfl) rfl (fun w _ => by go_simp) HS0.out ?_
         try simp only [List.set_cons_zero, List.set_cons_succ]
         refine take_val 1 (.bool false) rfl (by kernel_rfl) (by kernel_rfl) (by kernel_rfl) (fun _ _ _ _ h => h) (by rfl) rfl (fun w hS => by obtain ⟨s0, s1, s2, s3, _⟩ := hS; go_simp) HS0.out ?_
         try simp only [List.set_cons_zero, List.set_cons_succ]
         refine take_val 2 (.bool false) rfl (by kernel_rfl) (by kernel_rfl) (by kernel_rfl) (fun _ _ _ _ h => h) (by rfl) rfl (fun w _ => by go_simp) HS0.out ?_
         try simp only [List.set_cons_zero, List.set_cons_succ]
         refine take_not 3 rfl (by kernel_rfl) (by kernel_rfl) (by kernel_rfl) (fun _ _ _ _ h => h) (by rfl) rfl HS0.out ?_
         try simp only [List.set_cons_zero, List.set_cons_succ]
         refine take_not 4 rfl (by kernel_rfl) (by kernel_rfl) (by kernel_rfl) (fun _ _ _ _ h => h) (by rfl) rfl HS0.out ?_
         try simp only [List.set_cons_zero, List.set_cons_succ]
         refine take_val 5 (.bool false) rfl (by kernel_rfl) (by kernel_rfl) (by kernel_rfl) (fun _ _ _ _ h => h) (by rfl) rfl (fun w _ => by go_simp) HS0.out ?_
         try simp only [List.set_cons_zero, List.set_cons_succ]
         refine take_val 6 (.bool false) rfl (by kernel_rfl) (by kernel_rfl) (by kernel_rfl) (fun _ _ _ _ h => h) (by rfl) rfl (fun w _ => by go_simp) HS0.out ?_
         try simp only [List.set_cons_zero, List.set_cons_succ]
         refine take_val 7 (.pointer (some ⟨AB, 1, none⟩)) rfl (by kernel_rfl) (by kernel_rfl) (by kernel_rfl) (fun _ _ _ _ h => h) (by rfl) rfl (fun w _ => by go_simp) HS0.out ?_
         try simp only [List.set_cons_zero, List.set_cons_succ]
         refine take_val 8 (.bool false) rfl (by kernel_rfl) (by kernel_rfl) (by kernel_rfl) (fun _ _ _ _ h => h) (by rfl) rfl (fun w hS => by obtain ⟨s0, s1, s2, s3, _⟩ := hS; go_simp) HS0.out ?_
         try simp only [List.set_cons_zero, List.set_cons_succ]
         refine take_val 9 (.bool true) rfl (by kernel_rfl) (by kernel_rfl) (by kernel_rfl) (fun _ _ _ _ h => h) (by rfl) rfl (fun w _ => by go_simp) HS0.out ?_
         try simp only [List.set_cons_zero, List.set_cons_succ]
         refine take_val 10 (.bool true) rfl (by kernel_rfl) (by kernel_rfl) (by kernel_rfl) (fun _ _ _ _ h => h) (by rfl) rfl (fun w _ => by go_simp) HS0.out ?_
         try simp only [List.set_cons_zero, List.set_cons_succ]
         refine take_val 11 (.pointer (some ⟨AB, 2, none⟩)) rfl (by kernel_rfl) (by kernel_rfl) (by kernel_rfl) (fun _ _ _ _ h => h) (by rfl) rfl (fun w _ => by go_simp) HS0.out ?_
         try simp only [List.set_cons_zero, List.set_cons_succ]
         refine take_val 12 (.pointer (some ⟨AB, 2, none⟩)) rfl (by kernel_rfl) (by kernel_rfl) (by kernel_rfl) (fun _ _ _ _ h => h) (by rfl) rfl (fun w _ => by go_simp) HS0.out ?_
         try simp only [List.set_cons_zero, List.set_cons_succ]
         refine take_val 13 (.string q1) rfl (by kernel_rfl) (by kernel_rfl) (by kernel_rfl) (fun _ _ _ _ h => h) (by rfl) rfl (fun w hS => by obtain ⟨s0, s1, s2, s3, _⟩ := hS; go_simp) HS0.out ?_
         try simp only [List.set_cons_zero, List.set_cons_succ]
         refine take_val 14 (.pointer (some ⟨AB, 0, none⟩)) rfl (by kernel_rfl) (by kernel_rfl) (by kernel_rfl) (fun _ _ _ _ h => h) (by rfl) rfl (fun w _ => by go_simp) HS0.out ?_
         try simp only [List.set_cons_zero, List.set_cons_succ]
         refine take_val 15 (.string q1) rfl (by kernel_rfl) (by kernel_rfl) (by kernel_rfl) (fun _ _ _ _ h => h) (by rfl) rfl (fun w hS => by obtain ⟨s0, s1, s2, s3, _⟩ := hS; go_simp) HS0.out ?_
         try simp only [List.set_cons_zero, List.set_cons_succ]
         refine take_val 16 (.bool false) rfl (by kernel_rfl) (by kernel_rfl) (by kernel_rfl) (fun _ _ _ _ h => h) (by rfl) rfl (fun w _ => by go_simp) HS0.out ?_
         try simp only [List.set_cons_zero, List.set_cons_succ]
         refine take_val 17 (.bool false) rfl (by kernel_rfl) (by kernel_rfl) (by kernel_rfl) (fun _ _ _ _ h => h) (by rfl) rfl (fun w _ => by go_simp) HS0.out ?_
         try simp only [List.set_cons_zero, List.set_cons_succ]
         refine take_val 18 (.bool false) rfl (by kernel_rfl) (by kernel_rfl) (by kernel_rfl) (fun _ _ _ _ h => h) (by rfl) rfl (fun w _ => by go_simp) HS0.out ?_
         try simp only [List.set_cons_zero, List.set_cons_succ]
         refine take_val 19 (.bool false) rfl (by kernel_rfl) (by kernel_rfl) (by kernel_rfl) (fun _ _ _ _ h => h) (by rfl) rfl (fun w _ => by go_simp) HS0.out ?_
         try simp only [List.set_cons_zero, List.set_cons_succ]
         refine take_val 20 (.int .i64 ((j : Int) + 1)) rfl (by kernel_rfl) (by kernel_rfl) (by kernel_rfl) (fun _ _ _ _ h => h) (by rfl) rfl (fun w _ => by go_simp) HS0.out ?_
         try simp only [List.set_cons_zero, List.set_cons_succ]
         refine take_val 21 (.bool true) rfl (by kernel_rfl) (by kernel_rfl) (by kernel_rfl) (fun _ _ _ _ h => h) (by rfl) rfl (fun w _ => by go_simp) HS0.out ?_
         try simp only [List.set_cons_zero, List.set_cons_succ]
         refine take_val 22 (.bool true) rfl (by kernel_rfl) (by kernel_rfl) (by kernel_rfl) (fun _ _ _ _ h => h) (by rfl) rfl (fun w _ => by go_simp) HS0.out ?_
         try simp only [List.set_cons_zero, List.set_cons_succ]
         refine take_val 23 (.slice (some ⟨g, off, none⟩) l.length cap) rfl (by kernel_rfl) (by kernel_rfl) (by kernel_rfl) (fun _ _ _ _ h => h) (by rfl) rfl (fun w _ => by go_simp) HS0.out ?_
         try simp only [List.set_cons_zero, List.set_cons_succ]
         refine take_val 24 (.int .i64 ((j : Int) + 1)) rfl (by kernel_rfl) (by kernel_rfl) (by kernel_rfl) (fun _ _ _ _ h => h) (by rfl) rfl (fun w _ => by go_simp) HS0.out ?_
         try simp only [List.set_cons_zero, List.set_cons_succ]
         refine take_val 25 (.int .i64 (j : Int)) rfl (by kernel_rfl) (by kernel_rfl) (by kernel_rfl) (fun _ _ _ _ h => h) (by rfl) rfl (fun w _ => by go_simp) HS0.out ?_
         try simp only [List.set_cons_zero, List.set_cons_succ]
         refine take_val 26 (.pointer (some ⟨g, off + j * 7, none⟩)) rfl (by kernel_rfl) (by kernel_rfl) (by kernel_rfl) (fun _ _ _ _ h => h) (by rfl) rfl (fun w _ => by go_simp) HS0.out ?_
         try simp only [List.set_cons_zero, List.set_cons_succ]
         refine take_val 27 (.pointer (some ⟨g, off + j * 7, none⟩)) rfl (by kernel_rfl) (by kernel_rfl) (by kernel_rfl) (fun _ _ _ _ h => h) (by rfl) rfl (fun w _ => by go_simp) HS0.out ?_
         try simp only [List.set_cons_zero, List.set_cons_succ]
         refine take_val 28 (.string p') rfl (by kernel_rfl) (by kernel_rfl) (by kernel_rfl) (fun _ _ _ _ h => h) (by rfl) rfl (fun w hS => by obtain ⟨s0, s1, s2, s3, _⟩ := hS; go_simp) HS0.out ?_
         try simp only [List.set_cons_zero, List.set_cons_succ]
         refine take_val 29 (.pointer (some ⟨AB, 0, none⟩)) rfl (by kernel_rfl) (by kernel_rfl) (by kernel_rfl) (fun _ _ _ _ h => h) (by rfl) rfl (fun w _ => by go_simp) HS0.out ?_
         try simp only [List.set_cons_zero, List.set_cons_succ]
         refine take_val 30 (.string q1) rfl (by kernel_rfl) (by kernel_rfl) (by kernel_rfl) (fun _ _ _ _ h => h) (by rfl) rfl (fun w hS => by obtain ⟨s0, s1, s2, s3, _⟩ := hS; go_simp) HS0.out ?_
         try simp only [List.set_cons_zero, List.set_cons_succ]
         refine one_ready 31 (by kernel_rfl) rfl (by rfl) (fun K hK => ?_)
         go_simp
         refine (HCMP.out _ HB2.out).mono ?_
         rintro e w3 ⟨rfl, hb⟩
         go_wp2_with fail
         have HB3 := Lib.hid (Below.step HB2.out hb)
         have HS3 := Lib.hid (HSK.out _ HB3.out)
         refine hK.out _ _ HS3.out ?_
         clear hK K
         try simp only [Act.put, List.setIfInBounds_toArray]
         try simp only [List.set_cons_zero, List.set_cons_succ]
         refine take_val 32 (.bool true) rfl (by kernel_rfl) (by kernel_rfl) (by kernel_rfl) (fun _ _ _ _ h => h) (by rfl) rfl (fun w _ => by go_simp) HS3.out ?_
         try simp only [List.set_cons_zero, List.set_cons_succ]
         refine take_val 33 (.bool true) rfl (by kernel_rfl) (by kernel_rfl) (by kernel_rfl) (fun _ _ _ _ h => h) (by rfl) rfl (fun w _ => by go_simp) HS3.out ?_
         try simp only [List.set_cons_zero, List.set_cons_succ]
         refine take_val 34 (.bool true) rfl (by kernel_rfl) (by kernel_rfl) (by kernel_rfl) (fun _ _ _ _ h => h) (by rfl) rfl (fun w _ => by go_simp) HS3.out ?_
         try simp only [List.set_cons_zero, List.set_cons_succ]
         refine wpAnyH_done (by kernel_rfl) ?_ _
         refine NoPanic.normal ?_
         have HBF := Lib.hid (Below.step HB1.out HB3.out)
         go_wp2_with fail
         go_ret
         exact ⟨by rw [HW4.out]; rfl, HBF.out⟩
        ·
         have HWN : Hid (wc = ego (some q1) (l.drop (j + 1 + 1))) := by
          show _ = _
          rw [HWD.out]
          exact ego_on HNC0.out HNB.out (fun p2 e => by rw [HPV.out] at e; cases e; rw [HCV.out]; omega) _
         clear HPV HCV
         have hgx : g < w1.drew.heap.size := hg1
         have HSK : Hid (∀ u, Below w1.drew.heap.size w1.drew u → u.cell? ⟨g, off + j * 7, none⟩ = some (.string p') ∧ u.cell? ⟨AB, 0, none⟩ = some (.string q1) ∧ u.cell? ⟨AB, 1, none⟩ = some (.bool false) ∧ u.cell? ⟨AB, 2, none⟩ = some (.string q1) ∧ True) := fun u hb => ⟨(hb.cell (p := ⟨g, off + j * 7, none⟩) hg1).trans hpc, (hb.cell (p := ⟨AB, 0, none⟩) hA1).trans y0, (hb.cell (p := ⟨AB, 1, none⟩) hA1).trans y1, (hb.cell (p := ⟨AB, 2, none⟩) hA1).trans y2, trivial⟩
         have HB1 : Hid (Below w.heap.size w w1.drew) := HB1.out.drew
         go_wp2_with fail
         refine wp_region_noPanic ?_
         refine wp_region_held_drew (S := fun u => u.cell? ⟨g, off + j * 7, none⟩ = some (.string p') ∧ u.cell? ⟨AB, 0, none⟩ = some (.string q1) ∧ u.cell? ⟨AB, 1, none⟩ = some (.bool false) ∧ u.cell? ⟨AB, 2, none⟩ = some (.string q1) ∧ True) (by kernel_rfl) (HSK.out _ (Below.refl _ _)) (fun hS0 => ?_)
         have HS0 := Lib.hid hS0
         have HB2 : Hid (Below w1.drew.heap.size w1.drew w1.drew) := Below.refl _ _
         have HCMP : Hid (∀ u, Below w1.drew.heap.size w1.drew u → _) := fun u hu => HCMP.out u ((Below.refl w1.heap.size w1).drew.trans hu)
         clear hS0 hpc y0 y1 y2
         generalize w1.drew = w2 at *
         refine take_val 0 (.pointer (some ⟨AB, 1, none⟩)) rfl (by kernel_rfl) (by kernel_rfl) (by kernel_rfl) (fun _ _ _ _ h => h) (by rfl) rfl (fun w _ => by go_simp) HS0.out ?_
         try simp only [List.set_cons_zero, List.set_cons_succ]
         refine take_val 1 (.bool false) rfl (by kernel_rfl) (by kernel_rfl) (by kernel_rfl) (fun _ _ _ _ h => h) (by rfl) rfl (fun w hS => by obtain ⟨s0, s1, s2, s3, _⟩ := hS; go_simp) HS0.out ?_
         try simp only [List.set_cons_zero, List.set_cons_succ]
         refine take_val 2 (.bool false) rfl (by kernel_rfl) (by kernel_rfl) (by kernel_rfl) (fun _ _ _ _ h => h) (by rfl) rfl (fun w _ => by go_simp) HS0.out ?_
         try simp only [List.set_cons_zero, List.set_cons_succ]
         refine take_not 3 rfl (by kernel_rfl) (by kernel_rfl) (by kernel_rfl) (fun _ _ _ _ h => h) (by rfl) rfl HS0.out ?_
         try simp only [List.set_cons_zero, List.set_cons_succ]
         refine take_not 4 rfl (by kernel_rfl) (by kernel_rfl) (by kernel_rfl) (fun _ _ _ _ h => h) (by rfl) rfl HS0.out ?_
         try simp only [List.set_cons_zero, List.set_cons_succ]
         refine take_val 5 (.bool false) rfl (by kernel_rfl) (by kernel_rfl) (by kernel_rfl) (fun _ _ _ _ h => h) (by rfl) rfl (fun w _ => by go_simp) HS0.out ?_
         try simp only [List.set_cons_zero, List.set_cons_succ]
         refine take_val 6 (.bool false) rfl (by kernel_rfl) (by kernel_rfl) (by kernel_rfl) (fun _ _ _ _ h => h) (by rfl) rfl (fun w _ => by go_simp) HS0.out ?_
         try simp only [List.set_cons_zero, List.set_cons_succ]
         refine take_val 7 (.pointer (some ⟨AB, 1, none⟩)) rfl (by kernel_rfl) (by kernel_rfl) (by kernel_rfl) (fun _ _ _ _ h => h) (by rfl) rfl (fun w _ => by go_simp) HS0.out ?_
         try simp only [List.set_cons_zero, List.set_cons_succ]
         refine take_val 8 (.bool false) rfl (by kernel_rfl) (by kernel_rfl) (by kernel_rfl) (fun _ _ _ _ h => h) (by rfl) rfl (fun w hS => by obtain ⟨s0, s1, s2, s3, _⟩ := hS; go_simp) HS0.out ?_
         try simp only [List.set_cons_zero, List.set_cons_succ]
         refine take_val 9 (.bool true) rfl (by kernel_rfl) (by kernel_rfl) (by kernel_rfl) (fun _ _ _ _ h => h) (by rfl) rfl (fun w _ => by go_simp) HS0.out ?_
         try simp only [List.set_cons_zero, List.set_cons_succ]
         refine take_val 10 (.bool true) rfl (by kernel_rfl) (by kernel_rfl) (by kernel_rfl) (fun _ _ _ _ h => h) (by rfl) rfl (fun w _ => by go_simp) HS0.out ?_
         try simp only [List.set_cons_zero, List.set_cons_succ]
         refine take_val 11 (.pointer (some ⟨AB, 2, none⟩)) rfl (by kernel_rfl) (by kernel_rfl) (by kernel_rfl) (fun _ _ _ _ h => h) (by rfl) rfl (fun w _ => by go_simp) HS0.out ?_
         try simp only [List.set_cons_zero, List.set_cons_succ]
         refine take_val 12 (.pointer (some ⟨AB, 2, none⟩)) rfl (by kernel_rfl) (by kernel_rfl) (by kernel_rfl) (fun _ _ _ _ h => h) (by rfl) rfl (fun w _ => by go_simp) HS0.out ?_
         try simp only [List.set_cons_zero, List.set_cons_succ]
         refine take_val 13 (.string q1) rfl (by kernel_rfl) (by kernel_rfl) (by kernel_rfl) (fun _ _ _ _ h => h) (by rfl) rfl (fun w hS => by obtain ⟨s0, s1, s2, s3, _⟩ := hS; go_simp) HS0.out ?_
         try simp only [List.set_cons_zero, List.set_cons_succ]
         refine take_val 14 (.pointer (some ⟨AB, 0, none⟩)) rfl (by kernel_rfl) (by kernel_rfl) (by kernel_rfl) (fun _ _ _ _ h => h) (by rfl) rfl (fun w _ => by go_simp) HS0.out ?_
         try simp only [List.set_cons_zero, List.set_cons_succ]
         refine take_val 15 (.string q1) rfl (by kernel_rfl) (by kernel_rfl) (by kernel_rfl) (fun _ _ _ _ h => h) (by rfl) rfl (fun w hS => by obtain ⟨s0, s1, s2, s3, _⟩ := hS; go_simp) HS0.out ?_
         try simp only [List.set_cons_zero, List.set_cons_succ]
         refine take_val 16 (.bool false) rfl (by kernel_rfl) (by kernel_rfl) (by kernel_rfl) (fun _ _ _ _ h => h) (by rfl) rfl (fun w _ => by go_simp) HS0.out ?_
         try simp only [List.set_cons_zero, List.set_cons_succ]
         refine take_val 17 (.bool false) rfl (by kernel_rfl) (by kernel_rfl) (by kernel_rfl) (fun _ _ _ _ h => h) (by rfl) rfl (fun w _ => by go_simp) HS0.out ?_
         try simp only [List.set_cons_zero, List.set_cons_succ]
         refine take_val 18 (.bool false) rfl (by kernel_rfl) (by kernel_rfl) (by kernel_rfl) (fun _ _ _ _ h => h) (by rfl) rfl (fun w _ => by go_simp) HS0.out ?_
         try simp only [List.set_cons_zero, List.set_cons_succ]
         refine take_val 19 (.bool false) rfl (by kernel_rfl) (by kernel_rfl) (by kernel_rfl) (fun _ _ _ _ h => h) (by rfl) rfl (fun w _ => by go_simp) HS0.out ?_
         try simp only [List.set_cons_zero, List.set_cons_succ]
         refine take_val 20 (.int .i64 ((j : Int) + 1)) rfl (by kernel_rfl) (by kernel_rfl) (by kernel_rfl) (fun _ _ _ _ h => h) (by rfl) rfl (fun w _ => by go_simp) HS0.out ?_
         try simp only [List.set_cons_zero, List.set_cons_succ]
         refine take_val 21 (.bool true) rfl (by kernel_rfl) (by kernel_rfl) (by kernel_rfl) (fun _ _ _ _ h => h) (by rfl) rfl (fun w _ => by go_simp) HS0.out ?_
         try simp only [List.set_cons_zero, List.set_cons_succ]
         refine take_val 22 (.bool true) rfl (by kernel_rfl) (by kernel_rfl) (by kernel_rfl) (fun _ _ _ _ h => h) (by rfl) rfl (fun w _ => by go_simp) HS0.out ?_
         try simp only [List.set_cons_zero, List.set_cons_succ]
         refine take_val 23 (.slice (some ⟨g, off, none⟩) l.length cap) rfl (by kernel_rfl) (by kernel_rfl) (by kernel_rfl) (fun _ _ _ _ h => h) (by rfl) rfl (fun w _ => by go_simp) HS0.out ?_
         try simp only [List.set_cons_zero, List.set_cons_succ]
         refine take_val 24 (.int .i64 ((j : Int) + 1)) rfl (by kernel_rfl) (by kernel_rfl) (by kernel_rfl) (fun _ _ _ _ h => h) (by rfl) rfl (fun w _ => by go_simp) HS0.out ?_
         try simp only [List.set_cons_zero, List.set_cons_succ]
         refine take_val 25 (.int .i64 (j : Int)) rfl (by kernel_rfl) (by kernel_rfl) (by kernel_rfl) (fun _ _ _ _ h => h) (by rfl) rfl (fun w _ => by go_simp) HS0.out ?_
         try simp only [List.set_cons_zero, List.set_cons_succ]
         refine take_val 26 (.pointer (some ⟨g, off + j * 7, none⟩)) rfl (by kernel_rfl) (by kernel_rfl) (by kernel_rfl) (fun _ _ _ _ h => h) (by rfl) rfl (fun w _ => by go_simp) HS0.out ?_
         try simp only [List.set_cons_zero, List.set_cons_succ]
         refine take_val 27 (.pointer (some ⟨g, off + j * 7, none⟩)) rfl (by kernel_rfl) (by kernel_rfl) (by kernel_rfl) (fun _ _ _ _ h => h) (by rfl) rfl (fun w _ => by go_simp) HS0.out ?_
         try simp only [List.set_cons_zero, List.set_cons_succ]
         refine take_val 28 (.string p') rfl (by kernel_rfl) (by kernel_rfl) (by kernel_rfl) (fun _ _ _ _ h => h) (by rfl) rfl (fun w hS => by obtain ⟨s0, s1, s2, s3, _⟩ := hS; go_simp) HS0.out ?_
         try simp only [List.set_cons_zero, List.set_cons_succ]
         refine take_val 29 (.pointer (some ⟨AB, 0, none⟩)) rfl (by kernel_rfl) (by kernel_rfl) (by kernel_rfl) (fun _ _ _ _ h => h) (by rfl) rfl (fun w _ => by go_simp) HS0.out ?_
         try simp only [List.set_cons_zero, List.set_cons_succ]
         refine take_val 30 (.string q1) rfl (by kernel_rfl) (by kernel_rfl) (by kernel_rfl) (fun _ _ _ _ h => h) (by rfl) rfl (fun w hS => by obtain ⟨s0, s1, s2, s3, _⟩ := hS; go_simp) HS0.out ?_
         try simp only [List.set_cons_zero, List.set_cons_succ]
         refine one_ready 31 (by kernel_rfl) rfl (by rfl) (fun K hK => ?_)
         go_simp
         refine (HCMP.out _ HB2.out).mono ?_
         rintro e w3 ⟨rfl, hb⟩
         go_wp2_with fail
         have HB3 := Lib.hid (Below.step HB2.out hb)
         have HS3 := Lib.hid (HSK.out _ HB3.out)
         refine hK.out _ _ HS3.out ?_
         clear hK K
         try simp only [Act.put, List.setIfInBounds_toArray]
         try simp only [List.set_cons_zero, List.set_cons_succ]
         refine take_val 32 (.bool false) rfl (by kernel_rfl) (by kernel_rfl) (by kernel_rfl) (fun _ _ _ _ h => h) (by rfl) rfl (fun w _ => by go_simp) HS3.out ?_
         try simp only [List.set_cons_zero, List.set_cons_succ]
         refine take_val 33 (.bool false) rfl (by kernel_rfl) (by kernel_rfl) (by kernel_rfl) (fun _ _ _ _ h => h) (by rfl) rfl (fun w _ => by go_simp) HS3.out ?_
         try simp only [List.set_cons_zero, List.set_cons_succ]
         refine take_val 34 (.bool false) rfl (by kernel_rfl) (by kernel_rfl) (by kernel_rfl) (fun _ _ _ _ h => h) (by rfl) rfl (fun w _ => by go_simp) HS3.out ?_
         try simp only [List.set_cons_zero, List.set_cons_succ]
         refine wpAnyH_done (by kernel_rfl) ?_ _
         refine NoPanic.normal ?_
         have HBF := Lib.hid (Below.step HB1.out HB3.out)
         go_wp2_with fail
         go_roundw
         case rel => exact ⟨j + 1 + 1, some q1, by omega, by go_num, HWN, HNP, HBF⟩
         case measure => simp [intOf]; omega

      ·
       have HBD : Hid (ebad (p, false, q1, q2, q3, q4, q5)) := .inr ⟨rfl, hq⟩
       have f4 : (q1.toList == p.toList) = false := other_strB hq
       have HW4 : Hid (wc = 4) := by show _ = _; rw [HWD.out]; exact ego_form HNC0.out HBD.out _ _
       go_wp2_with fail
       go_region
       have HBF : Hid (Below w.heap.size w w1.drew) := HB1.out.drew
       go_wp2_with fail
       go_ret
       exact ⟨by rw [HW4.out]; rfl, HBF.out⟩
    ·
     have f2 : (nc p != 0) = true := by simpa using hc
     have HWD2 : Hid (wc = nc p) := by
      show _ = _
      rw [HWD.out, ego_bad hc]
     generalize nc p = ic at *
     clear hc HWD
     go_wp2_with fail
     go_ret
     exact ⟨by rw [HWD2.out]; rfl, HB1.out⟩
   ·
    have m2 : ¬ (i : Int) < (l.length : Int) := by omega
    have HW0 : Hid (wc = 0) := by show _ = _; rw [HWC.out, List.drop_eq_nil_of_le (by omega)]; rfl
    go_wp2_with fail
    go_ret
    exact ⟨by rw [HW0.out]; rfl, HBR.out⟩
end Go.Proofs.YtbfoonfbhebhfaaGreatDoor
namespace Go.Proofs.YtbfoonfbhebhfaaGreatDoor
open Go.RowKit Plain
def DiffEnd (w0 : World) (la lb : List It) (e : Ending) (w : World) : Prop :=
 Below w0.heap.size w0 w ∧ ∃ (code : Int) (a : Option Addr) (cap : Nat) (l : List Ed), e = .returned (.tuple #[.slice a l.length cap, .int .i64 code]) ∧ code = (if wcode la ≠ 0 then wcode la else wcode lb) ∧ l.length ≤ cap ∧ cap ≤ 9223372036854775807 ∧ (SAt 7 eC w a l ∧ w.ownsRow w0.heap.size 65 7 (.slice a l.length cap) l.length (l.flatMap eC)) ∧ (code ≠ 0 → l = []) ∧ (code = 0 → Diff nk Prod.fst zIt la lb l)
theorem own_baseD {w : World} {base b2 : Nat} {e : TypeId} {k : Nat} {v : Value} {n : Nat} {xs : List Value} (h : w.ownsRow base e k v n xs) (hb : b2 ≤ base) : w.ownsRow b2 e k v n xs := by
 refine ⟨h.1, ?_⟩
 rcases h.2 with h | ⟨g, c, cur, h0, h1, h2⟩
 ·
  exact .inl h
 ·
  exact .inr ⟨g, c, cur, h0, Nat.le_trans hb h1, h2⟩
theorem OV.start {α : Type} {c : α → List Value} {n : Nat} {sl el : TypeId} (w : World) : OV c n sl el w w.heap.size [] (w.alloc (.cells #[.slice none 0 0] sl)) :=
 ⟨none, 0, heap_alloc_new w _, World.ownsRow_nil _ _ _ _, (Below.refl _ _).alloc (Nat.le_refl _) _⟩
theorem OV.read {α : Type} {c : α → List Value} {n : Nat} {sl el : TypeId} {w0 w : World} {B : Nat} {l : List α} (h : OV c n sl el w0 B l w) (hc : ∀ y, (c y).length = n) :
  ∃ (oa : Option Addr) (oc : Nat), w.heap[B]? = some (.cells #[.slice oa l.length oc] sl (0, 0)) ∧ l.length ≤ oc ∧ oc ≤ 9223372036854775807 ∧ SAt n c w oa l ∧ w.ownsRow (B + 1) el n (.slice oa l.length oc) l.length (l.flatMap c) := by
 obtain ⟨oa, oc, h1, h2, _⟩ := h
 obtain ⟨a, cap, e, h3, h4, h5⟩ := SAt.own h2 hc
 cases e
 exact ⟨_, _, h1, h3, h4, h5, h2⟩
set_option maxRecDepth 100000 in
set_option maxHeartbeats 4000000 in
theorem diff_any (aa ab : Option Addr) (ca cb : Nat) (la lb : List It) (m : Int) (w : World) (ha : SAt 5 iC w aa la) (hb : SAt 5 iC w ab lb) (hla : la.length ≤ ca) (hlb : lb.length ≤ cb) (hca : ca ≤ 9223372036854775807) (hcb : cb ≤ 9223372036854775807) (hsa : ∀ x ∈ la, x.1.size ≤ 1048576) (hsb : ∀ y ∈ lb, y.1.size ≤ 1048576) (hm : MaxL m w) (hT : Tabs w) :
  Calls Tryz.prog 27 #[.slice aa la.length ca, .slice ab lb.length cb] w (DiffEnd w la lb) := by
 have HA := Lib.hid ha
 have HB := Lib.hid hb
 have HSZA := Lib.hid hsa
 have HSZB := Lib.hid hsb
 have HM := Lib.hid hm
 have HT := Lib.hid hT
 have HWC := Lib.hid wcheck_any
 have HSD := Lib.hid sideII_any
 have hmf : ∀ fn first cap u, (Instr.makeFunc fn first cap).run Tryz.prog u = .ok (.func fn first cap) u := fun _ _ _ _ => rfl
 have HB0 : Hid (Below w.heap.size w (w.alloc (.cells #[.slice aa la.length ca, .slice ab lb.length cb] 26))) := (Below.refl _ _).alloc (Nat.le_refl _) _
 have HR0 := Lib.hid (heap_alloc_new w (.cells #[.slice aa la.length ca, .slice ab lb.length cb] 26))
 clear ha hb hsa hsb hm hT
 go_enter Tryz.func27, Tryz.ntmps27
 go_wp2_with fail
 generalize w.alloc (.cells #[.slice aa la.length ca, .slice ab lb.length cb] 26) = wa at *
 go_loopw [14] (fun iv wr => ∃ i : Nat, i ≤ 2 ∧ iv = .int .i64 (i : Int) ∧ Hid (Below w.heap.size w wr) ∧ Hid (wr.heap[w.heap.size]? = some (.cells #[.slice aa la.length ca, .slice ab lb.length cb] 26 (0, 0))) ∧ Hid (1 ≤ i → wcode la = 0) ∧ Hid (2 ≤ i → wcode lb = 0)) (fun iv _ => 2 - (intOf iv).toNat)
 case atStart => exact ⟨0, by omega, rfl, HB0, HR0, Lib.hid (by omega), Lib.hid (by omega)⟩
 case round =>
  obtain ⟨i, hi, rfl, HBR, HR, H1, H2⟩ := hrel
  have c0 := cell_of_row _ _ 0 _ _ _ HR.out
  have c1 := cell_of_row _ _ 1 _ _ _ HR.out
  simp only [List.getElem?_toArray, List.getElem?_cons_succ, List.getElem?_cons_zero] at c0 c1
  obtain rfl | rfl | rfl : i = 0 ∨ i = 1 ∨ i = 2 := by omega
  ·
   go_wp2_with fail
   refine (HWC.out aa ca la m wr (HA.out.below HBR.out) (by omega) HSZA.out (HM.out.below HBR.out) (HT.out.below HBR.out)).mono ?_
   rintro e w1 ⟨rfl, hb1⟩
   have HB1 := Lib.hid (Below.step HBR.out hb1)
   have HR1 := Lib.hid ((hb1.block _ (lt_of_block HR.out)).trans HR.out)
   clear hb1 c0 c1
   by_cases hz : wcode la = 0
   ·
    have HZ := Lib.hid hz
    have f2 : (wcode la != 0) = false := by simp [hz]
    generalize wcode la = k at f2
    clear hz
    go_wp2_with fail
    go_roundw
    case rel => exact ⟨1, by omega, by go_num, HB1, HR1, Lib.hid (fun _ => HZ.out), Lib.hid (by omega)⟩
    case measure => simp [intOf]
   ·
    have HZ : Hid ((if wcode la ≠ 0 then wcode la else wcode lb) = wcode la ∧ wcode la ≠ 0) := ⟨if_pos hz, hz⟩
    have f2 : (wcode la != 0) = true := by simpa using hz
    generalize hk : wcode la = k at f2 ⊢
    have HK := Lib.hid hk
    clear hz hk
    go_wp2_with fail
    go_ret2
    exact ⟨HB1.out, k, none, 0, [], rfl, by rw [HZ.out.1, HK.out], Nat.le_refl _, by omega, ⟨SAt.nil, World.ownsRow_nil _ _ _ _⟩, fun _ => rfl, fun h => absurd h (by rw [← HK.out]; exact HZ.out.2)⟩
  ·
   go_wp2_with fail
   refine (HWC.out ab cb lb m wr (HB.out.below HBR.out) (by omega) HSZB.out (HM.out.below HBR.out) (HT.out.below HBR.out)).mono ?_
   rintro e w1 ⟨rfl, hb1⟩
   have HB1 := Lib.hid (Below.step HBR.out hb1)
   have HR1 := Lib.hid ((hb1.block _ (lt_of_block HR.out)).trans HR.out)
   have HZA := Lib.hid (H1.out (by omega))
   clear hb1 c0 c1
   by_cases hz : wcode lb = 0
   ·
    have HZ := Lib.hid hz
    have f2 : (wcode lb != 0) = false := by simp [hz]
    generalize wcode lb = k at f2
    clear hz
    go_wp2_with fail
    go_roundw
    case rel => exact ⟨2, by omega, by go_num, HB1, HR1, Lib.hid (fun _ => HZA.out), Lib.hid (fun _ => HZ.out)⟩
    case measure => simp [intOf]
   ·
    have HZ : Hid ((if wcode la ≠ 0 then wcode la else wcode lb) = wcode lb ∧ wcode lb ≠ 0) := ⟨if_neg (fun h => h HZA.out), hz⟩
    have f2 : (wcode lb != 0) = true := by simpa using hz
    generalize hk : wcode lb = k at f2 ⊢
    have HK := Lib.hid hk
    clear hz hk
    go_wp2_with fail
    go_ret2
    exact ⟨HB1.out, k, none, 0, [], rfl, by rw [HZ.out.1, HK.out], Nat.le_refl _, by omega, ⟨SAt.nil, World.ownsRow_nil _ _ _ _⟩, fun _ => rfl, fun h => absurd h (by rw [← HK.out]; exact HZ.out.2)⟩
  ·
   have HZA := Lib.hid (H1.out (by omega))
   have HZB := Lib.hid (H2.out (by omega))
   have HLA := Lib.hid (wcode_zero HZA.out).1
   have HLB := Lib.hid (wcode_zero HZB.out).1
   clear c0 c1
   go_wp2_with fail
   refine (HSD.out aa ab ca cb la lb m wr _ wr.heap.size (HA.out.below HBR.out) (HB.out.below HBR.out) hla hlb hca hcb (by have := HLA.out; have := HLB.out; omega) HSZA.out HSZB.out (Nat.le_refl _) (OV.start wr) (HM.out.below HBR.out) (HT.out.below HBR.out)).mono ?_
   rintro e w1 ⟨rfl, M, hM, hev⟩
   have HB1 := Lib.hid (Below.step HBR.out hev.bel)
   obtain ⟨oa, oc, hblk, ho1, ho2, ho3, ho4⟩ := hev.read eC_length
   have HOW := Lib.hid (own_baseD ho4 (show w.heap.size ≤ wr.heap.size + 1 from Nat.le_succ_of_le HBR.out.size))
   have HO1 := Lib.hid ho1
   have HO2 := Lib.hid ho2
   have HO3 := Lib.hid ho3
   have HMM := Lib.hid hM
   have v0 := cell_of_row _ _ 0 _ _ _ hblk
   simp only [List.getElem?_toArray, List.getElem?_cons_zero] at v0
   clear hev hblk ho1 ho2 ho3 ho4 hM
   go_wp2_with fail
   go_ret2
   exact ⟨HB1.out, 0, oa, oc, _, rfl, by rw [if_neg (fun h => h HZA.out), HZB.out], HO1.out, HO2.out, ⟨HO3.out, HOW.out⟩, fun h => absurd rfl h, fun _ => ⟨M, HMM.out, rfl⟩⟩
end Go.Proofs.YtbfoonfbhebhfaaGreatDoor
