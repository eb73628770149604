/- The walk of delta.Check. Printed by wip/gen_edcheck.py. -/
import Derived.Test.YtokckcmkbnhhhaaDoorDeltaClos
import Derived.Deep.RegionHeld3
namespace Go.Proofs.YtokckcmkbnhhhaaDoor
open Go.RowKit Plain
def ebad (x : Ed) : Prop := (x.2.1 = true ∧ x.2.2 ≠ zIt) ∨ (x.2.1 = false ∧ x.2.2.1 ≠ x.1)
open Classical in
noncomputable def ego : Option ByteArray → List Ed → Int
  | _, [] => 0
  | pv, x :: l =>
    if nc x.1 ≠ 0 then nc x.1
    else if ebad x then 4
    else if ∃ p, pv = some p ∧ 0 ≤ cmpL (nk p) (nk x.1) then 4
    else ego (some x.1) l
/-- what delta.Check says of edits -/
noncomputable def ecode (l : List Ed) : Int := if 200 < l.length then 2 else ego none l
theorem ego_bad {x : Ed} (h : nc x.1 ≠ 0) (pv : Option ByteArray) (l : List Ed) : ego pv (x :: l) = nc x.1 := by rw [ego, if_pos h]
theorem ego_form {x : Ed} (h : nc x.1 = 0) (hb : ebad x) (pv : Option ByteArray) (l : List Ed) : ego pv (x :: l) = 4 := by rw [ego, if_neg (fun g => g h), if_pos hb]
theorem ego_ord {x : Ed} (h : nc x.1 = 0) (hb : ¬ ebad x) {pv : Option ByteArray} {p : ByteArray} (hp : pv = some p) (hc : 0 ≤ cmpL (nk p) (nk x.1)) (l : List Ed) : ego pv (x :: l) = 4 := by rw [ego, if_neg (fun g => g h), if_neg hb, if_pos ⟨p, hp, hc⟩]
theorem ego_on {x : Ed} (h : nc x.1 = 0) (hb : ¬ ebad x) {pv : Option ByteArray} (hp : ∀ p, pv = some p → cmpL (nk p) (nk x.1) < 0) (l : List Ed) : ego pv (x :: l) = ego (some x.1) l := by
  rw [ego, if_neg (fun g => g h), if_neg hb, if_neg (fun ⟨p, e, g⟩ => by have := hp p e; omega)]
theorem ego_zero : ∀ (l : List Ed) (pv : Option ByteArray), ego pv l = 0 → (∀ x ∈ l, nc x.1 = 0 ∧ ¬ ebad x) ∧ Srt (ke nk) l ∧ ∀ p, pv = some p → ∀ x ∈ l, cmpL (nk p) (nk x.1) < 0
  | [], _, _ => ⟨by simp, Srt.nil, by simp⟩
  | x :: l, pv, h => by
    unfold ego at h
    by_cases h1 : nc x.1 = 0
    · rw [if_neg (fun g => g h1)] at h
      by_cases h2 : ebad x
      · rw [if_pos h2] at h; cases h
      · rw [if_neg h2] at h
        by_cases h3 : ∃ p, pv = some p ∧ 0 ≤ cmpL (nk p) (nk x.1)
        · rw [if_pos h3] at h; cases h
        · rw [if_neg h3] at h
          obtain ⟨i1, i2, i3⟩ := ego_zero l _ h
          have i4 := i3 x.1 rfl
          refine ⟨fun y hy => ?_, Srt.cons (fun y hy => i4 y hy) i2, fun p hp y hy => ?_⟩
          · rcases List.mem_cons.1 hy with rfl | hy
            · exact ⟨h1, h2⟩
            · exact i1 y hy
          · have hpx : cmpL (nk p) (nk x.1) < 0 := by
              apply Classical.byContradiction
              intro hne
              exact h3 ⟨p, hp, by omega⟩
            rcases List.mem_cons.1 hy with rfl | hy
            · exact hpx
            · exact cmpL_trans _ _ _ hpx (i4 y hy)
    · rw [if_pos h1] at h; exact absurd h h1
theorem ego_of : ∀ (l : List Ed) (pv : Option ByteArray), (∀ x ∈ l, nc x.1 = 0 ∧ ¬ ebad x) → Srt (ke nk) l → (∀ p, pv = some p → ∀ x ∈ l, cmpL (nk p) (nk x.1) < 0) → ego pv l = 0
  | [], _, _, _, _ => by unfold ego; rfl
  | x :: l, pv, h1, h2, h3 => by
    obtain ⟨a1, a2⟩ := h1 x (by simp)
    rw [ego_on a1 a2 (fun p hp => h3 p hp x (by simp))]
    exact ego_of l _ (fun y hy => h1 y (by simp [hy])) h2.tail (fun p hp y hy => by cases hp; exact h2.head y hy)
theorem ebad_ok {x : Ed} (h : ¬ ebad x) : EdOk (pth := Prod.fst) (zero := zIt) x := by
  refine ⟨fun h1 => ?_, fun h1 => ?_⟩
  · apply Classical.byContradiction
    intro h2
    exact h (.inl ⟨h1, h2⟩)
  · apply Classical.byContradiction
    intro h2
    exact h (.inr ⟨h1, h2⟩)
theorem ok_ebad {x : Ed} (h : EdOk (pth := Prod.fst) (zero := zIt) x) : ¬ ebad x := by
  rintro (⟨h1, h2⟩ | ⟨h1, h2⟩)
  · exact h2 (h.1 h1)
  · exact h2 (h.2 h1)
theorem ecode_zero {l : List Ed} (h : ecode l = 0) : l.length ≤ 200 ∧ (∀ x ∈ l, nc x.1 = 0) ∧ (∀ x ∈ l, EdOk (pth := Prod.fst) (zero := zIt) x) ∧ Srt (ke nk) l := by
  unfold ecode at h
  split at h
  · cases h
  · obtain ⟨h1, h2, _⟩ := ego_zero l _ h
    exact ⟨by omega, fun x hx => (h1 x hx).1, fun x hx => ebad_ok (h1 x hx).2, h2⟩
theorem ecode_of {l : List Ed} (h : l.length ≤ 200) (h1 : ∀ x ∈ l, nc x.1 = 0) (h2 : ∀ x ∈ l, EdOk (pth := Prod.fst) (zero := zIt) x) (h3 : Srt (ke nk) l) : ecode l = 0 := by
  unfold ecode
  rw [if_neg (by omega)]
  exact ego_of l none (fun x hx => ⟨h1 x hx, ok_ebad (h2 x hx)⟩) h3 (by simp)
theorem keepE {w0 u u' : World} {A : Nat} {cs : Array Value} {T : TypeId} (hA : A < w0.heap.size) (hS : u.heap[A]? = some (.cells cs T (0, 0)) ∧ Below w0.heap.size w0 u) (hb : Below u.heap.size u u') :
    u'.heap[A]? = some (.cells cs T (0, 0)) ∧ Below w0.heap.size w0 u' := by
  obtain ⟨h2, h3⟩ := hS
  exact ⟨(hb.block _ (Nat.lt_of_lt_of_le hA h3.size)).trans h2, Below.step h3 hb⟩
set_option maxRecDepth 100000 in
set_option maxHeartbeats 8000000 in
theorem echeck_any (a : Option Addr) (cap : Nat) (l : List Ed) (m : Int) (w : World) (h : SAt 7 eC w a l) (hl : l.length ≤ 9223372036854775807) (hs : ∀ x ∈ l, x.1.size ≤ 1048576) (hm : MaxL m w) (hT : Tabs w) :
    Calls Tryd.prog 37 #[.slice a l.length cap] w fun e w' => e = .returned (.int .i64 (ecode l)) ∧ Below w.heap.size w w' := by
  have HS := Lib.hid h
  have HSZ := Lib.hid hs
  have HM := Lib.hid hm
  have HT := Lib.hid hT
  have HSP := Lib.hid split_u
  have HNC := Lib.hid ncompare_any
  clear h hs hm hT
  by_cases h200 : 200 < l.length
  · have f1 : (200 : Int) < (l.length : Int) := by omega
    have HR : Hid (ecode l = 2) := by show _ = _; unfold ecode; rw [if_pos h200]
    clear h200
    go_enter Tryd.func37, Tryd.ntmps37
    go_wp2_with fail
    go_ret
    exact ⟨by rw [HR.out]; rfl, Below.refl _ _⟩
  · have f1 : ¬ (200 : Int) < (l.length : Int) := by omega
    have HR : Hid (ecode l = ego none l) := by show _ = _; unfold ecode; rw [if_neg h200]
    have hl1 : l.length ≤ 200 := by omega
    generalize ecode l = wc at *
    clear h200
    go_enter Tryd.func37, Tryd.ntmps37
    go_wp2_with fail
    go_loopw [13] (fun iv wr => ∃ (i : Nat) (pv : Option ByteArray), i ≤ l.length ∧ iv = .int .i64 (i : Int) ∧ Hid (wc = ego pv (l.drop i)) ∧ Hid (pv = if i = 0 then none else (l[i - 1]?).map (·.1)) ∧ Hid (Below w.heap.size w wr)) (fun iv _ => l.length - (intOf iv).toNat)
    case atStart => exact ⟨0, none, by omega, rfl, HR, Lib.hid rfl, Lib.hid (Below.refl _ _)⟩
    case round =>
      obtain ⟨i, pv, hi, rfl, HWC, HPV, HBR⟩ := hrel
      by_cases hlt : i < l.length
      · have m1 : (i : Int) < (l.length : Int) := by omega
        obtain ⟨g, off, rfl, hg, hr⟩ := (HS.out.below HBR.out) i hlt
        have a0 := hr 0 _ rfl
        have a1 := hr 1 _ rfl
        have a2 := hr 2 _ rfl
        have a3 := hr 3 _ rfl
        have a4 := hr 4 _ rfl
        have a5 := hr 5 _ rfl
        have a6 := hr 6 _ rfl
        have HPRV : Hid (i ≠ 0 → ∃ p, pv = some p ∧ wr.cell? ⟨g, off + (i - 1) * 7, none⟩ = some (.string p) ∧ p.size ≤ 1048576) := fun h0 => by
          have hk : i - 1 < l.length := by omega
          obtain ⟨g', off', e, _, hr'⟩ := (HS.out.below HBR.out) (i - 1) hk
          cases e
          refine ⟨(l[i - 1]).1, by rw [HPV.out, if_neg h0, List.getElem?_eq_getElem hk]; rfl, ?_, HSZ.out _ (List.getElem_mem hk)⟩
          have := hr' 0 _ rfl
          exact this
        have HZ : Hid (l[i].1.size ≤ 1048576) := HSZ.out _ (List.getElem_mem hlt)
        have HWD : Hid (wc = ego pv (l[i] :: l.drop (i + 1))) := by show _ = _; rw [HWC.out, List.drop_eq_getElem_cons hlt]
        have HNP : Hid ((some l[i].1) = if i + 1 = 0 then none else (l[i + 1 - 1]?).map (·.1)) := by
          show _ = _
          rw [if_neg (by omega), show i + 1 - 1 = i from rfl, List.getElem?_eq_getElem hlt]; rfl
        have HPZ : Hid (i = 0 → pv = none) := fun h => by rw [HPV.out, if_pos h]
        clear HWC HPV hr
        generalize l[i] = x at *
        obtain ⟨p, gn, q1, q2, q3, q4, q5⟩ := x
        simp only [Nat.add_zero] at a0
        have HBA : Hid (Below w.heap.size w (wr.alloc (.cells #[.string p, .bool gn, .string q1, .int .i64 q2, .int .i64 q3, .int .i64 q4, .string q5] 72))) := HBR.out.alloc HBR.out.size _
        have HRA := Lib.hid (heap_alloc_new wr (.cells #[.string p, .bool gn, .string q1, .int .i64 q2, .int .i64 q3, .int .i64 q4, .string q5] 72))
        have HPA2 : Hid (i ≠ 0 → ∃ p', pv = some p' ∧ (wr.alloc (.cells #[.string p, .bool gn, .string q1, .int .i64 q2, .int .i64 q3, .int .i64 q4, .string q5] 72)).cell? ⟨g, off + (i - 1) * 7, none⟩ = some (.string p') ∧ p'.size ≤ 1048576) := fun h0 => by
          obtain ⟨p', e1, e2, e3⟩ := HPRV.out h0
          exact ⟨p', e1, (((Below.refl _ _).alloc (Nat.le_refl _) _).cell (by exact hg)).trans e2, e3⟩
        have HSPC := Lib.hid (HSP.out p m (wr.alloc (.cells #[.string p, .bool gn, .string q1, .int .i64 q2, .int .i64 q3, .int .i64 q4, .string q5] 72)) (Nat.lt_of_le_of_lt HZ.out (by omega)) (HM.out.below HBA.out) (HT.out.below HBA.out))
        clear HPRV HBR
        dsimp only at *
        have b0 := cell_of_row _ _ 0 _ _ _ HRA.out
        simp only [List.getElem?_toArray, List.getElem?_cons_zero] at b0
        go_wp2_with fail
        have hgA : g < (wr.alloc (.cells #[.string p, .bool gn, .string q1, .int .i64 q2, .int .i64 q3, .int .i64 q4, .string q5] 72)).heap.size := lt_of_block ((((Below.refl _ _).alloc (Nat.le_refl _) _).block _ hg).trans (by rw [Array.getElem?_eq_getElem hg]))
        generalize wr.alloc (.cells #[.string p, .bool gn, .string q1, .int .i64 q2, .int .i64 q3, .int .i64 q4, .string q5] 72) = wa at *
        generalize wr.heap.size = AB at *
        refine HSPC.out.mono ?_
        rintro e w1 ⟨a9, c9, L9, rfl, hb1, _, _, _⟩
        have HB1 := Lib.hid (Below.step HBA.out hb1)
        have HR1 := Lib.hid ((hb1.block _ (lt_of_block HRA.out)).trans HRA.out)
        have HP1 : Hid (i ≠ 0 → ∃ p', pv = some p' ∧ w1.cell? ⟨g, off + (i - 1) * 7, none⟩ = some (.string p') ∧ p'.size ≤ 1048576) := fun h0 => by
          obtain ⟨p', e1, e2, e3⟩ := HPA2.out h0
          exact ⟨p', e1, (hb1.cell (by exact hgA)).trans e2, e3⟩
        have hg1 : g < w1.heap.size := Nat.lt_of_lt_of_le hgA hb1.size
        have hA1 : AB < w1.heap.size := lt_of_block HR1.out
        clear hb1 hgA hg HSPC HPA2 HRA HBA a0 a1 a2 a3 a4 a5 a6 b0
        have y0 := cell_of_row _ _ 0 _ _ _ HR1.out
        have y1 := cell_of_row _ _ 1 _ _ _ HR1.out
        have y2 := cell_of_row _ _ 2 _ _ _ HR1.out
        have y3 := cell_of_row _ _ 3 _ _ _ HR1.out
        have y4 := cell_of_row _ _ 4 _ _ _ HR1.out
        have y5 := cell_of_row _ _ 5 _ _ _ HR1.out
        have y6 := cell_of_row _ _ 6 _ _ _ HR1.out
        simp only [List.getElem?_toArray, List.getElem?_cons_succ, List.getElem?_cons_zero] at y0 y1 y2 y3 y4 y5 y6
        by_cases hc : nc p = 0
        · have HNC0 := Lib.hid hc
          have f2 : (nc p != 0) = false := by simp [hc]
          generalize hic : nc p = ic at f2
          clear hc hic
          obtain ⟨z, hz⟩ : ∃ z : Bool, decide (((q1, q2, q3, q4, q5) : It) = zIt) = z := ⟨_, rfl⟩
          obtain ⟨E1, _, E3⟩ := eqIt (q1, q2, q3, q4, q5) zIt z hz
          simp only [iC, zIt] at E1 E3
          have HZZ : Hid (z = true ↔ ((q1, q2, q3, q4, q5) : It) = zIt) := by rw [← hz]; exact decide_eq_true_iff
          clear hz
          go_wp2_with fail
          cases gn with
          | true =>
            cases z with
            | false =>
              have HBD : Hid (ebad (p, true, q1, q2, q3, q4, q5)) := .inl ⟨rfl, fun h => by have := HZZ.out.2 h; cases this⟩
              clear E1 E3 HZZ
              have HW4 : Hid (wc = 4) := by show _ = _; rw [HWD.out]; exact ego_form HNC0.out HBD.out _ _
              go_wp2_with fail
              go_region
              have HBF : Hid (Below w.heap.size w w1.drew) := HB1.out.drew
              go_wp2_with fail
              go_ret
              exact ⟨by rw [HW4.out]; rfl, HBF.out⟩
            | true =>
              have HNB : Hid (¬ ebad (p, true, q1, q2, q3, q4, q5)) := by
                rintro (⟨_, h⟩ | ⟨h, _⟩)
                · exact h (HZZ.out.1 rfl)
                · cases h
              clear E1 E3 HZZ
              by_cases h0 : i = 0
              · have HWN : Hid (wc = ego (some p) (l.drop (i + 1))) := by show _ = _; rw [HWD.out]; exact ego_on HNC0.out HNB.out (fun p' e => by rw [HPZ.out h0] at e; cases e) _
                have f3 : ¬ (0 : Int) < (i : Int) := by omega
                go_wp2_with fail
                go_region
                have HBF : Hid (Below w.heap.size w w1.drew) := HB1.out.drew
                go_wp2_with fail
                go_roundw
                case rel => exact ⟨i + 1, some p, by omega, by go_num, HWN, HNP, HBF⟩
                case measure => simp [intOf]; omega

              · obtain ⟨j, rfl⟩ : ∃ j, i = j + 1 := ⟨i - 1, by omega⟩
                have f3 : (0 : Int) < ((j + 1 : Nat) : Int) := by omega
                obtain ⟨p', hpv, hpc, hpz⟩ := HP1.out h0
                rw [Nat.add_sub_cancel] at hpc
                have HCMP : Hid (∀ u, Below w1.heap.size w1 u → Calls Tryd.prog 62 #[.string p', .string p] u fun e w' => e = .returned (.int .i64 (cmpL (nk p') (nk p))) ∧ Below u.heap.size u w') := fun u hu => HNC.out p' p m u (by omega) (Nat.lt_of_le_of_lt HZ.out (by omega)) (HM.out.below (Below.step HB1.out hu)) (HT.out.below (Below.step HB1.out hu))
                have HPV := Lib.hid hpv
                have hi1 : (j : Int) < (l.length : Int) := by omega
                have hi2 : (0 : Int) ≤ (j : Int) := by omega
                have hwr1 : IntKind.i64.wrap ((j : Int) + 1 - 1) = (j : Int) := by rw [show (j : Int) + 1 - 1 = (j : Int) by omega]; exact wraps_i64 _ (by omega) (by omega)
                have hix : ((j + 1 : Nat) : Int) - 1 = (j : Int) := by omega
                have hwr2 : IntKind.i64.wrap (j : Int) = (j : Int) := wraps_i64 _ (by omega) (by omega)
                generalize hcv : cmpL (nk p') (nk p) = cv at *
                have HCV := Lib.hid hcv
                clear hcv hpv HP1 HPZ h0
                by_cases hc4 : 0 ≤ cv
                · have HW4 : Hid (wc = 4) := by show _ = _; rw [HWD.out]; exact ego_ord HNC0.out HNB.out HPV.out (by rw [HCV.out]; exact hc4) _
                  have hgx : g < w1.drew.heap.size := hg1
                  have HSK : Hid (∀ u, Below w1.drew.heap.size w1.drew u → u.cell? ⟨g, off + j * 7, none⟩ = some (.string p') ∧ u.cell? ⟨AB, 0, none⟩ = some (.string p) ∧ u.cell? ⟨AB, 1, none⟩ = some (.bool true) ∧ u.cell? ⟨AB, 2, none⟩ = some (.string q1) ∧ True) := fun u hb => ⟨(hb.cell (p := ⟨g, off + j * 7, none⟩) hg1).trans hpc, (hb.cell (p := ⟨AB, 0, none⟩) hA1).trans y0, (hb.cell (p := ⟨AB, 1, none⟩) hA1).trans y1, (hb.cell (p := ⟨AB, 2, none⟩) hA1).trans y2, trivial⟩
                  have HB1 : Hid (Below w.heap.size w w1.drew) := HB1.out.drew
                  go_wp2_with fail
                  refine wp_region_noPanic ?_
                  refine wp_region_held_drew (S := fun u => u.cell? ⟨g, off + j * 7, none⟩ = some (.string p') ∧ u.cell? ⟨AB, 0, none⟩ = some (.string p) ∧ u.cell? ⟨AB, 1, none⟩ = some (.bool true) ∧ u.cell? ⟨AB, 2, none⟩ = some (.string q1) ∧ True) (by kernel_rfl) (HSK.out _ (Below.refl _ _)) (fun hS0 => ?_)
                  have HS0 := Lib.hid hS0
                  have HB2 : Hid (Below w1.drew.heap.size w1.drew w1.drew) := Below.refl _ _
                  have HCMP : Hid (∀ u, Below w1.drew.heap.size w1.drew u → _) := fun u hu => HCMP.out u ((Below.refl w1.heap.size w1).drew.trans hu)
                  clear hS0 hpc y0 y1 y2
                  generalize w1.drew = w2 at *
                  refine take_val 0 (.pointer (some ⟨AB, 1, none⟩)) rfl (by kernel_rfl) (by kernel_rfl) (by kernel_rfl) (fun _ _ _ _ h => h) (by rfl) rfl (fun w _ => by go_simp) HS0.out ?_
                  try simp only [List.set_cons_zero, List.set_cons_succ]
                  refine take_val 1 (.bool true) rfl (by kernel_rfl) (by kernel_rfl) (by kernel_rfl) (fun _ _ _ _ h => h) (by rfl) rfl (fun w hS => by obtain ⟨s0, s1, s2, s3, _⟩ := hS; go_simp) HS0.out ?_
                  try simp only [List.set_cons_zero, List.set_cons_succ]
                  refine take_val 2 (.bool true) rfl (by kernel_rfl) (by kernel_rfl) (by kernel_rfl) (fun _ _ _ _ h => h) (by rfl) rfl (fun w _ => by go_simp) HS0.out ?_
                  try simp only [List.set_cons_zero, List.set_cons_succ]
                  refine take_val 3 (.bool true) rfl (by kernel_rfl) (by kernel_rfl) (by kernel_rfl) (fun _ _ _ _ h => h) (by rfl) rfl (fun w _ => by go_simp) HS0.out ?_
                  try simp only [List.set_cons_zero, List.set_cons_succ]
                  refine take_val 4 (.bool false) rfl (by kernel_rfl) (by kernel_rfl) (by kernel_rfl) (fun _ _ _ _ h => h) (by rfl) rfl (fun w _ => by go_simp) HS0.out ?_
                  try simp only [List.set_cons_zero, List.set_cons_succ]
                  refine take_val 5 (.bool false) rfl (by kernel_rfl) (by kernel_rfl) (by kernel_rfl) (fun _ _ _ _ h => h) (by rfl) rfl (fun w _ => by go_simp) HS0.out ?_
                  try simp only [List.set_cons_zero, List.set_cons_succ]
                  refine take_val 6 (.bool false) rfl (by kernel_rfl) (by kernel_rfl) (by kernel_rfl) (fun _ _ _ _ h => h) (by rfl) rfl (fun w _ => by go_simp) HS0.out ?_
                  try simp only [List.set_cons_zero, List.set_cons_succ]
                  refine take_val 7 (.pointer (some ⟨AB, 1, none⟩)) rfl (by kernel_rfl) (by kernel_rfl) (by kernel_rfl) (fun _ _ _ _ h => h) (by rfl) rfl (fun w _ => by go_simp) HS0.out ?_
                  try simp only [List.set_cons_zero, List.set_cons_succ]
                  refine take_val 8 (.bool true) rfl (by kernel_rfl) (by kernel_rfl) (by kernel_rfl) (fun _ _ _ _ h => h) (by rfl) rfl (fun w hS => by obtain ⟨s0, s1, s2, s3, _⟩ := hS; go_simp) HS0.out ?_
                  try simp only [List.set_cons_zero, List.set_cons_succ]
                  refine take_val 9 (.bool false) rfl (by kernel_rfl) (by kernel_rfl) (by kernel_rfl) (fun _ _ _ _ h => h) (by rfl) rfl (fun w _ => by go_simp) HS0.out ?_
                  try simp only [List.set_cons_zero, List.set_cons_succ]
                  refine take_val 10 (.bool false) rfl (by kernel_rfl) (by kernel_rfl) (by kernel_rfl) (fun _ _ _ _ h => h) (by rfl) rfl (fun w _ => by go_simp) HS0.out ?_
                  try simp only [List.set_cons_zero, List.set_cons_succ]
                  refine take_not 11 rfl (by kernel_rfl) (by kernel_rfl) (by kernel_rfl) (fun _ _ _ _ h => h) (by rfl) rfl HS0.out ?_
                  try simp only [List.set_cons_zero, List.set_cons_succ]
                  refine take_not 12 rfl (by kernel_rfl) (by kernel_rfl) (by kernel_rfl) (fun _ _ _ _ h => h) (by rfl) rfl HS0.out ?_
                  try simp only [List.set_cons_zero, List.set_cons_succ]
                  refine take_not 13 rfl (by kernel_rfl) (by kernel_rfl) (by kernel_rfl) (fun _ _ _ _ h => h) (by rfl) rfl HS0.out ?_
                  try simp only [List.set_cons_zero, List.set_cons_succ]
                  refine take_not 14 rfl (by kernel_rfl) (by kernel_rfl) (by kernel_rfl) (fun _ _ _ _ h => h) (by rfl) rfl HS0.out ?_
                  try simp only [List.set_cons_zero, List.set_cons_succ]
                  refine take_not 15 rfl (by kernel_rfl) (by kernel_rfl) (by kernel_rfl) (fun _ _ _ _ h => h) (by rfl) rfl HS0.out ?_
                  try simp only [List.set_cons_zero, List.set_cons_succ]
                  refine take_not 16 rfl (by kernel_rfl) (by kernel_rfl) (by kernel_rfl) (fun _ _ _ _ h => h) (by rfl) rfl HS0.out ?_
                  try simp only [List.set_cons_zero, List.set_cons_succ]
                  refine take_val 17 (.bool false) rfl (by kernel_rfl) (by kernel_rfl) (by kernel_rfl) (fun _ _ _ _ h => h) (by rfl) rfl (fun w _ => by go_simp) HS0.out ?_
                  try simp only [List.set_cons_zero, List.set_cons_succ]
                  refine take_val 18 (.bool false) rfl (by kernel_rfl) (by kernel_rfl) (by kernel_rfl) (fun _ _ _ _ h => h) (by rfl) rfl (fun w _ => by go_simp) HS0.out ?_
                  try simp only [List.set_cons_zero, List.set_cons_succ]
                  refine take_val 19 (.bool false) rfl (by kernel_rfl) (by kernel_rfl) (by kernel_rfl) (fun _ _ _ _ h => h) (by rfl) rfl (fun w _ => by go_simp) HS0.out ?_
                  try simp only [List.set_cons_zero, List.set_cons_succ]
                  refine take_val 20 (.int .i64 ((j : Int) + 1)) rfl (by kernel_rfl) (by kernel_rfl) (by kernel_rfl) (fun _ _ _ _ h => h) (by rfl) rfl (fun w _ => by go_simp) HS0.out ?_
                  try simp only [List.set_cons_zero, List.set_cons_succ]
                  refine take_val 21 (.bool true) rfl (by kernel_rfl) (by kernel_rfl) (by kernel_rfl) (fun _ _ _ _ h => h) (by rfl) rfl (fun w _ => by go_simp) HS0.out ?_
                  try simp only [List.set_cons_zero, List.set_cons_succ]
                  refine take_val 22 (.bool true) rfl (by kernel_rfl) (by kernel_rfl) (by kernel_rfl) (fun _ _ _ _ h => h) (by rfl) rfl (fun w _ => by go_simp) HS0.out ?_
                  try simp only [List.set_cons_zero, List.set_cons_succ]
                  refine take_val 23 (.slice (some ⟨g, off, none⟩) l.length cap) rfl (by kernel_rfl) (by kernel_rfl) (by kernel_rfl) (fun _ _ _ _ h => h) (by rfl) rfl (fun w _ => by go_simp) HS0.out ?_
                  try simp only [List.set_cons_zero, List.set_cons_succ]
                  refine take_val 24 (.int .i64 ((j : Int) + 1)) rfl (by kernel_rfl) (by kernel_rfl) (by kernel_rfl) (fun _ _ _ _ h => h) (by rfl) rfl (fun w _ => by go_simp) HS0.out ?_
                  try simp only [List.set_cons_zero, List.set_cons_succ]
                  refine take_val 25 (.int .i64 (j : Int)) rfl (by kernel_rfl) (by kernel_rfl) (by kernel_rfl) (fun _ _ _ _ h => h) (by rfl) rfl (fun w _ => by go_simp) HS0.out ?_
                  try simp only [List.set_cons_zero, List.set_cons_succ]
                  refine take_val 26 (.pointer (some ⟨g, off + j * 7, none⟩)) rfl (by kernel_rfl) (by kernel_rfl) (by kernel_rfl) (fun _ _ _ _ h => h) (by rfl) rfl (fun w _ => by go_simp) HS0.out ?_
                  try simp only [List.set_cons_zero, List.set_cons_succ]
                  refine take_val 27 (.pointer (some ⟨g, off + j * 7, none⟩)) rfl (by kernel_rfl) (by kernel_rfl) (by kernel_rfl) (fun _ _ _ _ h => h) (by rfl) rfl (fun w _ => by go_simp) HS0.out ?_
                  try simp only [List.set_cons_zero, List.set_cons_succ]
                  refine take_val 28 (.string p') rfl (by kernel_rfl) (by kernel_rfl) (by kernel_rfl) (fun _ _ _ _ h => h) (by rfl) rfl (fun w hS => by obtain ⟨s0, s1, s2, s3, _⟩ := hS; go_simp) HS0.out ?_
                  try simp only [List.set_cons_zero, List.set_cons_succ]
                  refine take_val 29 (.pointer (some ⟨AB, 0, none⟩)) rfl (by kernel_rfl) (by kernel_rfl) (by kernel_rfl) (fun _ _ _ _ h => h) (by rfl) rfl (fun w _ => by go_simp) HS0.out ?_
                  try simp only [List.set_cons_zero, List.set_cons_succ]
                  refine take_val 30 (.string p) rfl (by kernel_rfl) (by kernel_rfl) (by kernel_rfl) (fun _ _ _ _ h => h) (by rfl) rfl (fun w hS => by obtain ⟨s0, s1, s2, s3, _⟩ := hS; go_simp) HS0.out ?_
                  try simp only [List.set_cons_zero, List.set_cons_succ]
                  refine one_ready 31 (by kernel_rfl) rfl (by rfl) (fun K hK => ?_)
                  go_simp
                  refine (HCMP.out _ HB2.out).mono ?_
                  rintro e w3 ⟨rfl, hb⟩
                  go_wp2_with fail
                  have HB3 := Lib.hid (Below.step HB2.out hb)
                  have HS3 := Lib.hid (HSK.out _ HB3.out)
                  refine hK.out _ _ HS3.out ?_
                  clear hK K
                  try simp only [Act.put, List.setIfInBounds_toArray]
                  try simp only [List.set_cons_zero, List.set_cons_succ]
                  refine take_val 32 (.bool true) rfl (by kernel_rfl) (by kernel_rfl) (by kernel_rfl) (fun _ _ _ _ h => h) (by rfl) rfl (fun w _ => by go_simp) HS3.out ?_
                  try simp only [List.set_cons_zero, List.set_cons_succ]
                  refine take_val 33 (.bool true) rfl (by kernel_rfl) (by kernel_rfl) (by kernel_rfl) (fun _ _ _ _ h => h) (by rfl) rfl (fun w _ => by go_simp) HS3.out ?_
                  try simp only [List.set_cons_zero, List.set_cons_succ]
                  refine take_val 34 (.bool true) rfl (by kernel_rfl) (by kernel_rfl) (by kernel_rfl) (fun _ _ _ _ h => h) (by rfl) rfl (fun w _ => by go_simp) HS3.out ?_
                  try simp only [List.set_cons_zero, List.set_cons_succ]
                  refine wpAnyH_done (by kernel_rfl) ?_ _
                  refine NoPanic.normal ?_
                  have HBF := Lib.hid (Below.step HB1.out HB3.out)
                  go_wp2_with fail
                  go_ret
                  exact ⟨by rw [HW4.out]; rfl, HBF.out⟩
                · have HWN : Hid (wc = ego (some p) (l.drop (j + 1 + 1))) := by
                    show _ = _
                    rw [HWD.out]
                    exact ego_on HNC0.out HNB.out (fun p2 e => by rw [HPV.out] at e; cases e; rw [HCV.out]; omega) _
                  clear HPV HCV
                  have hgx : g < w1.drew.heap.size := hg1
                  have HSK : Hid (∀ u, Below w1.drew.heap.size w1.drew u → u.cell? ⟨g, off + j * 7, none⟩ = some (.string p') ∧ u.cell? ⟨AB, 0, none⟩ = some (.string p) ∧ u.cell? ⟨AB, 1, none⟩ = some (.bool true) ∧ u.cell? ⟨AB, 2, none⟩ = some (.string q1) ∧ True) := fun u hb => ⟨(hb.cell (p := ⟨g, off + j * 7, none⟩) hg1).trans hpc, (hb.cell (p := ⟨AB, 0, none⟩) hA1).trans y0, (hb.cell (p := ⟨AB, 1, none⟩) hA1).trans y1, (hb.cell (p := ⟨AB, 2, none⟩) hA1).trans y2, trivial⟩
                  have HB1 : Hid (Below w.heap.size w w1.drew) := HB1.out.drew
                  go_wp2_with fail
                  refine wp_region_noPanic ?_
                  refine wp_region_held_drew (S := fun u => u.cell? ⟨g, off + j * 7, none⟩ = some (.string p') ∧ u.cell? ⟨AB, 0, none⟩ = some (.string p) ∧ u.cell? ⟨AB, 1, none⟩ = some (.bool true) ∧ u.cell? ⟨AB, 2, none⟩ = some (.string q1) ∧ True) (by kernel_rfl) (HSK.out _ (Below.refl _ _)) (fun hS0 => ?_)
                  have HS0 := Lib.hid hS0
                  have HB2 : Hid (Below w1.drew.heap.size w1.drew w1.drew) := Below.refl _ _
                  have HCMP : Hid (∀ u, Below w1.drew.heap.size w1.drew u → _) := fun u hu => HCMP.out u ((Below.refl w1.heap.size w1).drew.trans hu)
                  clear hS0 hpc y0 y1 y2
                  generalize w1.drew = w2 at *
                  refine take_val 0 (.pointer (some ⟨AB, 1, none⟩)) rfl (by kernel_rfl) (by kernel_rfl) (by kernel_rfl) (fun _ _ _ _ h => h) (by rfl) rfl (fun w _ => by go_simp) HS0.out ?_
                  try simp only [List.set_cons_zero, List.set_cons_succ]
                  refine take_val 1 (.bool true) rfl (by kernel_rfl) (by kernel_rfl) (by kernel_rfl) (fun _ _ _ _ h => h) (by rfl) rfl (fun w hS => by obtain ⟨s0, s1, s2, s3, _⟩ := hS; go_simp) HS0.out ?_
                  try simp only [List.set_cons_zero, List.set_cons_succ]
                  refine take_val 2 (.bool true) rfl (by kernel_rfl) (by kernel_rfl) (by kernel_rfl) (fun _ _ _ _ h => h) (by rfl) rfl (fun w _ => by go_simp) HS0.out ?_
                  try simp only [List.set_cons_zero, List.set_cons_succ]
                  refine take_val 3 (.bool true) rfl (by kernel_rfl) (by kernel_rfl) (by kernel_rfl) (fun _ _ _ _ h => h) (by rfl) rfl (fun w _ => by go_simp) HS0.out ?_
                  try simp only [List.set_cons_zero, List.set_cons_succ]
                  refine take_val 4 (.bool false) rfl (by kernel_rfl) (by kernel_rfl) (by kernel_rfl) (fun _ _ _ _ h => h) (by rfl) rfl (fun w _ => by go_simp) HS0.out ?_
                  try simp only [List.set_cons_zero, List.set_cons_succ]
                  refine take_val 5 (.bool false) rfl (by kernel_rfl) (by kernel_rfl) (by kernel_rfl) (fun _ _ _ _ h => h) (by rfl) rfl (fun w _ => by go_simp) HS0.out ?_
                  try simp only [List.set_cons_zero, List.set_cons_succ]
                  refine take_val 6 (.bool false) rfl (by kernel_rfl) (by kernel_rfl) (by kernel_rfl) (fun _ _ _ _ h => h) (by rfl) rfl (fun w _ => by go_simp) HS0.out ?_
                  try simp only [List.set_cons_zero, List.set_cons_succ]
                  refine take_val 7 (.pointer (some ⟨AB, 1, none⟩)) rfl (by kernel_rfl) (by kernel_rfl) (by kernel_rfl) (fun _ _ _ _ h => h) (by rfl) rfl (fun w _ => by go_simp) HS0.out ?_
                  try simp only [List.set_cons_zero, List.set_cons_succ]
                  refine take_val 8 (.bool true) rfl (by kernel_rfl) (by kernel_rfl) (by kernel_rfl) (fun _ _ _ _ h => h) (by rfl) rfl (fun w hS => by obtain ⟨s0, s1, s2, s3, _⟩ := hS; go_simp) HS0.out ?_
                  try simp only [List.set_cons_zero, List.set_cons_succ]
                  refine take_val 9 (.bool false) rfl (by kernel_rfl) (by kernel_rfl) (by kernel_rfl) (fun _ _ _ _ h => h) (by rfl) rfl (fun w _ => by go_simp) HS0.out ?_
                  try simp only [List.set_cons_zero, List.set_cons_succ]
                  refine take_val 10 (.bool false) rfl (by kernel_rfl) (by kernel_rfl) (by kernel_rfl) (fun _ _ _ _ h => h) (by rfl) rfl (fun w _ => by go_simp) HS0.out ?_
                  try simp only [List.set_cons_zero, List.set_cons_succ]
                  refine take_not 11 rfl (by kernel_rfl) (by kernel_rfl) (by kernel_rfl) (fun _ _ _ _ h => h) (by rfl) rfl HS0.out ?_
                  try simp only [List.set_cons_zero, List.set_cons_succ]
                  refine take_not 12 rfl (by kernel_rfl) (by kernel_rfl) (by kernel_rfl) (fun _ _ _ _ h => h) (by rfl) rfl HS0.out ?_
                  try simp only [List.set_cons_zero, List.set_cons_succ]
                  refine take_not 13 rfl (by kernel_rfl) (by kernel_rfl) (by kernel_rfl) (fun _ _ _ _ h => h) (by rfl) rfl HS0.out ?_
                  try simp only [List.set_cons_zero, List.set_cons_succ]
                  refine take_not 14 rfl (by kernel_rfl) (by kernel_rfl) (by kernel_rfl) (fun _ _ _ _ h => h) (by rfl) rfl HS0.out ?_
                  try simp only [List.set_cons_zero, List.set_cons_succ]
                  refine take_not 15 rfl (by kernel_rfl) (by kernel_rfl) (by kernel_rfl) (fun _ _ _ _ h => h) (by rfl) rfl HS0.out ?_
                  try simp only [List.set_cons_zero, List.set_cons_succ]
                  refine take_not 16 rfl (by kernel_rfl) (by kernel_rfl) (by kernel_rfl) (fun _ _ _ _ h => h) (by rfl) rfl HS0.out ?_
                  try simp only [List.set_cons_zero, List.set_cons_succ]
                  refine take_val 17 (.bool false) rfl (by kernel_rfl) (by kernel_rfl) (by kernel_rfl) (fun _ _ _ _ h => h) (by rfl) rfl (fun w _ => by go_simp) HS0.out ?_
                  try simp only [List.set_cons_zero, List.set_cons_succ]
                  refine take_val 18 (.bool false) rfl (by kernel_rfl) (by kernel_rfl) (by kernel_rfl) (fun _ _ _ _ h => h) (by rfl) rfl (fun w _ => by go_simp) HS0.out ?_
                  try simp only [List.set_cons_zero, List.set_cons_succ]
                  refine take_val 19 (.bool false) rfl (by kernel_rfl) (by kernel_rfl) (by kernel_rfl) (fun _ _ _ _ h => h) (by rfl) rfl (fun w _ => by go_simp) HS0.out ?_
                  try simp only [List.set_cons_zero, List.set_cons_succ]
                  refine take_val 20 (.int .i64 ((j : Int) + 1)) rfl (by kernel_rfl) (by kernel_rfl) (by kernel_rfl) (fun _ _ _ _ h => h) (by rfl) rfl (fun w _ => by go_simp) HS0.out ?_
                  try simp only [List.set_cons_zero, List.set_cons_succ]
                  refine take_val 21 (.bool true) rfl (by kernel_rfl) (by kernel_rfl) (by kernel_rfl) (fun _ _ _ _ h => h) (by rfl) rfl (fun w _ => by go_simp) HS0.out ?_
                  try simp only [List.set_cons_zero, List.set_cons_succ]
                  refine take_val 22 (.bool true) rfl (by kernel_rfl) (by kernel_rfl) (by kernel_rfl) (fun _ _ _ _ h => h) (by rfl) rfl (fun w _ => by go_simp) HS0.out ?_
                  try simp only [List.set_cons_zero, List.set_cons_succ]
                  refine take_val 23 (.slice (some ⟨g, off, none⟩) l.length cap) rfl (by kernel_rfl) (by kernel_rfl) (by kernel_rfl) (fun _ _ _ _ h => h) (by rfl) rfl (fun w _ => by go_simp) HS0.out ?_
                  try simp only [List.set_cons_zero, List.set_cons_succ]
                  refine take_val 24 (.int .i64 ((j : Int) + 1)) rfl (by kernel_rfl) (by kernel_rfl) (by kernel_rfl) (fun _ _ _ _ h => h) (by rfl) rfl (fun w _ => by go_simp) HS0.out ?_
                  try simp only [List.set_cons_zero, List.set_cons_succ]
                  refine take_val 25 (.int .i64 (j : Int)) rfl (by kernel_rfl) (by kernel_rfl) (by kernel_rfl) (fun _ _ _ _ h => h) (by rfl) rfl (fun w _ => by go_simp) HS0.out ?_
                  try simp only [List.set_cons_zero, List.set_cons_succ]
                  refine take_val 26 (.pointer (some ⟨g, off + j * 7, none⟩)) rfl (by kernel_rfl) (by kernel_rfl) (by kernel_rfl) (fun _ _ _ _ h => h) (by rfl) rfl (fun w _ => by go_simp) HS0.out ?_
                  try simp only [List.set_cons_zero, List.set_cons_succ]
                  refine take_val 27 (.pointer (some ⟨g, off + j * 7, none⟩)) rfl (by kernel_rfl) (by kernel_rfl) (by kernel_rfl) (fun _ _ _ _ h => h) (by rfl) rfl (fun w _ => by go_simp) HS0.out ?_
                  try simp only [List.set_cons_zero, List.set_cons_succ]
                  refine take_val 28 (.string p') rfl (by kernel_rfl) (by kernel_rfl) (by kernel_rfl) (fun _ _ _ _ h => h) (by rfl) rfl (fun w hS => by obtain ⟨s0, s1, s2, s3, _⟩ := hS; go_simp) HS0.out ?_
                  try simp only [List.set_cons_zero, List.set_cons_succ]
                  refine take_val 29 (.pointer (some ⟨AB, 0, none⟩)) rfl (by kernel_rfl) (by kernel_rfl) (by kernel_rfl) (fun _ _ _ _ h => h) (by rfl) rfl (fun w _ => by go_simp) HS0.out ?_
                  try simp only [List.set_cons_zero, List.set_cons_succ]
                  refine take_val 30 (.string p) rfl (by kernel_rfl) (by kernel_rfl) (by kernel_rfl) (fun _ _ _ _ h => h) (by rfl) rfl (fun w hS => by obtain ⟨s0, s1, s2, s3, _⟩ := hS; go_simp) HS0.out ?_
                  try simp only [List.set_cons_zero, List.set_cons_succ]
                  refine one_ready 31 (by kernel_rfl) rfl (by rfl) (fun K hK => ?_)
                  go_simp
                  refine (HCMP.out _ HB2.out).mono ?_
                  rintro e w3 ⟨rfl, hb⟩
                  go_wp2_with fail
                  have HB3 := Lib.hid (Below.step HB2.out hb)
                  have HS3 := Lib.hid (HSK.out _ HB3.out)
                  refine hK.out _ _ HS3.out ?_
                  clear hK K
                  try simp only [Act.put, List.setIfInBounds_toArray]
                  try simp only [List.set_cons_zero, List.set_cons_succ]
                  refine take_val 32 (.bool false) rfl (by kernel_rfl) (by kernel_rfl) (by kernel_rfl) (fun _ _ _ _ h => h) (by rfl) rfl (fun w _ => by go_simp) HS3.out ?_
                  try simp only [List.set_cons_zero, List.set_cons_succ]
                  refine take_val 33 (.bool false) rfl (by kernel_rfl) (by kernel_rfl) (by kernel_rfl) (fun _ _ _ _ h => h) (by rfl) rfl (fun w _ => by go_simp) HS3.out ?_
                  try simp only [List.set_cons_zero, List.set_cons_succ]
                  refine take_val 34 (.bool false) rfl (by kernel_rfl) (by kernel_rfl) (by kernel_rfl) (fun _ _ _ _ h => h) (by rfl) rfl (fun w _ => by go_simp) HS3.out ?_
                  try simp only [List.set_cons_zero, List.set_cons_succ]
                  refine wpAnyH_done (by kernel_rfl) ?_ _
                  refine NoPanic.normal ?_
                  have HBF := Lib.hid (Below.step HB1.out HB3.out)
                  go_wp2_with fail
                  go_roundw
                  case rel => exact ⟨j + 1 + 1, some p, by omega, by go_num, HWN, HNP, HBF⟩
                  case measure => simp [intOf]; omega

          | false =>
            clear E1 E3 HZZ
            by_cases hq : q1 = p
            · subst hq
              have HNB : Hid (¬ ebad (q1, false, q1, q2, q3, q4, q5)) := by
                rintro (⟨h, _⟩ | ⟨_, h⟩)
                · cases h
                · exact h rfl
              have f4 : (q1.toList == q1.toList) = true := same_strB rfl
              by_cases h0 : i = 0
              · have HWN : Hid (wc = ego (some q1) (l.drop (i + 1))) := by show _ = _; rw [HWD.out]; exact ego_on HNC0.out HNB.out (fun p' e => by rw [HPZ.out h0] at e; cases e) _
                have f3 : ¬ (0 : Int) < (i : Int) := by omega
                go_wp2_with fail
                go_region
                have HBF : Hid (Below w.heap.size w w1.drew) := HB1.out.drew
                go_wp2_with fail
                go_roundw
                case rel => exact ⟨i + 1, some q1, by omega, by go_num, HWN, HNP, HBF⟩
                case measure => simp [intOf]; omega

              · obtain ⟨j, rfl⟩ : ∃ j, i = j + 1 := ⟨i - 1, by omega⟩
                have f3 : (0 : Int) < ((j + 1 : Nat) : Int) := by omega
                obtain ⟨p', hpv, hpc, hpz⟩ := HP1.out h0
                rw [Nat.add_sub_cancel] at hpc
                have HCMP : Hid (∀ u, Below w1.heap.size w1 u → Calls Tryd.prog 62 #[.string p', .string q1] u fun e w' => e = .returned (.int .i64 (cmpL (nk p') (nk q1))) ∧ Below u.heap.size u w') := fun u hu => HNC.out p' q1 m u (by omega) (Nat.lt_of_le_of_lt HZ.out (by omega)) (HM.out.below (Below.step HB1.out hu)) (HT.out.below (Below.step HB1.out hu))
                have HPV := Lib.hid hpv
                have hi1 : (j : Int) < (l.length : Int) := by omega
                have hi2 : (0 : Int) ≤ (j : Int) := by omega
                have hwr1 : IntKind.i64.wrap ((j : Int) + 1 - 1) = (j : Int) := by rw [show (j : Int) + 1 - 1 = (j : Int) by omega]; exact wraps_i64 _ (by omega) (by omega)
                have hix : ((j + 1 : Nat) : Int) - 1 = (j : Int) := by omega
                have hwr2 : IntKind.i64.wrap (j : Int) = (j : Int) := wraps_i64 _ (by omega) (by omega)
                generalize hcv : cmpL (nk p') (nk q1) = cv at *
                have HCV := Lib.hid hcv
                clear hcv hpv HP1 HPZ h0
                by_cases hc4 : 0 ≤ cv
                · have HW4 : Hid (wc = 4) := by show _ = _; rw [HWD.out]; exact ego_ord HNC0.out HNB.out HPV.out (by rw [HCV.out]; exact hc4) _
                  have hgx : g < w1.drew.heap.size := hg1
                  have HSK : Hid (∀ u, Below w1.drew.heap.size w1.drew u → u.cell? ⟨g, off + j * 7, none⟩ = some (.string p') ∧ u.cell? ⟨AB, 0, none⟩ = some (.string q1) ∧ u.cell? ⟨AB, 1, none⟩ = some (.bool false) ∧ u.cell? ⟨AB, 2, none⟩ = some (.string q1) ∧ True) := fun u hb => ⟨(hb.cell (p := ⟨g, off + j * 7, none⟩) hg1).trans hpc, (hb.cell (p := ⟨AB, 0, none⟩) hA1).trans y0, (hb.cell (p := ⟨AB, 1, none⟩) hA1).trans y1, (hb.cell (p := ⟨AB, 2, none⟩) hA1).trans y2, trivial⟩
                  have HB1 : Hid (Below w.heap.size w w1.drew) := HB1.out.drew
                  go_wp2_with fail
                  refine wp_region_noPanic ?_
                  refine wp_region_held_drew (S := fun u => u.cell? ⟨g, off + j * 7, none⟩ = some (.string p') ∧ u.cell? ⟨AB, 0, none⟩ = some (.string q1) ∧ u.cell? ⟨AB, 1, none⟩ = some (.bool false) ∧ u.cell? ⟨AB, 2, none⟩ = some (.string q1) ∧ True) (by kernel_rfl) (HSK.out _ (Below.refl _ _)) (fun hS0 => ?_)
                  have HS0 := Lib.hid hS0
                  have HB2 : Hid (Below w1.drew.heap.size w1.drew w1.drew) := Below.refl _ _
                  have HCMP : Hid (∀ u, Below w1.drew.heap.size w1.drew u → _) := fun u hu => HCMP.out u ((Below.refl w1.heap.size w1).drew.trans hu)
                  clear hS0 hpc y0 y1 y2
                  generalize w1.drew = w2 at *
                  refine take_val 0 (.pointer (some ⟨AB, 1, none⟩)) rfl (by kernel_rfl) (by kernel_rfl) (by kernel_rfl) (fun _ _ _ _ h => h) (by rfl) rfl (fun w _ => by go_simp) HS0.out ?_
                  try simp only [List.set_cons_zero, List.set_cons_succ]
                  refine take_val 1 (.bool false) rfl (by kernel_rfl) (by kernel_rfl) (by kernel_rfl) (fun _ _ _ _ h => h) (by rfl) rfl (fun w hS => by obtain ⟨s0, s1, s2, s3, _⟩ := hS; go_simp) HS0.out ?_
                  try simp only [List.set_cons_zero, List.set_cons_succ]
                  refine take_val 2 (.bool false) rfl (by kernel_rfl) (by kernel_rfl) (by kernel_rfl) (fun _ _ _ _ h => h) (by rfl) rfl (fun w _ => by go_simp) HS0.out ?_
                  try simp only [List.set_cons_zero, List.set_cons_succ]
                  refine take_not 3 rfl (by kernel_rfl) (by kernel_rfl) (by kernel_rfl) (fun _ _ _ _ h => h) (by rfl) rfl HS0.out ?_
                  try simp only [List.set_cons_zero, List.set_cons_succ]
                  refine take_not 4 rfl (by kernel_rfl) (by kernel_rfl) (by kernel_rfl) (fun _ _ _ _ h => h) (by rfl) rfl HS0.out ?_
                  try simp only [List.set_cons_zero, List.set_cons_succ]
                  refine take_val 5 (.bool false) rfl (by kernel_rfl) (by kernel_rfl) (by kernel_rfl) (fun _ _ _ _ h => h) (by rfl) rfl (fun w _ => by go_simp) HS0.out ?_
                  try simp only [List.set_cons_zero, List.set_cons_succ]
                  refine take_val 6 (.bool false) rfl (by kernel_rfl) (by kernel_rfl) (by kernel_rfl) (fun _ _ _ _ h => h) (by rfl) rfl (fun w _ => by go_simp) HS0.out ?_
                  try simp only [List.set_cons_zero, List.set_cons_succ]
                  refine take_val 7 (.pointer (some ⟨AB, 1, none⟩)) rfl (by kernel_rfl) (by kernel_rfl) (by kernel_rfl) (fun _ _ _ _ h => h) (by rfl) rfl (fun w _ => by go_simp) HS0.out ?_
                  try simp only [List.set_cons_zero, List.set_cons_succ]
                  refine take_val 8 (.bool false) rfl (by kernel_rfl) (by kernel_rfl) (by kernel_rfl) (fun _ _ _ _ h => h) (by rfl) rfl (fun w hS => by obtain ⟨s0, s1, s2, s3, _⟩ := hS; go_simp) HS0.out ?_
                  try simp only [List.set_cons_zero, List.set_cons_succ]
                  refine take_val 9 (.bool true) rfl (by kernel_rfl) (by kernel_rfl) (by kernel_rfl) (fun _ _ _ _ h => h) (by rfl) rfl (fun w _ => by go_simp) HS0.out ?_
                  try simp only [List.set_cons_zero, List.set_cons_succ]
                  refine take_val 10 (.bool true) rfl (by kernel_rfl) (by kernel_rfl) (by kernel_rfl) (fun _ _ _ _ h => h) (by rfl) rfl (fun w _ => by go_simp) HS0.out ?_
                  try simp only [List.set_cons_zero, List.set_cons_succ]
                  refine take_val 11 (.pointer (some ⟨AB, 2, none⟩)) rfl (by kernel_rfl) (by kernel_rfl) (by kernel_rfl) (fun _ _ _ _ h => h) (by rfl) rfl (fun w _ => by go_simp) HS0.out ?_
                  try simp only [List.set_cons_zero, List.set_cons_succ]
                  refine take_val 12 (.pointer (some ⟨AB, 2, none⟩)) rfl (by kernel_rfl) (by kernel_rfl) (by kernel_rfl) (fun _ _ _ _ h => h) (by rfl) rfl (fun w _ => by go_simp) HS0.out ?_
                  try simp only [List.set_cons_zero, List.set_cons_succ]
                  refine take_val 13 (.string q1) rfl (by kernel_rfl) (by kernel_rfl) (by kernel_rfl) (fun _ _ _ _ h => h) (by rfl) rfl (fun w hS => by obtain ⟨s0, s1, s2, s3, _⟩ := hS; go_simp) HS0.out ?_
                  try simp only [List.set_cons_zero, List.set_cons_succ]
                  refine take_val 14 (.pointer (some ⟨AB, 0, none⟩)) rfl (by kernel_rfl) (by kernel_rfl) (by kernel_rfl) (fun _ _ _ _ h => h) (by rfl) rfl (fun w _ => by go_simp) HS0.out ?_
                  try simp only [List.set_cons_zero, List.set_cons_succ]
                  refine take_val 15 (.string q1) rfl (by kernel_rfl) (by kernel_rfl) (by kernel_rfl) (fun _ _ _ _ h => h) (by rfl) rfl (fun w hS => by obtain ⟨s0, s1, s2, s3, _⟩ := hS; go_simp) HS0.out ?_
                  try simp only [List.set_cons_zero, List.set_cons_succ]
                  refine take_val 16 (.bool false) rfl (by kernel_rfl) (by kernel_rfl) (by kernel_rfl) (fun _ _ _ _ h => h) (by rfl) rfl (fun w _ => by go_simp) HS0.out ?_
                  try simp only [List.set_cons_zero, List.set_cons_succ]
                  refine take_val 17 (.bool false) rfl (by kernel_rfl) (by kernel_rfl) (by kernel_rfl) (fun _ _ _ _ h => h) (by rfl) rfl (fun w _ => by go_simp) HS0.out ?_
                  try simp only [List.set_cons_zero, List.set_cons_succ]
                  refine take_val 18 (.bool false) rfl (by kernel_rfl) (by kernel_rfl) (by kernel_rfl) (fun _ _ _ _ h => h) (by rfl) rfl (fun w _ => by go_simp) HS0.out ?_
                  try simp only [List.set_cons_zero, List.set_cons_succ]
                  refine take_val 19 (.bool false) rfl (by kernel_rfl) (by kernel_rfl) (by kernel_rfl) (fun _ _ _ _ h => h) (by rfl) rfl (fun w _ => by go_simp) HS0.out ?_
                  try simp only [List.set_cons_zero, List.set_cons_succ]
                  refine take_val 20 (.int .i64 ((j : Int) + 1)) rfl (by kernel_rfl) (by kernel_rfl) (by kernel_rfl) (fun _ _ _ _ h => h) (by rfl) rfl (fun w _ => by go_simp) HS0.out ?_
                  try simp only [List.set_cons_zero, List.set_cons_succ]
                  refine take_val 21 (.bool true) rfl (by kernel_rfl) (by kernel_rfl) (by kernel_rfl) (fun _ _ _ _ h => h) (by rfl) rfl (fun w _ => by go_simp) HS0.out ?_
                  try simp only [List.set_cons_zero, List.set_cons_succ]
                  refine take_val 22 (.bool true) rfl (by kernel_rfl) (by kernel_rfl) (by kernel_rfl) (fun _ _ _ _ h => h) (by rfl) rfl (fun w _ => by go_simp) HS0.out ?_
                  try simp only [List.set_cons_zero, List.set_cons_succ]
                  refine take_val 23 (.slice (some ⟨g, off, none⟩) l.length cap) rfl (by kernel_rfl) (by kernel_rfl) (by kernel_rfl) (fun _ _ _ _ h => h) (by rfl) rfl (fun w _ => by go_simp) HS0.out ?_
                  try simp only [List.set_cons_zero, List.set_cons_succ]
                  refine take_val 24 (.int .i64 ((j : Int) + 1)) rfl (by kernel_rfl) (by kernel_rfl) (by kernel_rfl) (fun _ _ _ _ h => h) (by rfl) rfl (fun w _ => by go_simp) HS0.out ?_
                  try simp only [List.set_cons_zero, List.set_cons_succ]
                  refine take_val 25 (.int .i64 (j : Int)) rfl (by kernel_rfl) (by kernel_rfl) (by kernel_rfl) (fun _ _ _ _ h => h) (by rfl) rfl (fun w _ => by go_simp) HS0.out ?_
                  try simp only [List.set_cons_zero, List.set_cons_succ]
                  refine take_val 26 (.pointer (some ⟨g, off + j * 7, none⟩)) rfl (by kernel_rfl) (by kernel_rfl) (by kernel_rfl) (fun _ _ _ _ h => h) (by rfl) rfl (fun w _ => by go_simp) HS0.out ?_
                  try simp only [List.set_cons_zero, List.set_cons_succ]
                  refine take_val 27 (.pointer (some ⟨g, off + j * 7, none⟩)) rfl (by kernel_rfl) (by kernel_rfl) (by kernel_rfl) (fun _ _ _ _ h => h) (by rfl) rfl (fun w _ => by go_simp) HS0.out ?_
                  try simp only [List.set_cons_zero, List.set_cons_succ]
                  refine take_val 28 (.string p') rfl (by kernel_rfl) (by kernel_rfl) (by kernel_rfl) (fun _ _ _ _ h => h) (by rfl) rfl (fun w hS => by obtain ⟨s0, s1, s2, s3, _⟩ := hS; go_simp) HS0.out ?_
                  try simp only [List.set_cons_zero, List.set_cons_succ]
                  refine take_val 29 (.pointer (some ⟨AB, 0, none⟩)) rfl (by kernel_rfl) (by kernel_rfl) (by kernel_rfl) (fun _ _ _ _ h => h) (by rfl) rfl (fun w _ => by go_simp) HS0.out ?_
                  try simp only [List.set_cons_zero, List.set_cons_succ]
                  refine take_val 30 (.string q1) rfl (by kernel_rfl) (by kernel_rfl) (by kernel_rfl) (fun _ _ _ _ h => h) (by rfl) rfl (fun w hS => by obtain ⟨s0, s1, s2, s3, _⟩ := hS; go_simp) HS0.out ?_
                  try simp only [List.set_cons_zero, List.set_cons_succ]
                  refine one_ready 31 (by kernel_rfl) rfl (by rfl) (fun K hK => ?_)
                  go_simp
                  refine (HCMP.out _ HB2.out).mono ?_
                  rintro e w3 ⟨rfl, hb⟩
                  go_wp2_with fail
                  have HB3 := Lib.hid (Below.step HB2.out hb)
                  have HS3 := Lib.hid (HSK.out _ HB3.out)
                  refine hK.out _ _ HS3.out ?_
                  clear hK K
                  try simp only [Act.put, List.setIfInBounds_toArray]
                  try simp only [List.set_cons_zero, List.set_cons_succ]
                  refine take_val 32 (.bool true) rfl (by kernel_rfl) (by kernel_rfl) (by kernel_rfl) (fun _ _ _ _ h => h) (by rfl) rfl (fun w _ => by go_simp) HS3.out ?_
                  try simp only [List.set_cons_zero, List.set_cons_succ]
                  refine take_val 33 (.bool true) rfl (by kernel_rfl) (by kernel_rfl) (by kernel_rfl) (fun _ _ _ _ h => h) (by rfl) rfl (fun w _ => by go_simp) HS3.out ?_
                  try simp only [List.set_cons_zero, List.set_cons_succ]
                  refine take_val 34 (.bool true) rfl (by kernel_rfl) (by kernel_rfl) (by kernel_rfl) (fun _ _ _ _ h => h) (by rfl) rfl (fun w _ => by go_simp) HS3.out ?_
                  try simp only [List.set_cons_zero, List.set_cons_succ]
                  refine wpAnyH_done (by kernel_rfl) ?_ _
                  refine NoPanic.normal ?_
                  have HBF := Lib.hid (Below.step HB1.out HB3.out)
                  go_wp2_with fail
                  go_ret
                  exact ⟨by rw [HW4.out]; rfl, HBF.out⟩
                · have HWN : Hid (wc = ego (some q1) (l.drop (j + 1 + 1))) := by
                    show _ = _
                    rw [HWD.out]
                    exact ego_on HNC0.out HNB.out (fun p2 e => by rw [HPV.out] at e; cases e; rw [HCV.out]; omega) _
                  clear HPV HCV
                  have hgx : g < w1.drew.heap.size := hg1
                  have HSK : Hid (∀ u, Below w1.drew.heap.size w1.drew u → u.cell? ⟨g, off + j * 7, none⟩ = some (.string p') ∧ u.cell? ⟨AB, 0, none⟩ = some (.string q1) ∧ u.cell? ⟨AB, 1, none⟩ = some (.bool false) ∧ u.cell? ⟨AB, 2, none⟩ = some (.string q1) ∧ True) := fun u hb => ⟨(hb.cell (p := ⟨g, off + j * 7, none⟩) hg1).trans hpc, (hb.cell (p := ⟨AB, 0, none⟩) hA1).trans y0, (hb.cell (p := ⟨AB, 1, none⟩) hA1).trans y1, (hb.cell (p := ⟨AB, 2, none⟩) hA1).trans y2, trivial⟩
                  have HB1 : Hid (Below w.heap.size w w1.drew) := HB1.out.drew
                  go_wp2_with fail
                  refine wp_region_noPanic ?_
                  refine wp_region_held_drew (S := fun u => u.cell? ⟨g, off + j * 7, none⟩ = some (.string p') ∧ u.cell? ⟨AB, 0, none⟩ = some (.string q1) ∧ u.cell? ⟨AB, 1, none⟩ = some (.bool false) ∧ u.cell? ⟨AB, 2, none⟩ = some (.string q1) ∧ True) (by kernel_rfl) (HSK.out _ (Below.refl _ _)) (fun hS0 => ?_)
                  have HS0 := Lib.hid hS0
                  have HB2 : Hid (Below w1.drew.heap.size w1.drew w1.drew) := Below.refl _ _
                  have HCMP : Hid (∀ u, Below w1.drew.heap.size w1.drew u → _) := fun u hu => HCMP.out u ((Below.refl w1.heap.size w1).drew.trans hu)
                  clear hS0 hpc y0 y1 y2
                  generalize w1.drew = w2 at *
                  refine take_val 0 (.pointer (some ⟨AB, 1, none⟩)) rfl (by kernel_rfl) (by kernel_rfl) (by kernel_rfl) (fun _ _ _ _ h => h) (by rfl) rfl (fun w _ => by go_simp) HS0.out ?_
                  try simp only [List.set_cons_zero, List.set_cons_succ]
                  refine take_val 1 (.bool false) rfl (by kernel_rfl) (by kernel_rfl) (by kernel_rfl) (fun _ _ _ _ h => h) (by rfl) rfl (fun w hS => by obtain ⟨s0, s1, s2, s3, _⟩ := hS; go_simp) HS0.out ?_
                  try simp only [List.set_cons_zero, List.set_cons_succ]
                  refine take_val 2 (.bool false) rfl (by kernel_rfl) (by kernel_rfl) (by kernel_rfl) (fun _ _ _ _ h => h) (by rfl) rfl (fun w _ => by go_simp) HS0.out ?_
                  try simp only [List.set_cons_zero, List.set_cons_succ]
                  refine take_not 3 rfl (by kernel_rfl) (by kernel_rfl) (by kernel_rfl) (fun _ _ _ _ h => h) (by rfl) rfl HS0.out ?_
                  try simp only [List.set_cons_zero, List.set_cons_succ]
                  refine take_not 4 rfl (by kernel_rfl) (by kernel_rfl) (by kernel_rfl) (fun _ _ _ _ h => h) (by rfl) rfl HS0.out ?_
                  try simp only [List.set_cons_zero, List.set_cons_succ]
                  refine take_val 5 (.bool false) rfl (by kernel_rfl) (by kernel_rfl) (by kernel_rfl) (fun _ _ _ _ h => h) (by rfl) rfl (fun w _ => by go_simp) HS0.out ?_
                  try simp only [List.set_cons_zero, List.set_cons_succ]
                  refine take_val 6 (.bool false) rfl (by kernel_rfl) (by kernel_rfl) (by kernel_rfl) (fun _ _ _ _ h => h) (by rfl) rfl (fun w _ => by go_simp) HS0.out ?_
                  try simp only [List.set_cons_zero, List.set_cons_succ]
                  refine take_val 7 (.pointer (some ⟨AB, 1, none⟩)) rfl (by kernel_rfl) (by kernel_rfl) (by kernel_rfl) (fun _ _ _ _ h => h) (by rfl) rfl (fun w _ => by go_simp) HS0.out ?_
                  try simp only [List.set_cons_zero, List.set_cons_succ]
                  refine take_val 8 (.bool false) rfl (by kernel_rfl) (by kernel_rfl) (by kernel_rfl) (fun _ _ _ _ h => h) (by rfl) rfl (fun w hS => by obtain ⟨s0, s1, s2, s3, _⟩ := hS; go_simp) HS0.out ?_
                  try simp only [List.set_cons_zero, List.set_cons_succ]
                  refine take_val 9 (.bool true) rfl (by kernel_rfl) (by kernel_rfl) (by kernel_rfl) (fun _ _ _ _ h => h) (by rfl) rfl (fun w _ => by go_simp) HS0.out ?_
                  try simp only [List.set_cons_zero, List.set_cons_succ]
                  refine take_val 10 (.bool true) rfl (by kernel_rfl) (by kernel_rfl) (by kernel_rfl) (fun _ _ _ _ h => h) (by rfl) rfl (fun w _ => by go_simp) HS0.out ?_
                  try simp only [List.set_cons_zero, List.set_cons_succ]
                  refine take_val 11 (.pointer (some ⟨AB, 2, none⟩)) rfl (by kernel_rfl) (by kernel_rfl) (by kernel_rfl) (fun _ _ _ _ h => h) (by rfl) rfl (fun w _ => by go_simp) HS0.out ?_
                  try simp only [List.set_cons_zero, List.set_cons_succ]
                  refine take_val 12 (.pointer (some ⟨AB, 2, none⟩)) rfl (by kernel_rfl) (by kernel_rfl) (by kernel_rfl) (fun _ _ _ _ h => h) (by rfl) rfl (fun w _ => by go_simp) HS0.out ?_
                  try simp only [List.set_cons_zero, List.set_cons_succ]
                  refine take_val 13 (.string q1) rfl (by kernel_rfl) (by kernel_rfl) (by kernel_rfl) (fun _ _ _ _ h => h) (by rfl) rfl (fun w hS => by obtain ⟨s0, s1, s2, s3, _⟩ := hS; go_simp) HS0.out ?_
                  try simp only [List.set_cons_zero, List.set_cons_succ]
                  refine take_val 14 (.pointer (some ⟨AB, 0, none⟩)) rfl (by kernel_rfl) (by kernel_rfl) (by kernel_rfl) (fun _ _ _ _ h => h) (by rfl) rfl (fun w _ => by go_simp) HS0.out ?_
                  try simp only [List.set_cons_zero, List.set_cons_succ]
                  refine take_val 15 (.string q1) rfl (by kernel_rfl) (by kernel_rfl) (by kernel_rfl) (fun _ _ _ _ h => h) (by rfl) rfl (fun w hS => by obtain ⟨s0, s1, s2, s3, _⟩ := hS; go_simp) HS0.out ?_
                  try simp only [List.set_cons_zero, List.set_cons_succ]
                  refine take_val 16 (.bool false) rfl (by kernel_rfl) (by kernel_rfl) (by kernel_rfl) (fun _ _ _ _ h => h) (by rfl) rfl (fun w _ => by go_simp) HS0.out ?_
                  try simp only [List.set_cons_zero, List.set_cons_succ]
                  refine take_val 17 (.bool false) rfl (by kernel_rfl) (by kernel_rfl) (by kernel_rfl) (fun _ _ _ _ h => h) (by rfl) rfl (fun w _ => by go_simp) HS0.out ?_
                  try simp only [List.set_cons_zero, List.set_cons_succ]
                  refine take_val 18 (.bool false) rfl (by kernel_rfl) (by kernel_rfl) (by kernel_rfl) (fun _ _ _ _ h => h) (by rfl) rfl (fun w _ => by go_simp) HS0.out ?_
                  try simp only [List.set_cons_zero, List.set_cons_succ]
                  refine take_val 19 (.bool false) rfl (by kernel_rfl) (by kernel_rfl) (by kernel_rfl) (fun _ _ _ _ h => h) (by rfl) rfl (fun w _ => by go_simp) HS0.out ?_
                  try simp only [List.set_cons_zero, List.set_cons_succ]
                  refine take_val 20 (.int .i64 ((j : Int) + 1)) rfl (by kernel_rfl) (by kernel_rfl) (by kernel_rfl) (fun _ _ _ _ h => h) (by rfl) rfl (fun w _ => by go_simp) HS0.out ?_
                  try simp only [List.set_cons_zero, List.set_cons_succ]
                  refine take_val 21 (.bool true) rfl (by kernel_rfl) (by kernel_rfl) (by kernel_rfl) (fun _ _ _ _ h => h) (by rfl) rfl (fun w _ => by go_simp) HS0.out ?_
                  try simp only [List.set_cons_zero, List.set_cons_succ]
                  refine take_val 22 (.bool true) rfl (by kernel_rfl) (by kernel_rfl) (by kernel_rfl) (fun _ _ _ _ h => h) (by rfl) rfl (fun w _ => by go_simp) HS0.out ?_
                  try simp only [List.set_cons_zero, List.set_cons_succ]
                  refine take_val 23 (.slice (some ⟨g, off, none⟩) l.length cap) rfl (by kernel_rfl) (by kernel_rfl) (by kernel_rfl) (fun _ _ _ _ h => h) (by rfl) rfl (fun w _ => by go_simp) HS0.out ?_
                  try simp only [List.set_cons_zero, List.set_cons_succ]
                  refine take_val 24 (.int .i64 ((j : Int) + 1)) rfl (by kernel_rfl) (by kernel_rfl) (by kernel_rfl) (fun _ _ _ _ h => h) (by rfl) rfl (fun w _ => by go_simp) HS0.out ?_
                  try simp only [List.set_cons_zero, List.set_cons_succ]
                  refine take_val 25 (.int .i64 (j : Int)) rfl (by kernel_rfl) (by kernel_rfl) (by kernel_rfl) (fun _ _ _ _ h => h) (by rfl) rfl (fun w _ => by go_simp) HS0.out ?_
                  try simp only [List.set_cons_zero, List.set_cons_succ]
                  refine take_val 26 (.pointer (some ⟨g, off + j * 7, none⟩)) rfl (by kernel_rfl) (by kernel_rfl) (by kernel_rfl) (fun _ _ _ _ h => h) (by rfl) rfl (fun w _ => by go_simp) HS0.out ?_
                  try simp only [List.set_cons_zero, List.set_cons_succ]
                  refine take_val 27 (.pointer (some ⟨g, off + j * 7, none⟩)) rfl (by kernel_rfl) (by kernel_rfl) (by kernel_rfl) (fun _ _ _ _ h => h) (by rfl) rfl (fun w _ => by go_simp) HS0.out ?_
                  try simp only [List.set_cons_zero, List.set_cons_succ]
                  refine take_val 28 (.string p') rfl (by kernel_rfl) (by kernel_rfl) (by kernel_rfl) (fun _ _ _ _ h => h) (by rfl) rfl (fun w hS => by obtain ⟨s0, s1, s2, s3, _⟩ := hS; go_simp) HS0.out ?_
                  try simp only [List.set_cons_zero, List.set_cons_succ]
                  refine take_val 29 (.pointer (some ⟨AB, 0, none⟩)) rfl (by kernel_rfl) (by kernel_rfl) (by kernel_rfl) (fun _ _ _ _ h => h) (by rfl) rfl (fun w _ => by go_simp) HS0.out ?_
                  try simp only [List.set_cons_zero, List.set_cons_succ]
                  refine take_val 30 (.string q1) rfl (by kernel_rfl) (by kernel_rfl) (by kernel_rfl) (fun _ _ _ _ h => h) (by rfl) rfl (fun w hS => by obtain ⟨s0, s1, s2, s3, _⟩ := hS; go_simp) HS0.out ?_
                  try simp only [List.set_cons_zero, List.set_cons_succ]
                  refine one_ready 31 (by kernel_rfl) rfl (by rfl) (fun K hK => ?_)
                  go_simp
                  refine (HCMP.out _ HB2.out).mono ?_
                  rintro e w3 ⟨rfl, hb⟩
                  go_wp2_with fail
                  have HB3 := Lib.hid (Below.step HB2.out hb)
                  have HS3 := Lib.hid (HSK.out _ HB3.out)
                  refine hK.out _ _ HS3.out ?_
                  clear hK K
                  try simp only [Act.put, List.setIfInBounds_toArray]
                  try simp only [List.set_cons_zero, List.set_cons_succ]
                  refine take_val 32 (.bool false) rfl (by kernel_rfl) (by kernel_rfl) (by kernel_rfl) (fun _ _ _ _ h => h) (by rfl) rfl (fun w _ => by go_simp) HS3.out ?_
                  try simp only [List.set_cons_zero, List.set_cons_succ]
                  refine take_val 33 (.bool false) rfl (by kernel_rfl) (by kernel_rfl) (by kernel_rfl) (fun _ _ _ _ h => h) (by rfl) rfl (fun w _ => by go_simp) HS3.out ?_
                  try simp only [List.set_cons_zero, List.set_cons_succ]
                  refine take_val 34 (.bool false) rfl (by kernel_rfl) (by kernel_rfl) (by kernel_rfl) (fun _ _ _ _ h => h) (by rfl) rfl (fun w _ => by go_simp) HS3.out ?_
                  try simp only [List.set_cons_zero, List.set_cons_succ]
                  refine wpAnyH_done (by kernel_rfl) ?_ _
                  refine NoPanic.normal ?_
                  have HBF := Lib.hid (Below.step HB1.out HB3.out)
                  go_wp2_with fail
                  go_roundw
                  case rel => exact ⟨j + 1 + 1, some q1, by omega, by go_num, HWN, HNP, HBF⟩
                  case measure => simp [intOf]; omega

            · have HBD : Hid (ebad (p, false, q1, q2, q3, q4, q5)) := .inr ⟨rfl, hq⟩
              have f4 : (q1.toList == p.toList) = false := other_strB hq
              have HW4 : Hid (wc = 4) := by show _ = _; rw [HWD.out]; exact ego_form HNC0.out HBD.out _ _
              go_wp2_with fail
              go_region
              have HBF : Hid (Below w.heap.size w w1.drew) := HB1.out.drew
              go_wp2_with fail
              go_ret
              exact ⟨by rw [HW4.out]; rfl, HBF.out⟩
        · have f2 : (nc p != 0) = true := by simpa using hc
          have HWD2 : Hid (wc = nc p) := by
            show _ = _
            rw [HWD.out, ego_bad hc]
          generalize nc p = ic at *
          clear hc HWD
          go_wp2_with fail
          go_ret
          exact ⟨by rw [HWD2.out]; rfl, HB1.out⟩
      · have m2 : ¬ (i : Int) < (l.length : Int) := by omega
        have HW0 : Hid (wc = 0) := by show _ = _; rw [HWC.out, List.drop_eq_nil_of_le (by omega)]; rfl
        go_wp2_with fail
        go_ret
        exact ⟨by rw [HW0.out]; rfl, HBR.out⟩
end Go.Proofs.YtokckcmkbnhhhaaDoor
