/- Joined: WalkCheck, WalkPath. -/
import Derived.Test.YtbfoonfbhebhfaaGreatDoorKGnF
import Derived.Maps.Own
import Derived.Maps.OwnSet
import Derived.Maps.OwnOps
import Derived.Maps.Views
import Derived.StringKeys
import Derived.Lib.SmallJoins
import Derived.Deep.RegionHeld3
namespace Go.Proofs.YtbfoonfbhebhfaaGreatDoor
open Go.RowKit Plain Go.Maps
abbrev BMap (w : World) (M n : Nat) (D : DataW Unit) : Prop := w.ownsMap Tryz.prog 9 (plainElem Tryz.prog 4) M n D
theorem law_strB : Keyed Tryz.prog 9 := string_keyed Tryz.underlying9
theorem zero_boolB (w : World) : (zeroValue 4).run Tryz.prog w = .ok (.bool false) w := by kernel_rfl
theorem BMap.of_heap {w w' : World} {M n : Nat} {D : DataW Unit} (h : BMap w M n D) (e : w'.heap[M]? = w.heap[M]?) : BMap w' M n D := by
 obtain ⟨es, clock, hb, rest⟩ := h
 exact ⟨es, clock, e.trans hb, rest⟩
theorem plainElem_bool_inv {v : Value} {z : DataW Unit × List MemPlace} (h : plainElem Tryz.prog 4 v = some z) : ∃ b, v = .bool b ∧ z = (.lit (.bool b), []) := by
 have hu : Tryz.prog.underlying 4 = some .bool := Tryz.underlying4
 generalize Tryz.prog = P at *
 generalize 4 = e at *
 unfold plainElem at h
 rw [hu] at h
 cases v <;> simp at h
 exact ⟨_, rfl, h.symm⟩
def litTrue (d : DataW Unit) : Prop := d = .lit (.bool true)
theorem bk_look {w : World} {M n : Nat} {D : DataW Unit} (h : BMap w M n D) (q : ByteArray) (hq : q.size ≤ 4294967296) : ∃ b : Bool, (Instr.lookup 149 (.map (some M)) (.string q) false).run Tryz.prog w = .ok (.bool b) w ∧ (b = true ↔ litTrue (D.atKey (.string q.data.toList) (.lit (.bool false)))) := by
 have hk : keyOf Tryz.prog 9 (.string q) = some (.string q.data.toList) := Go.WideMaps.keyOf_string_mk Tryz.underlying9 (by unfold maxLen; omega)
 obtain ⟨v, ps, hrun, hv⟩ := h.lookup law_strB Tryz.underlying149 (zero_boolB w) (plainElem_bool Tryz.underlying4 false) hk
 obtain ⟨b, rfl, hz⟩ := plainElem_bool_inv hv
 simp only [Prod.mk.injEq] at hz
 refine ⟨b, hrun, ?_⟩
 unfold litTrue
 rw [hz.1]
 cases b <;> simp
open Classical in
noncomputable def wgo : Option ByteArray → DataW Unit → List It → Int
 | _, _, [] => 0
 | pv, D, x :: l =>
  if icode x ≠ 0 then icode x
  else if ∃ p, pv = some p ∧ 0 ≤ cmpL (nk p) (nk x.1) then 4
  else if litTrue (D.atKey (.string (parent x.1).data.toList) (.lit (.bool false))) then wgo (some x.1) (D.put (.string x.1.data.toList) (.lit (.bool (x.2.1 == 2)))) l
  else 9
theorem wgo_bad {x : It} (h : icode x ≠ 0) (pv : Option ByteArray) (D : DataW Unit) (l : List It) : wgo pv D (x :: l) = icode x := by rw [wgo, if_pos h]
theorem wgo_ord {x : It} (h : icode x = 0) {pv : Option ByteArray} {p : ByteArray} (hp : pv = some p) (hc : 0 ≤ cmpL (nk p) (nk x.1)) (D : DataW Unit) (l : List It) : wgo pv D (x :: l) = 4 := by rw [wgo, if_neg (fun g => g h), if_pos ⟨p, hp, hc⟩]
theorem wgo_dir {x : It} (h : icode x = 0) {pv : Option ByteArray} (hp : ∀ p, pv = some p → cmpL (nk p) (nk x.1) < 0) {D : DataW Unit} (hd : ¬ litTrue (D.atKey (.string (parent x.1).data.toList) (.lit (.bool false)))) (l : List It) : wgo pv D (x :: l) = 9 := by
 rw [wgo, if_neg (fun g => g h), if_neg (fun ⟨p, e, g⟩ => by have := hp p e; omega), if_neg hd]
theorem wgo_on {x : It} (h : icode x = 0) {pv : Option ByteArray} (hp : ∀ p, pv = some p → cmpL (nk p) (nk x.1) < 0) {D : DataW Unit} (hd : litTrue (D.atKey (.string (parent x.1).data.toList) (.lit (.bool false)))) (l : List It) : wgo pv D (x :: l) = wgo (some x.1) (D.put (.string x.1.data.toList) (.lit (.bool (x.2.1 == 2)))) l := by
 rw [wgo, if_neg (fun g => g h), if_neg (fun ⟨p, e, g⟩ => by have := hp p e; omega), if_pos hd]
def dirs0 : DataW Unit := DataW.put (.map []) (.string (⟨#[]⟩ : ByteArray).data.toList) (.lit (.bool true))
noncomputable def wcode (l : List It) : Int := if 100 < l.length then 2 else wgo none dirs0 l
theorem wgo_zero : ∀ (l : List It) (pv : Option ByteArray) (D : DataW Unit), wgo pv D l = 0 → (∀ x ∈ l, nc x.1 = 0) ∧ Srt (ki nk (Prod.fst : It → ByteArray)) l ∧ ∀ p, pv = some p → ∀ x ∈ l, cmpL (nk p) (nk x.1) < 0
 | [], _, _, _ => ⟨by simp, Srt.nil, by simp⟩
 | x :: l, pv, D, h => by
  unfold wgo at h
  by_cases h1 : icode x = 0
  ·
   rw [if_neg (fun g => g h1)] at h
   by_cases h2 : ∃ p, pv = some p ∧ 0 ≤ cmpL (nk p) (nk x.1)
   ·
    rw [if_pos h2] at h; cases h
   ·
    rw [if_neg h2] at h
    split at h
    ·
     obtain ⟨i1, i2, i3⟩ := wgo_zero l _ _ h
     have i4 := i3 x.1 rfl
     refine ⟨fun y hy => ?_, Srt.cons (fun y hy => i4 y hy) i2, fun p hp y hy => ?_⟩
     ·
      rcases List.mem_cons.1 hy with rfl | hy
      ·
       exact icode_zero h1
      ·
       exact i1 y hy
     ·
      have hpx : cmpL (nk p) (nk x.1) < 0 := by
       apply Classical.byContradiction
       intro hne
       exact h2 ⟨p, hp, by omega⟩
      rcases List.mem_cons.1 hy with rfl | hy
      ·
       exact hpx
      ·
       exact cmpL_trans _ _ _ hpx (i4 y hy)
    ·
     cases h
  ·
   rw [if_pos h1] at h; exact absurd h h1
theorem wcode_zero {l : List It} (h : wcode l = 0) : l.length ≤ 100 ∧ (∀ x ∈ l, nc x.1 = 0) ∧ Srt (ki nk (Prod.fst : It → ByteArray)) l := by
 unfold wcode at h
 split at h
 ·
  cases h
 ·
  obtain ⟨h1, h2, _⟩ := wgo_zero l _ _ h
  exact ⟨by omega, h1, h2⟩
theorem parent_size (s : ByteArray) (h : s.size ≤ 1048576) : (parent s).size ≤ 4294967296 := by
 unfold parent
 rw [ByteArray.size_extract]
 omega
theorem keep2 {w0 u u' : World} {g p A : Nat} {x y : Value} (hg : g < w0.heap.size) (hA : A < w0.heap.size) (hS : u.cell? ⟨g, p, none⟩ = some x ∧ u.cell? ⟨A, 0, none⟩ = some y ∧ Below w0.heap.size w0 u) (hb : Below u.heap.size u u') :
  u'.cell? ⟨g, p, none⟩ = some x ∧ u'.cell? ⟨A, 0, none⟩ = some y ∧ Below w0.heap.size w0 u' := by
 obtain ⟨h1, h2, h3⟩ := hS
 have hs := h3.size
 exact ⟨(hb.cell (by show g < _; omega)).trans h1, (hb.cell (by show A < _; omega)).trans h2, Below.step h3 hb⟩
set_option maxRecDepth 100000 in
set_option maxHeartbeats 4000000 in
theorem wcheck_any (a : Option Addr) (cap : Nat) (l : List It) (m : Int) (w : World) (h : SAt 5 iC w a l) (hl : l.length ≤ 9223372036854775807) (hs : ∀ x ∈ l, x.1.size ≤ 1048576) (hm : MaxL m w) (hT : Tabs w) :
  Calls Tryz.prog 52 #[.slice a l.length cap] w fun e w' => e = .returned (.int .i64 (wcode l)) ∧ Below w.heap.size w w' := by
 have HS := Lib.hid h
 have HSZ := Lib.hid hs
 have HM := Lib.hid hm
 have HT := Lib.hid hT
 have HIT := Lib.hid item_any
 have HPA := Lib.hid parent_any
 have HNC := Lib.hid ncompare_any
 have hmm := @run_makeMap Tryz.prog
 obtain ⟨W2, hW, hown, hgr⟩ := (World.ownsMap_made w Tryz.prog 9 (plainElem (H := Unit) Tryz.prog 4)).update law_strB Tryz.underlying149 (by unfold maxLen; omega) (key := .string ⟨#[]⟩) (val := .bool true) (Go.WideMaps.keyOf_string_mk Tryz.underlying9 (by decide)) (plainElem_bool Tryz.underlying4 true)
 have HW : Hid (BMap W2 w.heap.size 1 dirs0 ∧ Below w.heap.size w W2) := ⟨hown, ((Below.refl w.heap.size w).alloc (Nat.le_refl _) _).grown hgr (by simp) (fun j hj => by cases hj; exact Nat.le_refl _)⟩
 clear h hs hm hT hown hgr
 by_cases h100 : 100 < l.length
 ·
  have f1 : (100 : Int) < (l.length : Int) := by omega
  have HR : Hid (wcode l = 2) := by show _ = _; unfold wcode; rw [if_pos h100]
  clear h100
  go_enter Tryz.func52, Tryz.ntmps52
  go_wp2_with fail
  go_ret
  exact ⟨by rw [HR.out]; rfl, Below.refl _ _⟩
 ·
  have f1 : ¬ (100 : Int) < (l.length : Int) := by omega
  have HR : Hid (wcode l = wgo none dirs0 l) := by show _ = _; unfold wcode; rw [if_neg h100]
  have hl1 : l.length ≤ 100 := by omega
  generalize wcode l = wc at *
  clear h100
  go_enter Tryz.func52, Tryz.ntmps52
  go_wp2_with fail
  clear hW hmm
  go_loopw [14] (fun iv wr => ∃ (i n : Nat) (pv : Option ByteArray) (D : DataW Unit), i ≤ l.length ∧ iv = .int .i64 (i : Int) ∧ Hid (BMap wr w.heap.size n D) ∧ Hid (wc = wgo pv D (l.drop i)) ∧ Hid (pv = if i = 0 then none else (l[i - 1]?).map (·.1)) ∧ Hid (n ≤ i + 1) ∧ Hid (Below w.heap.size w wr)) (fun iv _ => l.length - (intOf iv).toNat)
  case atStart => exact ⟨0, 1, none, dirs0, by omega, rfl, HW.out.1, HR, Lib.hid rfl, Lib.hid (by omega), HW.out.2⟩
  case round =>
   obtain ⟨i, n, pv, D, hi, rfl, HBM, HWC, HPV, HN, HBR⟩ := hrel
   by_cases hlt : i < l.length
   ·
    have m1 : (i : Int) < (l.length : Int) := by omega
    obtain ⟨g, off, rfl, hg, hr⟩ := (HS.out.below HBR.out) i hlt
    have a0 := hr 0 _ rfl
    have a1 := hr 1 _ rfl
    have a2 := hr 2 _ rfl
    have a3 := hr 3 _ rfl
    have a4 := hr 4 _ rfl
    have HPRV : Hid (i ≠ 0 → ∃ p, pv = some p ∧ wr.cell? ⟨g, off + (i - 1) * 5, none⟩ = some (.string p) ∧ p.size ≤ 1048576) := fun h0 => by
     have hk : i - 1 < l.length := by omega
     obtain ⟨g', off', e, _, hr'⟩ := (HS.out.below HBR.out) (i - 1) hk
     cases e
     refine ⟨(l[i - 1]).1, by rw [HPV.out, if_neg h0, List.getElem?_eq_getElem hk]; rfl, ?_, HSZ.out _ (List.getElem_mem hk)⟩
     have := hr' 0 _ rfl
     exact this
    have HZ : Hid (l[i].1.size ≤ 1048576) := HSZ.out _ (List.getElem_mem hlt)
    have HWD : Hid (wc = wgo pv D (l[i] :: l.drop (i + 1))) := by show _ = _; rw [HWC.out, List.drop_eq_getElem_cons hlt]
    have HNP : Hid ((some l[i].1) = if i + 1 = 0 then none else (l[i + 1 - 1]?).map (·.1)) := by
     show _ = _
     rw [if_neg (by omega), show i + 1 - 1 = i from rfl, List.getElem?_eq_getElem hlt]; rfl
    have HPZ : Hid (i = 0 → pv = none) := fun h => by rw [HPV.out, if_pos h]
    clear HWC HPV hr
    generalize l[i] = x at *
    obtain ⟨p, k, md, tm, by_⟩ := x
    simp only [Nat.add_zero] at a0
    have HBA : Hid (Below w.heap.size w (wr.alloc (.cells (iC (p, k, md, tm, by_)).toArray 40))) := HBR.out.alloc HBR.out.size _
    have HMA := Lib.hid (HBM.out.alloc (.cells (iC (p, k, md, tm, by_)).toArray 40))
    have HRA := Lib.hid (heap_alloc_new wr (.cells (iC (p, k, md, tm, by_)).toArray 40))
    have HPA2 : Hid (i ≠ 0 → ∃ p', pv = some p' ∧ (wr.alloc (.cells (iC (p, k, md, tm, by_)).toArray 40)).cell? ⟨g, off + (i - 1) * 5, none⟩ = some (.string p') ∧ p'.size ≤ 1048576) := fun h0 => by
     obtain ⟨p', e1, e2, e3⟩ := HPRV.out h0
     exact ⟨p', e1, (((Below.refl _ _).alloc (Nat.le_refl _) _).cell (by exact hg)).trans e2, e3⟩
    have HITC := Lib.hid (HIT.out (p, k, md, tm, by_) m (wr.alloc (.cells (iC (p, k, md, tm, by_)).toArray 40)) (Nat.le_trans HZ.out (by omega)) (HM.out.below HBA.out) (HT.out.below HBA.out))
    clear HPRV HBR HBM
    unfold iC at *
    dsimp only at *
    have b0 := cell_of_row _ _ 0 _ _ _ HRA.out
    have b1 := cell_of_row _ _ 1 _ _ _ HRA.out
    have b2 := cell_of_row _ _ 2 _ _ _ HRA.out
    have b3 := cell_of_row _ _ 3 _ _ _ HRA.out
    have b4 := cell_of_row _ _ 4 _ _ _ HRA.out
    simp only [List.getElem?_toArray, List.getElem?_cons_succ, List.getElem?_cons_zero] at b0 b1 b2 b3 b4
    go_wp2_with fail
    have hgA : g < (wr.alloc (.cells #[.string p, .int .i64 k, .int .i64 md, .int .i64 tm, .string by_] 40)).heap.size := lt_of_block ((((Below.refl _ _).alloc (Nat.le_refl _) _).block _ hg).trans (by rw [Array.getElem?_eq_getElem hg]))
    generalize wr.alloc (.cells #[.string p, .int .i64 k, .int .i64 md, .int .i64 tm, .string by_] 40) = wa at *
    generalize wr.heap.size = AB at *
    refine HITC.out.mono ?_
    rintro e w1 ⟨rfl, hb1⟩
    have HB1 := Lib.hid (Below.step HBA.out hb1)
    have HM1 := Lib.hid (BMap.of_heap HMA.out (hb1.block _ (World.ownsMap.lt HMA.out)))
    have HR1 := Lib.hid ((hb1.block _ (lt_of_block HRA.out)).trans HRA.out)
    have HP1 : Hid (i ≠ 0 → ∃ p', pv = some p' ∧ w1.cell? ⟨g, off + (i - 1) * 5, none⟩ = some (.string p') ∧ p'.size ≤ 1048576) := fun h0 => by
     obtain ⟨p', e1, e2, e3⟩ := HPA2.out h0
     exact ⟨p', e1, (hb1.cell (by exact hgA)).trans e2, e3⟩
    have hg1 : g < w1.heap.size := Nat.lt_of_lt_of_le hgA hb1.size
    have hA1 : AB < w1.heap.size := lt_of_block HR1.out
    clear hb1 hgA hg HITC HPA2 HRA HMA HBA a0 a1 a2 a3 a4 b0 b1 b2 b3 b4
    have y0 := cell_of_row _ _ 0 _ _ _ HR1.out
    simp only [List.getElem?_toArray, List.getElem?_cons_zero] at y0
    by_cases hc : icode (p, k, md, tm, by_) = 0
    ·
     have f2 : (icode (p, k, md, tm, by_) != 0) = false := by simp [hc]
     have HIC := Lib.hid hc
     have HNC0 : Hid (nc p = 0) := icode_zero hc
     generalize hic : icode (p, k, md, tm, by_) = ic at f2
     clear hc hic
     by_cases h0 : i = 0
     ·
      have HPN : Hid (∀ p', pv = some p' → cmpL (nk p') (nk p) < 0) := fun p' e => by rw [HPZ.out h0] at e; cases e
      have f3 : ¬ (0 : Int) < (i : Int) := by omega
      go_wp2_with fail
      go_region
      obtain ⟨q0, hb2⟩ : Hid (w1.drew.heap[AB]? = some (.cells #[.string p, .int .i64 k, .int .i64 md, .int .i64 tm, .string by_] 40 (0, 0))) ∧ Hid (Below w1.heap.size w1 w1.drew) := ⟨HR1, Lib.hid (Below.refl _ _).drew⟩
      have HB2 := Lib.hid (Below.step HB1.out hb2.out)
      have HM2 := Lib.hid (BMap.of_heap HM1.out (hb2.out.block _ (World.ownsMap.lt HM1.out)))
      clear HM1 HB1 HR1 hb2 y0 f3
      generalize hw2 : w1.drew = w2 at *
      clear hw2
      have y0 := cell_of_row _ _ 0 _ _ _ q0.out
      have y1 := cell_of_row _ _ 1 _ _ _ q0.out
      simp only [List.getElem?_toArray, List.getElem?_cons_succ, List.getElem?_cons_zero] at y0 y1
      go_wp2_with fail
      refine (HPA.out p w2 (by have := HZ.out; omega) HNC0.out).mono ?_
      rintro e w3 ⟨rfl, rfl⟩
      obtain ⟨b, hlk, hbt⟩ := bk_look HM2.out (parent p) (parent_size p (by have := HZ.out; exact this))
      cases b with
      | false =>
       have HW9 : Hid (wc = 9) := by show _ = _; rw [HWD.out]; exact wgo_dir HIC.out HPN.out (fun h => by have := hbt.2 h; cases this) _
       clear hbt
       go_wp2_with fail
       go_ret
       exact ⟨by rw [HW9.out]; rfl, HB2.out⟩
      | true =>
       have HWN : Hid (wc = wgo (some p) (D.put (.string p.data.toList) (.lit (.bool (k == 2)))) (l.drop (i + 1))) := by show _ = _; rw [HWD.out]; exact wgo_on HIC.out HPN.out (hbt.1 rfl) _
       have hnm : Hid (n < maxLen) := by have := HN.out; show _ < _; unfold maxLen; omega
       have HKEY : Hid (keyOf Tryz.prog 9 (.string p) = some (.string p.data.toList)) := Go.WideMaps.keyOf_string_mk Tryz.underlying9 (by have := HZ.out; unfold maxLen; omega)
       have HVAL : Hid (plainElem (H := Unit) Tryz.prog 4 (.bool (k == 2)) = some (.lit (.bool (k == 2)), [])) := plainElem_bool Tryz.underlying4 _
       clear hbt
       go_wp2_with (first
        | (at_mapUpdate; refine wpList_mapUpdate_own _ rfl _ _ _ 149 rfl 9 4 law_strB Tryz.underlying149 (plainElem Tryz.prog 4) w.heap.size n D rfl HM2.out hnm.out _ _ _ rfl rfl HKEY.out _ [] HVAL.out ?_; intro w9 hown9 hg9; go_frame)
        | go_in)
       have HM9 := Lib.hid hown9
       have HB9 : Hid (Below w.heap.size w w9) := HB2.out.grown hg9 HB2.out.size (fun j hj => by cases hj; exact Nat.le_refl _)
       have HN1 : Hid (n + 1 ≤ i + 1 + 1) := by have := HN.out; show _ ≤ _; omega
       clear hown9 hg9
       go_wp2_with fail
       go_roundw
       case rel => exact ⟨i + 1, n + 1, some p, _, by omega, by go_num, HM9, HWN, HNP, HN1, HB9⟩
       case measure => simp [intOf]; omega

     ·
      obtain ⟨j, rfl⟩ : ∃ j, i = j + 1 := ⟨i - 1, by omega⟩
      have f3 : (0 : Int) < ((j + 1 : Nat) : Int) := by omega
      obtain ⟨p', hpv, hpc, hpz⟩ := HP1.out h0
      have HCMP : Hid (∀ u, Below w1.heap.size w1 u → Calls Tryz.prog 84 #[.string p', .string p] u fun e w' => e = .returned (.int .i64 (cmpL (nk p') (nk p))) ∧ Below u.heap.size u w') := fun u hu => HNC.out p' p m u (by omega) (by have := HZ.out; omega) (HM.out.below (Below.step HB1.out hu)) (HT.out.below (Below.step HB1.out hu))
      have HPV := Lib.hid hpv
      have hix : ((j + 1 : Nat) : Int) - 1 = (j : Int) := by omega
      have hi1 : (j : Int) < (l.length : Int) := by omega
      have hi2 : (0 : Int) ≤ (j : Int) := by omega
      have hwr1 : IntKind.i64.wrap ((j : Int) + 1 - 1) = (j : Int) := by rw [show (j : Int) + 1 - 1 = (j : Int) by omega]; exact wraps_i64 _ (by omega) (by omega)
      have hwr2 : IntKind.i64.wrap (j : Int) = (j : Int) := wraps_i64 _ (by omega) (by omega)
      have hS : w1.drew.cell? ⟨g, off + j * 5, none⟩ = some (.string p') ∧ w1.drew.cell? ⟨AB, 0, none⟩ = some (.string p) ∧ Below w1.heap.size w1 w1.drew := ⟨hpc, y0, (Below.refl _ _).drew⟩
      generalize hcv : cmpL (nk p') (nk p) = cv at *
      have HCV := Lib.hid hcv
      clear hcv hpc hpv HP1 HPZ h0
      by_cases hc4 : 0 ≤ cv
      ·
       go_wp2_with fail
       go_region_held3 (fun u => u.cell? ⟨g, off + j * 5, none⟩ = some (.string p') ∧ u.cell? ⟨AB, 0, none⟩ = some (.string p) ∧ Below w1.heap.size w1 u) (first | exact hS | go_keep | (go_split_ands; exact keep2 hg1 hA1 ⟨by assumption, by assumption, by assumption⟩ hb)) (first | (go_at_call 84; (with_reducible refine (HCMP.out _ ?_).mono ?_); (go_split_ands; assumption); rintro e w' ⟨rfl, hb⟩))
       go_split_ands
       have hbw : Below w1.heap.size w1 w' := by assumption
       have HW4 : Hid (wc = 4) := by show _ = _; rw [HWD.out]; exact wgo_ord HIC.out HPV.out (by rw [HCV.out]; exact hc4) _ _
       have HBF := Lib.hid (Below.step HB1.out hbw)
       go_wp2_with fail
       go_ret
       exact ⟨by rw [HW4.out]; rfl, HBF.out⟩
      ·
       have HPN : Hid (∀ p', pv = some p' → cmpL (nk p') (nk p) < 0) := fun p2 e => by
        rw [HPV.out] at e
        cases e
        rw [HCV.out]; omega
       clear HPV HCV
       go_wp2_with fail
       go_region_held3 (fun u => u.cell? ⟨g, off + j * 5, none⟩ = some (.string p') ∧ u.cell? ⟨AB, 0, none⟩ = some (.string p) ∧ Below w1.heap.size w1 u) (first | exact hS | go_keep | (go_split_ands; exact keep2 hg1 hA1 ⟨by assumption, by assumption, by assumption⟩ hb)) (first | (go_at_call 84; (with_reducible refine (HCMP.out _ ?_).mono ?_); (go_split_ands; assumption); rintro e w2' ⟨rfl, hb⟩))
       go_split_ands
       have hbw : Below w1.heap.size w1 w2' := by assumption
       clear HCMP
       obtain ⟨q0, hb2⟩ : Hid (w2'.heap[AB]? = some (.cells #[.string p, .int .i64 k, .int .i64 md, .int .i64 tm, .string by_] 40 (0, 0))) ∧ Hid (Below w1.heap.size w1 w2') := ⟨Lib.hid ((hbw.block _ (lt_of_block HR1.out)).trans HR1.out), Lib.hid hbw⟩
       have HB2 := Lib.hid (Below.step HB1.out hb2.out)
       have HM2 := Lib.hid (BMap.of_heap HM1.out (hb2.out.block _ (World.ownsMap.lt HM1.out)))
       clear HM1 HB1 HR1 hb2 y0 f3
       generalize hw2 : w2' = w2 at *
       clear hw2
       have y0 := cell_of_row _ _ 0 _ _ _ q0.out
       have y1 := cell_of_row _ _ 1 _ _ _ q0.out
       simp only [List.getElem?_toArray, List.getElem?_cons_succ, List.getElem?_cons_zero] at y0 y1
       go_wp2_with fail
       refine (HPA.out p w2 (by have := HZ.out; omega) HNC0.out).mono ?_
       rintro e w3 ⟨rfl, rfl⟩
       obtain ⟨b, hlk, hbt⟩ := bk_look HM2.out (parent p) (parent_size p (by have := HZ.out; exact this))
       cases b with
       | false =>
        have HW9 : Hid (wc = 9) := by show _ = _; rw [HWD.out]; exact wgo_dir HIC.out HPN.out (fun h => by have := hbt.2 h; cases this) _
        clear hbt
        go_wp2_with fail
        go_ret
        exact ⟨by rw [HW9.out]; rfl, HB2.out⟩
       | true =>
        have HWN : Hid (wc = wgo (some p) (D.put (.string p.data.toList) (.lit (.bool (k == 2)))) (l.drop (j + 1 + 1))) := by show _ = _; rw [HWD.out]; exact wgo_on HIC.out HPN.out (hbt.1 rfl) _
        have hnm : Hid (n < maxLen) := by have := HN.out; show _ < _; unfold maxLen; omega
        have HKEY : Hid (keyOf Tryz.prog 9 (.string p) = some (.string p.data.toList)) := Go.WideMaps.keyOf_string_mk Tryz.underlying9 (by have := HZ.out; unfold maxLen; omega)
        have HVAL : Hid (plainElem (H := Unit) Tryz.prog 4 (.bool (k == 2)) = some (.lit (.bool (k == 2)), [])) := plainElem_bool Tryz.underlying4 _
        clear hbt
        go_wp2_with (first
         | (at_mapUpdate; refine wpList_mapUpdate_own _ rfl _ _ _ 149 rfl 9 4 law_strB Tryz.underlying149 (plainElem Tryz.prog 4) w.heap.size n D rfl HM2.out hnm.out _ _ _ rfl rfl HKEY.out _ [] HVAL.out ?_; intro w9 hown9 hg9; go_frame)
         | go_in)
        have HM9 := Lib.hid hown9
        have HB9 : Hid (Below w.heap.size w w9) := HB2.out.grown hg9 HB2.out.size (fun j hj => by cases hj; exact Nat.le_refl _)
        have HN1 : Hid (n + 1 ≤ j + 1 + 1 + 1) := by have := HN.out; show _ ≤ _; omega
        clear hown9 hg9
        go_wp2_with fail
        go_roundw
        case rel => exact ⟨j + 1 + 1, n + 1, some p, _, by omega, by go_num, HM9, HWN, HNP, HN1, HB9⟩
        case measure => simp [intOf]; omega
    ·
     have f2 : (icode (p, k, md, tm, by_) != 0) = true := by simpa using hc
     have HWD2 : Hid (wc = icode (p, k, md, tm, by_)) := by
      show _ = _
      rw [HWD.out, wgo_bad hc]
     generalize icode (p, k, md, tm, by_) = ic at *
     clear hc HWD
     go_wp2_with fail
     go_ret
     exact ⟨by rw [HWD2.out]; rfl, HB1.out⟩
   ·
    have m2 : ¬ (i : Int) < (l.length : Int) := by omega
    have HW0 : Hid (wc = 0) := by show _ = _; rw [HWC.out, List.drop_eq_nil_of_le (by omega)]; rfl
    go_wp2_with fail
    go_ret
    exact ⟨by rw [HW0.out]; rfl, HBR.out⟩
end Go.Proofs.YtbfoonfbhebhfaaGreatDoor
namespace Go.Proofs.YtbfoonfbhebhfaaGreatDoor
open Go.RowKit Plain Go.Maps
set_option linter.unusedVariables false
set_option linter.unusedSimpArgs false
def pthT (l : KT) : T := l.flatMap (fun a => 47 :: a)
def pthB (l : KT) : ByteArray := ⟨(pthT l).toArray⟩
theorem bT_pthB (l : KT) : bT (pthB l) = pthT l := by simp [bT, pthB]
theorem pthT_snoc (l : KT) (a : T) : pthT (l ++ [a]) = pthT l ++ 47 :: a := by simp [pthT]
theorem pthT_cons (a : T) (l : KT) : pthT (a :: l) = 47 :: a ++ pthT l := by simp [pthT]
theorem pthT_jn : ∀ {l : KT}, l ≠ [] → 47 :: jn l = pthT l
 | [], h => absurd rfl h
 | [a], _ => by simp [pthT, jn]
 | a :: b :: l, _ => by
  rw [jn_cons a (by simp), pthT_cons, ← pthT_jn (l := b :: l) (by simp)]
  simp
theorem pthT_ne {l : KT} (h : l ≠ []) : pthT l ≠ [] := by rw [← pthT_jn h]; simp
theorem pthT_inj {l m : KT} (hl : ∀ a ∈ l, 47 ∉ a) (hm : ∀ a ∈ m, 47 ∉ a) (h : pthT l = pthT m) : l = m := by
 by_cases h1 : l = []
 ·
  subst h1
  by_cases h2 : m = []
  ·
   exact h2.symm
  ·
   exact absurd h.symm (pthT_ne h2)
 ·
  by_cases h2 : m = []
  ·
   subst h2; exact absurd h (pthT_ne h1)
  ·
   rw [← pthT_jn h1, ← pthT_jn h2] at h
   injection h with _ h
   rw [← spl_jn l h1 hl, h, spl_jn m h2 hm]
theorem nk_names {s : ByteArray} (h0 : nc s = 0) : (nk s).length ≤ 8 ∧ ∀ a ∈ nk s, ck a = 0 := by
 have h := (chkAll_ok ck (nk s) 0).1 (splP_chk (ck := ck) h0)
 refine ⟨?_, h.2⟩
 rcases h.1 with e | e
 ·
  rw [e]; simp
 ·
  omega
theorem nk_noslash {s : ByteArray} (h0 : nc s = 0) : ∀ a ∈ nk s, 47 ∉ a := fun a ha => (ck_ok a ((nk_names h0).2 a ha)).1
theorem nk_path {s : ByteArray} (h0 : nc s = 0) (hne : nk s ≠ []) : bT s = pthT (nk s) := by
 rw [← pthT_jn hne]; exact (splP_jn (ck := ck) h0).symm
theorem nk_pth {l : KT} (hl : l ≠ []) (h8 : l.length ≤ 8) (hc : ∀ a ∈ l, ck a = 0) : nk (pthB l) = l ∧ nc (pthB l) = 0 := by
 have h := back_join (ck := ck) ck_ok (l := l) ((chkAll_ok ck l 0).2 ⟨.inr (by omega), hc⟩)
 rw [pthT_jn hl] at h
 unfold nk nc
 rw [bT_pthB, h]
 exact ⟨rfl, rfl⟩
theorem pthB_of {s : ByteArray} (h0 : nc s = 0) (hne : nk s ≠ []) : pthB (nk s) = s := bT_inj (by rw [bT_pthB, nk_path h0 hne])
theorem lastIx_at (s : ByteArray) : ∀ (n i : Nat), i < n → (s.data.toList.getD i 0).toNat = 47 → (∀ j, i < j → j < n → (s.data.toList.getD j 0).toNat ≠ 47) → lastIx s n = (i : Int)
 | 0, i, h, _, _ => by omega
 | n + 1, i, h, h1, h2 => by
  unfold lastIx
  by_cases e : i = n
  ·
   subst e; rw [if_pos h1]
  ·
   rw [if_neg (h2 n (by omega) (by omega))]
   exact lastIx_at s n i (by omega) h1 (fun j a b => h2 j a (by omega))
theorem parent_of {s : ByteArray} {l : KT} {a : T} (hb : bT s = pthT l ++ 47 :: a) (ha : 47 ∉ a) : parent s = pthB l := by
 have hz : s.size = (pthT l).length + 1 + a.length := by
  rw [← bT_length, hb]; simp; omega
 have hx : lastIx s s.size = ((pthT l).length : Int) := by
  apply lastIx_at
  ·
   omega
  ·
   show ((bT s).getD _ 0).toNat = 47
   rw [hb]; simp
  ·
   intro j h1 h2
   show ((bT s).getD _ 0).toNat ≠ 47
   rw [hb]
   obtain ⟨m, rfl⟩ : ∃ m, j = (pthT l).length + (m + 1) := ⟨j - (pthT l).length - 1, by omega⟩
   have hm : m < a.length := by omega
   rw [List.getD_eq_getElem?_getD, List.getElem?_append_right (by omega), Nat.add_sub_cancel_left, List.getElem?_cons_succ, List.getElem?_eq_getElem hm]
   intro e
   apply ha
   have : a[m] = 47 := by
    apply UInt8.toNat_inj.1
    exact e
   rw [← this]
   exact List.getElem_mem hm
 unfold parent
 rw [hx]
 apply strN_inj
 have e1 : strN (s.extract 0 (pthT l).length) = (strN s).take (pthT l).length := by
  unfold strN
  simp [ByteArray.data_extract, Array.toList_extract, List.take_drop, List.map_take]
 rw [Int.toNat_natCast, e1]
 show ((bT s).map UInt8.toNat).take _ = ((bT (pthB l)).map UInt8.toNat)
 rw [hb, bT_pthB, ← List.map_take]
 simp
theorem parent_nk {s : ByteArray} (h0 : nc s = 0) (hne : nk s ≠ []) : parent s = pthB (nk s).dropLast := by
 have h := nk_path h0 hne
 have e : nk s = (nk s).dropLast ++ [(nk s).getLast hne] := (List.dropLast_concat_getLast hne).symm
 rw [e, pthT_snoc] at h
 exact parent_of h (nk_noslash h0 _ (List.getLast_mem hne))
def kidsW (w : List It) (k : KT) : List It := w.filter fun x => decide ((nk x.1).dropLast = k)
def flatW (w : List It) : Nat → KT → List It
 | 0, k => kidsW w k
 | n + 1, k => (kidsW w k).flatMap fun x => x :: if x.2.1 = 2 then flatW w n (nk x.1) else []
structure Tre (w : List It) : Prop where
 srt : Srt (ki nk (Prod.fst : It → ByteArray)) w
 ok : ∀ x ∈ w, icode x = 0
 par : ∀ x ∈ w, (nk x.1).dropLast = [] ∨ ∃ y ∈ w, y.2.1 = 2 ∧ nk y.1 = (nk x.1).dropLast
theorem icode_facts {x : It} (h : icode x = 0) : nc x.1 = 0 ∧ nk x.1 ≠ [] ∧ (1 ≤ x.2.1 ∧ x.2.1 ≤ 3) ∧ (0 ≤ x.2.2.1 ∧ x.2.2.1 ≤ 511) ∧ (x.2.1 = 1 → x.2.2.2.2.size ≤ 4096) ∧ (x.2.1 = 2 → x.2.2.2.2.size = 0) ∧ (x.2.1 = 3 → x.2.2.2.2.size ≤ 1024 ∧ x.2.2.2.2.size ≠ 0) := by
 have h0 := icode_zero h
 unfold icode at h
 rw [if_neg (by rw [h0]; simp)] at h
 split at h
 ·
  cases h
 ·
  rename_i h1
  split at h
  ·
   cases h
  ·
   rename_i h2
   split at h
   ·
    cases h
   ·
    rename_i h3
    split at h
    ·
     cases h
    ·
     rename_i h4
     split at h
     ·
      cases h
     ·
      rename_i h5
      refine ⟨h0, fun e => h1 (by rw [e]; rfl), by omega, by omega, fun e => ?_, fun e => ?_, fun e => ⟨?_, fun e2 => h5 ⟨e, e2⟩⟩⟩
      ·
       apply Classical.byContradiction; intro g; exact h4 (.inl ⟨e, by omega⟩)
      ·
       apply Classical.byContradiction; intro g; exact h4 (.inr (.inl ⟨e, g⟩))
      ·
       apply Classical.byContradiction; intro g; exact h4 (.inr (.inr ⟨e, by omega⟩))
theorem wgo_par : ∀ (l : List It) (pv : Option ByteArray) (D : DataW Unit) (V : List It), IsMap D → (∀ q : ByteArray, litTrue (D.atKey (.string q.data.toList) (.lit (.bool false))) → q = ⟨#[]⟩ ∨ ∃ y ∈ V, y.2.1 = 2 ∧ y.1 = q) → wgo pv D l = 0 → (∀ x ∈ l, icode x = 0) ∧ ∀ x ∈ l, parent x.1 = ⟨#[]⟩ ∨ ∃ y ∈ V ++ l, y.2.1 = 2 ∧ y.1 = parent x.1
 | [], _, _, _, _, _, _ => ⟨by simp, by simp⟩
 | x :: l, pv, D, V, hm, hV, h => by
  unfold wgo at h
  by_cases h1 : icode x = 0
  ·
   rw [if_neg (fun g => g h1)] at h
   by_cases h2 : ∃ p, pv = some p ∧ 0 ≤ cmpL (nk p) (nk x.1)
   ·
    rw [if_pos h2] at h; cases h
   ·
    rw [if_neg h2] at h
    split at h
    ·
     rename_i h3
     obtain ⟨i1, i2⟩ := wgo_par l _ _ (V ++ [x]) (hm.put _ _) (fun q hq => by
      by_cases e : q = x.1
      ·
       subst e
       rw [atKey_put_same hm (by simp [WideAt.IsKeyLit])] at hq
       right
       refine ⟨x, by simp, ?_, rfl⟩
       unfold litTrue at hq
       simpa using hq
      ·
       rw [atKey_put_other (fun g => by
        injection g with g
        exact e (bT_inj g))] at hq
       rcases hV q hq with g | ⟨y, hy, g⟩
       ·
        exact .inl g
       ·
        exact .inr ⟨y, by simp [hy], g⟩) h
     refine ⟨fun y hy => ?_, fun y hy => ?_⟩
     ·
      rcases List.mem_cons.1 hy with rfl | hy
      ·
       exact h1
      ·
       exact i1 y hy
     ·
      rcases List.mem_cons.1 hy with rfl | hy
      ·
       rcases hV _ h3 with g | ⟨z, hz, g⟩
       ·
        exact .inl g
       ·
        exact .inr ⟨z, by simp [hz], g⟩
      ·
       rcases i2 y hy with g | ⟨z, hz, g⟩
       ·
        exact .inl g
       ·
        refine .inr ⟨z, ?_, g⟩
        simpa using hz
    ·
     cases h
  ·
   rw [if_pos h1] at h; exact absurd h h1
theorem dirs0_map : IsMap dirs0 := (show IsMap (DataW.map []) from ⟨[], rfl⟩).put _ _
theorem tre_of {w : List It} (h : wcode w = 0) : Tre w ∧ w.length ≤ 100 := by
 obtain ⟨h1, h2, h3⟩ := wcode_zero h
 have hg : wgo none dirs0 w = 0 := by
  unfold wcode at h
  rw [if_neg (by omega)] at h
  exact h
 obtain ⟨g1, g2⟩ := wgo_par w none dirs0 [] dirs0_map (fun q hq => by
  by_cases e : q = ⟨#[]⟩
  ·
   exact .inl e
  ·
   exfalso
   unfold dirs0 at hq
   rw [atKey_put_other (fun g => by
    injection g with g
    exact e (bT_inj g))] at hq
   unfold litTrue at hq
   rw [WideAt.atKey_none _ (by simp)] at hq
   cases hq) hg
 refine ⟨⟨h3, g1, fun x hx => ?_⟩, h1⟩
 obtain ⟨f0, f1, _⟩ := icode_facts (g1 x hx)
 have hp := g2 x hx
 rw [parent_nk f0 f1] at hp
 by_cases hd : (nk x.1).dropLast = []
 ·
  exact .inl hd
 ·
  right
  rcases hp with e | ⟨y, hy, h2, e⟩
  ·
   exfalso
   have := congrArg bT e
   rw [bT_pthB] at this
   exact pthT_ne hd this
  ·
   refine ⟨y, by simpa using hy, h2, ?_⟩
   rw [e]
   exact (nk_pth hd (by rw [List.length_dropLast]; have := (nk_names f0).1; omega) (fun a ha => (nk_names f0).2 a (List.dropLast_subset _ ha))).1
theorem kids_mem {w : List It} {k : KT} {x : It} : x ∈ kidsW w k ↔ x ∈ w ∧ (nk x.1).dropLast = k := by simp [kidsW]
theorem kid_key {w : List It} (hw : Tre w) {k : KT} {x : It} (h : x ∈ kidsW w k) : ∃ a, nk x.1 = k ++ [a] := by
 obtain ⟨h1, h2⟩ := kids_mem.1 h
 obtain ⟨_, f1, _⟩ := icode_facts (hw.ok x h1)
 exact ⟨(nk x.1).getLast f1, by rw [← h2, List.dropLast_concat_getLast f1]⟩
theorem flat_mem {w : List It} (hw : Tre w) : ∀ (n : Nat) (k : KT) (x : It), x ∈ flatW w n k → x ∈ w ∧ ∃ a u, nk x.1 = k ++ a :: u
 | 0, k, x, h => by
  obtain ⟨a, e⟩ := kid_key hw h
  exact ⟨(kids_mem.1 h).1, a, [], e⟩
 | n + 1, k, x, h => by
  obtain ⟨y, hy, hx⟩ := List.mem_flatMap.1 h
  obtain ⟨a, e⟩ := kid_key hw hy
  rcases List.mem_cons.1 hx with rfl | hx
  ·
   exact ⟨(kids_mem.1 hy).1, a, [], e⟩
  ·
   split at hx
   ·
    obtain ⟨h1, b, u, h2⟩ := flat_mem hw n _ x hx
    exact ⟨h1, a, b :: u, by rw [h2, e]; simp⟩
   ·
    cases hx
theorem cmpL_pre : ∀ (k l m : KT), cmpL (k ++ l) (k ++ m) < 0 ↔ cmpL l m < 0
 | [], _, _ => Iff.rfl
 | a :: k, l, m => by
  rw [List.cons_append, List.cons_append, cmpL_lt]
  have h := (cb_zero a a).2 rfl
  constructor
  ·
   rintro (h1 | ⟨_, h1⟩)
   ·
    omega
   ·
    exact (cmpL_pre k l m).1 h1
  ·
   exact fun h1 => .inr ⟨rfl, (cmpL_pre k l m).2 h1⟩
theorem cmpL_one {a b : T} {u v : KT} (h : cmpL [a] [b] < 0) : cmpL (a :: u) (b :: v) < 0 := by
 rw [cmpL_lt] at h ⊢
 rcases h with h | ⟨_, h⟩
 ·
  exact .inl h
 ·
  exact absurd h (cmpL_irr [])
theorem srt_flat {w : List It} (hw : Tre w) : ∀ (n : Nat) (k : KT), Srt (ki nk (Prod.fst : It → ByteArray)) (flatW w n k)
 | 0, k => hw.srt.filter _
 | n + 1, k => by
  show List.Pairwise _ _
  unfold flatW
  rw [List.pairwise_flatMap]
  refine ⟨fun x hx => ?_, ?_⟩
  ·
   split
   ·
    refine List.pairwise_cons.2 ⟨fun y hy => ?_, srt_flat hw n _⟩
    obtain ⟨_, b, u, h2⟩ := flat_mem hw n _ y hy
    show cmpL (nk x.1) (nk y.1) < 0
    rw [h2]
    exact cmpL_prefix _ _ (by simp)
   ·
    simp
  ·
   refine List.Pairwise.imp_of_mem ?_ (hw.srt.filter (fun x => decide ((nk x.1).dropLast = k)))
   intro x y hx hy hxy p hp q hq
   obtain ⟨a, ea⟩ := kid_key hw hx
   obtain ⟨b, eb⟩ := kid_key hw hy
   have hxy : cmpL (nk x.1) (nk y.1) < 0 := hxy
   rw [ea, eb, cmpL_pre] at hxy
   have key : ∀ (z : It) (c : T) (p : It), nk z.1 = k ++ [c] → (p ∈ z :: if z.2.1 = 2 then flatW w n (nk z.1) else []) → ∃ u, nk p.1 = k ++ c :: u := by
    intro z c p e hp
    rcases List.mem_cons.1 hp with rfl | hp
    ·
     exact ⟨[], e⟩
    ·
     split at hp
     ·
      obtain ⟨_, b, u, h2⟩ := flat_mem hw n _ p hp
      exact ⟨b :: u, by rw [h2, e]; simp⟩
     ·
      cases hp
   obtain ⟨u, e1⟩ := key x a p ea hp
   obtain ⟨v, e2⟩ := key y b q eb hq
   show cmpL (nk p.1) (nk q.1) < 0
   rw [e1, e2, cmpL_pre]
   exact cmpL_one hxy
theorem ancW {w : List It} (hw : Tre w) : ∀ (n : Nat) (y : It) (k u : KT), u.length = n + 1 → y ∈ w → nk y.1 = k ++ u → k ≠ [] → ∃ x ∈ w, x.2.1 = 2 ∧ nk x.1 = k
 | 0, y, k, u, hu, hy, e, hk => by
  obtain ⟨a, rfl⟩ := List.length_eq_one_iff.1 hu
  have := hw.par y hy
  rw [e, List.dropLast_concat] at this
  rcases this with h | h
  ·
   exact absurd h hk
  ·
   exact h
 | n + 1, y, k, u, hu, hy, e, hk => by
  have hne : u ≠ [] := by intro g; rw [g] at hu; simp at hu
  have hd : (nk y.1).dropLast = k ++ u.dropLast := by rw [e, List.dropLast_append_of_ne_nil hne]
  have := hw.par y hy
  rw [hd] at this
  rcases this with h | ⟨z, hz, _, h⟩
  ·
   exact absurd (List.append_eq_nil_iff.1 h).1 hk
  ·
   exact ancW hw n z k u.dropLast (by rw [List.length_dropLast]; omega) hz h hk
theorem flat_all {w : List It} (hw : Tre w) : ∀ (n : Nat) (k : KT) (y : It) (u : KT), y ∈ w → nk y.1 = k ++ u → u ≠ [] → u.length ≤ n + 1 → y ∈ flatW w n k
 | 0, k, y, u, hy, e, hu, hn => by
  obtain ⟨a, rfl⟩ := List.length_eq_one_iff.1 (show u.length = 1 by have := List.length_pos_iff.2 hu; omega)
  exact kids_mem.2 ⟨hy, by rw [e, List.dropLast_concat]⟩
 | n + 1, k, y, u, hy, e, hu, hn => by
  match u, hu with
  | a :: u', _ =>
   refine List.mem_flatMap.2 ?_
   by_cases h : u' = []
   ·
    subst h
    exact ⟨y, kids_mem.2 ⟨hy, by rw [e, List.dropLast_concat]⟩, List.mem_cons_self⟩
   ·
    have e2 : nk y.1 = (k ++ [a]) ++ u' := by rw [e]; simp
    obtain ⟨x, hx, h2, hk⟩ := ancW hw (u'.length - 1) y (k ++ [a]) u' (by have := List.length_pos_iff.2 h; omega) hy e2 (by simp)
    refine ⟨x, kids_mem.2 ⟨hx, by rw [hk, List.dropLast_concat]⟩, ?_⟩
    rw [if_pos h2]
    refine List.mem_cons_of_mem _ (flat_all hw n _ y u' hy ?_ h (by simp at hn; omega))
    rw [hk, e2]
theorem srt_mem_ext {A : Type} {ka : A → KT} {l m : List A} (hl : Srt ka l) (hm : Srt ka m) (h : ∀ x, x ∈ l ↔ x ∈ m) : l = m := by
 refine hl.ext hm fun k => ?_
 by_cases hk : ∃ x ∈ l, ka x = k
 ·
  obtain ⟨x, hx, rfl⟩ := hk
  rw [fnd_mem hl hx, fnd_mem hm ((h x).1 hx)]
 ·
  rw [fnd_none fun x hx e => hk ⟨x, hx, e⟩, fnd_none fun x hx e => hk ⟨x, (h x).2 hx, e⟩]
theorem flat_root {w : List It} (hw : Tre w) : flatW w 8 [] = w := by
 refine srt_mem_ext (srt_flat hw 8 []) hw.srt fun x => ⟨fun h => (flat_mem hw 8 [] x h).1, fun h => ?_⟩
 obtain ⟨f0, f1, _⟩ := icode_facts (hw.ok x h)
 exact flat_all hw 8 [] x (nk x.1) h rfl f1 (by have := (nk_names f0).1; omega)
end Go.Proofs.YtbfoonfbhebhfaaGreatDoor
