/- The walk of walk.Check. -/
import Derived.Test.YtmdodcpmbhehdaaDoorWalkItem
import Derived.Maps.Own
import Derived.Maps.OwnSet
import Derived.Maps.OwnOps
import Derived.Maps.Views
import Derived.StringKeys
import Derived.Lib.SmallJoins
import Derived.Deep.RegionHeld3
namespace Go.Proofs.YtmdodcpmbhehdaaDoor
open Go.RowKit Plain Go.Maps
abbrev BMap (w : World) (M n : Nat) (D : DataW Unit) : Prop := w.ownsMap Tryd.prog 9 (plainElem Tryd.prog 4) M n D
theorem law_strB : Keyed Tryd.prog 9 := string_keyed Tryd.underlying9
theorem zero_boolB (w : World) : (zeroValue 4).run Tryd.prog w = .ok (.bool false) w := by kernel_rfl
theorem BMap.of_heap {w w' : World} {M n : Nat} {D : DataW Unit} (h : BMap w M n D) (e : w'.heap[M]? = w.heap[M]?) : BMap w' M n D := by
  obtain ⟨es, clock, hb, rest⟩ := h
  exact ⟨es, clock, e.trans hb, rest⟩
theorem plainElem_bool_inv {v : Value} {z : DataW Unit × List MemPlace} (h : plainElem Tryd.prog 4 v = some z) : ∃ b, v = .bool b ∧ z = (.lit (.bool b), []) := by
  have hu : Tryd.prog.underlying 4 = some .bool := Tryd.underlying4
  generalize Tryd.prog = P at *
  generalize 4 = e at *
  unfold plainElem at h
  rw [hu] at h
  cases v <;> simp at h
  exact ⟨_, rfl, h.symm⟩
/-- is it laid down as true? -/
def litTrue (d : DataW Unit) : Prop := d = .lit (.bool true)
theorem bk_look {w : World} {M n : Nat} {D : DataW Unit} (h : BMap w M n D) (q : ByteArray) (hq : q.size ≤ 4294967296) : ∃ b : Bool, (Instr.lookup 117 (.map (some M)) (.string q) false).run Tryd.prog w = .ok (.bool b) w ∧ (b = true ↔ litTrue (D.atKey (.string q.data.toList) (.lit (.bool false)))) := by
  have hk : keyOf Tryd.prog 9 (.string q) = some (.string q.data.toList) := Go.WideMaps.keyOf_string_mk Tryd.underlying9 (by unfold maxLen; omega)
  obtain ⟨v, ps, hrun, hv⟩ := h.lookup law_strB Tryd.underlying117 (zero_boolB w) (plainElem_bool Tryd.underlying4 false) hk
  obtain ⟨b, rfl, hz⟩ := plainElem_bool_inv hv
  simp only [Prod.mk.injEq] at hz
  refine ⟨b, hrun, ?_⟩
  unfold litTrue
  rw [hz.1]
  cases b <;> simp
open Classical in
noncomputable def wgo : Option ByteArray → DataW Unit → List It → Int
  | _, _, [] => 0
  | pv, D, x :: l =>
    if icode x ≠ 0 then icode x
    else if ∃ p, pv = some p ∧ 0 ≤ cmpL (nk p) (nk x.1) then 4
    else if litTrue (D.atKey (.string (parent x.1).data.toList) (.lit (.bool false))) then wgo (some x.1) (D.put (.string x.1.data.toList) (.lit (.bool (x.2.1 == 2)))) l
    else 9
theorem wgo_bad {x : It} (h : icode x ≠ 0) (pv : Option ByteArray) (D : DataW Unit) (l : List It) : wgo pv D (x :: l) = icode x := by rw [wgo, if_pos h]
theorem wgo_ord {x : It} (h : icode x = 0) {pv : Option ByteArray} {p : ByteArray} (hp : pv = some p) (hc : 0 ≤ cmpL (nk p) (nk x.1)) (D : DataW Unit) (l : List It) : wgo pv D (x :: l) = 4 := by rw [wgo, if_neg (fun g => g h), if_pos ⟨p, hp, hc⟩]
theorem wgo_dir {x : It} (h : icode x = 0) {pv : Option ByteArray} (hp : ∀ p, pv = some p → cmpL (nk p) (nk x.1) < 0) {D : DataW Unit} (hd : ¬ litTrue (D.atKey (.string (parent x.1).data.toList) (.lit (.bool false)))) (l : List It) : wgo pv D (x :: l) = 9 := by
  rw [wgo, if_neg (fun g => g h), if_neg (fun ⟨p, e, g⟩ => by have := hp p e; omega), if_neg hd]
theorem wgo_on {x : It} (h : icode x = 0) {pv : Option ByteArray} (hp : ∀ p, pv = some p → cmpL (nk p) (nk x.1) < 0) {D : DataW Unit} (hd : litTrue (D.atKey (.string (parent x.1).data.toList) (.lit (.bool false)))) (l : List It) : wgo pv D (x :: l) = wgo (some x.1) (D.put (.string x.1.data.toList) (.lit (.bool (x.2.1 == 2)))) l := by
  rw [wgo, if_neg (fun g => g h), if_neg (fun ⟨p, e, g⟩ => by have := hp p e; omega), if_pos hd]
def dirs0 : DataW Unit := DataW.put (.map []) (.string (⟨#[]⟩ : ByteArray).data.toList) (.lit (.bool true))
/-- what walk.Check says of a world -/
noncomputable def wcode (l : List It) : Int := if 100 < l.length then 2 else wgo none dirs0 l
theorem wgo_zero : ∀ (l : List It) (pv : Option ByteArray) (D : DataW Unit), wgo pv D l = 0 → (∀ x ∈ l, nc x.1 = 0) ∧ Srt (ki nk (Prod.fst : It → ByteArray)) l ∧ ∀ p, pv = some p → ∀ x ∈ l, cmpL (nk p) (nk x.1) < 0
  | [], _, _, _ => ⟨by simp, Srt.nil, by simp⟩
  | x :: l, pv, D, h => by
    unfold wgo at h
    by_cases h1 : icode x = 0
    · rw [if_neg (fun g => g h1)] at h
      by_cases h2 : ∃ p, pv = some p ∧ 0 ≤ cmpL (nk p) (nk x.1)
      · rw [if_pos h2] at h; cases h
      · rw [if_neg h2] at h
        split at h
        · obtain ⟨i1, i2, i3⟩ := wgo_zero l _ _ h
          have i4 := i3 x.1 rfl
          refine ⟨fun y hy => ?_, Srt.cons (fun y hy => i4 y hy) i2, fun p hp y hy => ?_⟩
          · rcases List.mem_cons.1 hy with rfl | hy
            · exact icode_zero h1
            · exact i1 y hy
          · have hpx : cmpL (nk p) (nk x.1) < 0 := by
              apply Classical.byContradiction
              intro hne
              exact h2 ⟨p, hp, by omega⟩
            rcases List.mem_cons.1 hy with rfl | hy
            · exact hpx
            · exact cmpL_trans _ _ _ hpx (i4 y hy)
        · cases h
    · rw [if_pos h1] at h; exact absurd h h1
theorem wcode_zero {l : List It} (h : wcode l = 0) : l.length ≤ 100 ∧ (∀ x ∈ l, nc x.1 = 0) ∧ Srt (ki nk (Prod.fst : It → ByteArray)) l := by
  unfold wcode at h
  split at h
  · cases h
  · obtain ⟨h1, h2, _⟩ := wgo_zero l _ _ h
    exact ⟨by omega, h1, h2⟩
theorem parent_size (s : ByteArray) (h : s.size ≤ 1048576) : (parent s).size ≤ 4294967296 := by
  unfold parent
  rw [ByteArray.size_extract]
  omega
theorem it_cell {w : World} {a : Option Addr} {l : List It} (h : SAt 5 iC w a l) (k : Nat) (hk : k < l.length) : ∃ g off, a = some ⟨g, off, none⟩ ∧ g < w.heap.size ∧ w.rangeAt g (off + k * 5) (iC l[k]) := h k hk
theorem keep2 {w0 u u' : World} {g p A : Nat} {x y : Value} (hg : g < w0.heap.size) (hA : A < w0.heap.size) (hS : u.cell? ⟨g, p, none⟩ = some x ∧ u.cell? ⟨A, 0, none⟩ = some y ∧ Below w0.heap.size w0 u) (hb : Below u.heap.size u u') :
    u'.cell? ⟨g, p, none⟩ = some x ∧ u'.cell? ⟨A, 0, none⟩ = some y ∧ Below w0.heap.size w0 u' := by
  obtain ⟨h1, h2, h3⟩ := hS
  have hs := h3.size
  exact ⟨(hb.cell (by show g < _; omega)).trans h1, (hb.cell (by show A < _; omega)).trans h2, Below.step h3 hb⟩
set_option maxRecDepth 100000 in
set_option maxHeartbeats 4000000 in
theorem wcheck_any (a : Option Addr) (cap : Nat) (l : List It) (m : Int) (w : World) (h : SAt 5 iC w a l) (hl : l.length ≤ 9223372036854775807) (hs : ∀ x ∈ l, x.1.size ≤ 1048576) (hm : MaxL m w) (hT : Tabs w) :
    Calls Tryd.prog 61 #[.slice a l.length cap] w fun e w' => e = .returned (.int .i64 (wcode l)) ∧ Below w.heap.size w w' := by
  have HS := Lib.hid h
  have HSZ := Lib.hid hs
  have HM := Lib.hid hm
  have HT := Lib.hid hT
  have HIT := Lib.hid item_any
  have HPA := Lib.hid parent_any
  have HNC := Lib.hid ncompare_any
  have hmm := @run_makeMap Tryd.prog
  obtain ⟨W2, hW, hown, hgr⟩ := (World.ownsMap_made w Tryd.prog 9 (plainElem (H := Unit) Tryd.prog 4)).update law_strB Tryd.underlying117 (by unfold maxLen; omega) (key := .string ⟨#[]⟩) (val := .bool true) (Go.WideMaps.keyOf_string_mk Tryd.underlying9 (by decide)) (plainElem_bool Tryd.underlying4 true)
  have HW : Hid (BMap W2 w.heap.size 1 dirs0 ∧ Below w.heap.size w W2) := ⟨hown, ((Below.refl w.heap.size w).alloc (Nat.le_refl _) _).grown hgr (by simp) (fun j hj => by cases hj; exact Nat.le_refl _)⟩
  clear h hs hm hT hown hgr
  by_cases h100 : 100 < l.length
  · have f1 : (100 : Int) < (l.length : Int) := by omega
    have HR : Hid (wcode l = 2) := by show _ = _; unfold wcode; rw [if_pos h100]
    clear h100
    go_enter Tryd.func61, Tryd.ntmps61
    go_wp2_with fail
    go_ret
    exact ⟨by rw [HR.out]; rfl, Below.refl _ _⟩
  · have f1 : ¬ (100 : Int) < (l.length : Int) := by omega
    have HR : Hid (wcode l = wgo none dirs0 l) := by show _ = _; unfold wcode; rw [if_neg h100]
    have hl1 : l.length ≤ 100 := by omega
    generalize wcode l = wc at *
    clear h100
    go_enter Tryd.func61, Tryd.ntmps61
    go_wp2_with fail
    clear hW hmm
    go_loopw [14] (fun iv wr => ∃ (i n : Nat) (pv : Option ByteArray) (D : DataW Unit), i ≤ l.length ∧ iv = .int .i64 (i : Int) ∧ Hid (BMap wr w.heap.size n D) ∧ Hid (wc = wgo pv D (l.drop i)) ∧ Hid (pv = if i = 0 then none else (l[i - 1]?).map (·.1)) ∧ Hid (n ≤ i + 1) ∧ Hid (Below w.heap.size w wr)) (fun iv _ => l.length - (intOf iv).toNat)
    case atStart => exact ⟨0, 1, none, dirs0, by omega, rfl, HW.out.1, HR, Lib.hid rfl, Lib.hid (by omega), HW.out.2⟩
    case round =>
      obtain ⟨i, n, pv, D, hi, rfl, HBM, HWC, HPV, HN, HBR⟩ := hrel
      by_cases hlt : i < l.length
      · have m1 : (i : Int) < (l.length : Int) := by omega
        obtain ⟨g, off, rfl, hg, hr⟩ := (HS.out.below HBR.out) i hlt
        have a0 := hr 0 _ rfl
        have a1 := hr 1 _ rfl
        have a2 := hr 2 _ rfl
        have a3 := hr 3 _ rfl
        have a4 := hr 4 _ rfl
        have HPRV : Hid (i ≠ 0 → ∃ p, pv = some p ∧ wr.cell? ⟨g, off + (i - 1) * 5, none⟩ = some (.string p) ∧ p.size ≤ 1048576) := fun h0 => by
          have hk : i - 1 < l.length := by omega
          obtain ⟨g', off', e, _, hr'⟩ := (HS.out.below HBR.out) (i - 1) hk
          cases e
          refine ⟨(l[i - 1]).1, by rw [HPV.out, if_neg h0, List.getElem?_eq_getElem hk]; rfl, ?_, HSZ.out _ (List.getElem_mem hk)⟩
          have := hr' 0 _ rfl
          exact this
        have HZ : Hid (l[i].1.size ≤ 1048576) := HSZ.out _ (List.getElem_mem hlt)
        have HWD : Hid (wc = wgo pv D (l[i] :: l.drop (i + 1))) := by show _ = _; rw [HWC.out, List.drop_eq_getElem_cons hlt]
        have HNP : Hid ((some l[i].1) = if i + 1 = 0 then none else (l[i + 1 - 1]?).map (·.1)) := by
          show _ = _
          rw [if_neg (by omega), show i + 1 - 1 = i from rfl, List.getElem?_eq_getElem hlt]; rfl
        have HPZ : Hid (i = 0 → pv = none) := fun h => by rw [HPV.out, if_pos h]
        clear HWC HPV hr
        generalize l[i] = x at *
        obtain ⟨p, k, md, tm, by_⟩ := x
        simp only [Nat.add_zero] at a0
        have HBA : Hid (Below w.heap.size w (wr.alloc (.cells (iC (p, k, md, tm, by_)).toArray 95))) := HBR.out.alloc HBR.out.size _
        have HMA := Lib.hid (HBM.out.alloc (.cells (iC (p, k, md, tm, by_)).toArray 95))
        have HRA := Lib.hid (heap_alloc_new wr (.cells (iC (p, k, md, tm, by_)).toArray 95))
        have HPA2 : Hid (i ≠ 0 → ∃ p', pv = some p' ∧ (wr.alloc (.cells (iC (p, k, md, tm, by_)).toArray 95)).cell? ⟨g, off + (i - 1) * 5, none⟩ = some (.string p') ∧ p'.size ≤ 1048576) := fun h0 => by
          obtain ⟨p', e1, e2, e3⟩ := HPRV.out h0
          exact ⟨p', e1, (((Below.refl _ _).alloc (Nat.le_refl _) _).cell (by exact hg)).trans e2, e3⟩
        have HITC := Lib.hid (HIT.out (p, k, md, tm, by_) m (wr.alloc (.cells (iC (p, k, md, tm, by_)).toArray 95)) (Nat.le_trans HZ.out (by omega)) (HM.out.below HBA.out) (HT.out.below HBA.out))
        clear HPRV HBR HBM
        unfold iC at *
        dsimp only at *
        have b0 := cell_of_row _ _ 0 _ _ _ HRA.out
        have b1 := cell_of_row _ _ 1 _ _ _ HRA.out
        have b2 := cell_of_row _ _ 2 _ _ _ HRA.out
        have b3 := cell_of_row _ _ 3 _ _ _ HRA.out
        have b4 := cell_of_row _ _ 4 _ _ _ HRA.out
        simp only [List.getElem?_toArray, List.getElem?_cons_succ, List.getElem?_cons_zero] at b0 b1 b2 b3 b4
        go_wp2_with fail
        have hgA : g < (wr.alloc (.cells #[.string p, .int .i64 k, .int .i64 md, .int .i64 tm, .string by_] 95)).heap.size := lt_of_block ((((Below.refl _ _).alloc (Nat.le_refl _) _).block _ hg).trans (by rw [Array.getElem?_eq_getElem hg]))
        generalize wr.alloc (.cells #[.string p, .int .i64 k, .int .i64 md, .int .i64 tm, .string by_] 95) = wa at *
        generalize wr.heap.size = AB at *
        refine HITC.out.mono ?_
        rintro e w1 ⟨rfl, hb1⟩
        have HB1 := Lib.hid (Below.step HBA.out hb1)
        have HM1 := Lib.hid (BMap.of_heap HMA.out (hb1.block _ (World.ownsMap.lt HMA.out)))
        have HR1 := Lib.hid ((hb1.block _ (lt_of_block HRA.out)).trans HRA.out)
        have HP1 : Hid (i ≠ 0 → ∃ p', pv = some p' ∧ w1.cell? ⟨g, off + (i - 1) * 5, none⟩ = some (.string p') ∧ p'.size ≤ 1048576) := fun h0 => by
          obtain ⟨p', e1, e2, e3⟩ := HPA2.out h0
          exact ⟨p', e1, (hb1.cell (by exact hgA)).trans e2, e3⟩
        have hg1 : g < w1.heap.size := Nat.lt_of_lt_of_le hgA hb1.size
        have hA1 : AB < w1.heap.size := lt_of_block HR1.out
        clear hb1 hgA hg HITC HPA2 HRA HMA HBA a0 a1 a2 a3 a4 b0 b1 b2 b3 b4
        have y0 := cell_of_row _ _ 0 _ _ _ HR1.out
        simp only [List.getElem?_toArray, List.getElem?_cons_zero] at y0
        by_cases hc : icode (p, k, md, tm, by_) = 0
        · have f2 : (icode (p, k, md, tm, by_) != 0) = false := by simp [hc]
          have HIC := Lib.hid hc
          have HNC0 : Hid (nc p = 0) := icode_zero hc
          generalize hic : icode (p, k, md, tm, by_) = ic at f2
          clear hc hic
          by_cases h0 : i = 0
          · have HPN : Hid (∀ p', pv = some p' → cmpL (nk p') (nk p) < 0) := fun p' e => by rw [HPZ.out h0] at e; cases e
            have f3 : ¬ (0 : Int) < (i : Int) := by omega
            go_wp2_with fail
            go_region
            obtain ⟨q0, hb2⟩ : Hid (w1.drew.heap[AB]? = some (.cells #[.string p, .int .i64 k, .int .i64 md, .int .i64 tm, .string by_] 95 (0, 0))) ∧ Hid (Below w1.heap.size w1 w1.drew) := ⟨HR1, Lib.hid (Below.refl _ _).drew⟩
            have HB2 := Lib.hid (Below.step HB1.out hb2.out)
            have HM2 := Lib.hid (BMap.of_heap HM1.out (hb2.out.block _ (World.ownsMap.lt HM1.out)))
            clear HM1 HB1 HR1 hb2 y0 f3
            generalize hw2 : w1.drew = w2 at *
            clear hw2
            have y0 := cell_of_row _ _ 0 _ _ _ q0.out
            have y1 := cell_of_row _ _ 1 _ _ _ q0.out
            simp only [List.getElem?_toArray, List.getElem?_cons_succ, List.getElem?_cons_zero] at y0 y1
            go_wp2_with fail
            refine (HPA.out p w2 (by have := HZ.out; omega) HNC0.out).mono ?_
            rintro e w3 ⟨rfl, rfl⟩
            obtain ⟨b, hlk, hbt⟩ := bk_look HM2.out (parent p) (parent_size p (by have := HZ.out; exact this))
            cases b with
            | false =>
              have HW9 : Hid (wc = 9) := by show _ = _; rw [HWD.out]; exact wgo_dir HIC.out HPN.out (fun h => by have := hbt.2 h; cases this) _
              clear hbt
              go_wp2_with fail
              go_ret
              exact ⟨by rw [HW9.out]; rfl, HB2.out⟩
            | true =>
              have HWN : Hid (wc = wgo (some p) (D.put (.string p.data.toList) (.lit (.bool (k == 2)))) (l.drop (i + 1))) := by show _ = _; rw [HWD.out]; exact wgo_on HIC.out HPN.out (hbt.1 rfl) _
              have hnm : Hid (n < maxLen) := by have := HN.out; show _ < _; unfold maxLen; omega
              have HKEY : Hid (keyOf Tryd.prog 9 (.string p) = some (.string p.data.toList)) := Go.WideMaps.keyOf_string_mk Tryd.underlying9 (by have := HZ.out; unfold maxLen; omega)
              have HVAL : Hid (plainElem (H := Unit) Tryd.prog 4 (.bool (k == 2)) = some (.lit (.bool (k == 2)), [])) := plainElem_bool Tryd.underlying4 _
              clear hbt
              go_wp2_with (first
                | (at_mapUpdate; refine wpList_mapUpdate_own _ rfl _ _ _ 117 rfl 9 4 law_strB Tryd.underlying117 (plainElem Tryd.prog 4) w.heap.size n D rfl HM2.out hnm.out _ _ _ rfl rfl HKEY.out _ [] HVAL.out ?_; intro w9 hown9 hg9; go_frame)
                | go_in)
              have HM9 := Lib.hid hown9
              have HB9 : Hid (Below w.heap.size w w9) := HB2.out.grown hg9 HB2.out.size (fun j hj => by cases hj; exact Nat.le_refl _)
              have HN1 : Hid (n + 1 ≤ i + 1 + 1) := by have := HN.out; show _ ≤ _; omega
              clear hown9 hg9
              go_wp2_with fail
              go_roundw
              case rel => exact ⟨i + 1, n + 1, some p, _, by omega, by go_num, HM9, HWN, HNP, HN1, HB9⟩
              case measure => simp [intOf]; omega

          · obtain ⟨j, rfl⟩ : ∃ j, i = j + 1 := ⟨i - 1, by omega⟩
            have f3 : (0 : Int) < ((j + 1 : Nat) : Int) := by omega
            obtain ⟨p', hpv, hpc, hpz⟩ := HP1.out h0
            have HCMP : Hid (∀ u, Below w1.heap.size w1 u → Calls Tryd.prog 81 #[.string p', .string p] u fun e w' => e = .returned (.int .i64 (cmpL (nk p') (nk p))) ∧ Below u.heap.size u w') := fun u hu => HNC.out p' p m u (by omega) (by have := HZ.out; omega) (HM.out.below (Below.step HB1.out hu)) (HT.out.below (Below.step HB1.out hu))
            have HPV := Lib.hid hpv
            have hix : ((j + 1 : Nat) : Int) - 1 = (j : Int) := by omega
            have hi1 : (j : Int) < (l.length : Int) := by omega
            have hi2 : (0 : Int) ≤ (j : Int) := by omega
            have hwr1 : IntKind.i64.wrap ((j : Int) + 1 - 1) = (j : Int) := by rw [show (j : Int) + 1 - 1 = (j : Int) by omega]; exact wraps_i64 _ (by omega) (by omega)
            have hwr2 : IntKind.i64.wrap (j : Int) = (j : Int) := wraps_i64 _ (by omega) (by omega)
            have hS : w1.drew.cell? ⟨g, off + j * 5, none⟩ = some (.string p') ∧ w1.drew.cell? ⟨AB, 0, none⟩ = some (.string p) ∧ Below w1.heap.size w1 w1.drew := ⟨hpc, y0, (Below.refl _ _).drew⟩
            generalize hcv : cmpL (nk p') (nk p) = cv at *
            have HCV := Lib.hid hcv
            clear hcv hpc hpv HP1 HPZ h0
            by_cases hc4 : 0 ≤ cv
            · go_wp2_with fail
              go_region_held3 (fun u => u.cell? ⟨g, off + j * 5, none⟩ = some (.string p') ∧ u.cell? ⟨AB, 0, none⟩ = some (.string p) ∧ Below w1.heap.size w1 u) (first | exact hS | go_keep | (go_split_ands; exact keep2 hg1 hA1 ⟨by assumption, by assumption, by assumption⟩ hb)) (first | (go_at_call 81; (with_reducible refine (HCMP.out _ ?_).mono ?_); (go_split_ands; assumption); rintro e w' ⟨rfl, hb⟩))
              go_split_ands
              have hbw : Below w1.heap.size w1 w' := by assumption
              have HW4 : Hid (wc = 4) := by show _ = _; rw [HWD.out]; exact wgo_ord HIC.out HPV.out (by rw [HCV.out]; exact hc4) _ _
              have HBF := Lib.hid (Below.step HB1.out hbw)
              go_wp2_with fail
              go_ret
              exact ⟨by rw [HW4.out]; rfl, HBF.out⟩
            · have HPN : Hid (∀ p', pv = some p' → cmpL (nk p') (nk p) < 0) := fun p2 e => by
                rw [HPV.out] at e
                cases e
                rw [HCV.out]; omega
              clear HPV HCV
              go_wp2_with fail
              go_region_held3 (fun u => u.cell? ⟨g, off + j * 5, none⟩ = some (.string p') ∧ u.cell? ⟨AB, 0, none⟩ = some (.string p) ∧ Below w1.heap.size w1 u) (first | exact hS | go_keep | (go_split_ands; exact keep2 hg1 hA1 ⟨by assumption, by assumption, by assumption⟩ hb)) (first | (go_at_call 81; (with_reducible refine (HCMP.out _ ?_).mono ?_); (go_split_ands; assumption); rintro e w2' ⟨rfl, hb⟩))
              go_split_ands
              have hbw : Below w1.heap.size w1 w2' := by assumption
              clear HCMP
              obtain ⟨q0, hb2⟩ : Hid (w2'.heap[AB]? = some (.cells #[.string p, .int .i64 k, .int .i64 md, .int .i64 tm, .string by_] 95 (0, 0))) ∧ Hid (Below w1.heap.size w1 w2') := ⟨Lib.hid ((hbw.block _ (lt_of_block HR1.out)).trans HR1.out), Lib.hid hbw⟩
              have HB2 := Lib.hid (Below.step HB1.out hb2.out)
              have HM2 := Lib.hid (BMap.of_heap HM1.out (hb2.out.block _ (World.ownsMap.lt HM1.out)))
              clear HM1 HB1 HR1 hb2 y0 f3
              generalize hw2 : w2' = w2 at *
              clear hw2
              have y0 := cell_of_row _ _ 0 _ _ _ q0.out
              have y1 := cell_of_row _ _ 1 _ _ _ q0.out
              simp only [List.getElem?_toArray, List.getElem?_cons_succ, List.getElem?_cons_zero] at y0 y1
              go_wp2_with fail
              refine (HPA.out p w2 (by have := HZ.out; omega) HNC0.out).mono ?_
              rintro e w3 ⟨rfl, rfl⟩
              obtain ⟨b, hlk, hbt⟩ := bk_look HM2.out (parent p) (parent_size p (by have := HZ.out; exact this))
              cases b with
              | false =>
                have HW9 : Hid (wc = 9) := by show _ = _; rw [HWD.out]; exact wgo_dir HIC.out HPN.out (fun h => by have := hbt.2 h; cases this) _
                clear hbt
                go_wp2_with fail
                go_ret
                exact ⟨by rw [HW9.out]; rfl, HB2.out⟩
              | true =>
                have HWN : Hid (wc = wgo (some p) (D.put (.string p.data.toList) (.lit (.bool (k == 2)))) (l.drop (j + 1 + 1))) := by show _ = _; rw [HWD.out]; exact wgo_on HIC.out HPN.out (hbt.1 rfl) _
                have hnm : Hid (n < maxLen) := by have := HN.out; show _ < _; unfold maxLen; omega
                have HKEY : Hid (keyOf Tryd.prog 9 (.string p) = some (.string p.data.toList)) := Go.WideMaps.keyOf_string_mk Tryd.underlying9 (by have := HZ.out; unfold maxLen; omega)
                have HVAL : Hid (plainElem (H := Unit) Tryd.prog 4 (.bool (k == 2)) = some (.lit (.bool (k == 2)), [])) := plainElem_bool Tryd.underlying4 _
                clear hbt
                go_wp2_with (first
                  | (at_mapUpdate; refine wpList_mapUpdate_own _ rfl _ _ _ 117 rfl 9 4 law_strB Tryd.underlying117 (plainElem Tryd.prog 4) w.heap.size n D rfl HM2.out hnm.out _ _ _ rfl rfl HKEY.out _ [] HVAL.out ?_; intro w9 hown9 hg9; go_frame)
                  | go_in)
                have HM9 := Lib.hid hown9
                have HB9 : Hid (Below w.heap.size w w9) := HB2.out.grown hg9 HB2.out.size (fun j hj => by cases hj; exact Nat.le_refl _)
                have HN1 : Hid (n + 1 ≤ j + 1 + 1 + 1) := by have := HN.out; show _ ≤ _; omega
                clear hown9 hg9
                go_wp2_with fail
                go_roundw
                case rel => exact ⟨j + 1 + 1, n + 1, some p, _, by omega, by go_num, HM9, HWN, HNP, HN1, HB9⟩
                case measure => simp [intOf]; omega
        · have f2 : (icode (p, k, md, tm, by_) != 0) = true := by simpa using hc
          have HWD2 : Hid (wc = icode (p, k, md, tm, by_)) := by
            show _ = _
            rw [HWD.out, wgo_bad hc]
          generalize icode (p, k, md, tm, by_) = ic at *
          clear hc HWD
          go_wp2_with fail
          go_ret
          exact ⟨by rw [HWD2.out]; rfl, HB1.out⟩
      · have m2 : ¬ (i : Int) < (l.length : Int) := by omega
        have HW0 : Hid (wc = 0) := by show _ = _; rw [HWC.out, List.drop_eq_nil_of_le (by omega)]; rfl
        go_wp2_with fail
        go_ret
        exact ⟨by rw [HW0.out]; rfl, HBR.out⟩
end Go.Proofs.YtmdodcpmbhehdaaDoor
