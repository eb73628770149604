/- Press: the writer of bits. -/
import Derived.Test.YtbfhhnpoogmlnaaDoorPressOpen
import Derived.Test.YtbfhhnpoogmlnaaDoorPressBackP
import Derived.BigRegion
namespace Go.Proofs.YtbfhhnpoogmlnaaDoor
open Go.RowKit Plain
set_option linter.unusedVariables false
set_option linter.unusedSimpArgs false
/-- a writer: its row, and behind it the row of its bytes -/
def WrAt (o : Nat) (L : List Nat) (k : Nat) (w : World) : Prop := ∃ oa oc, w.heap[o]? = some (.cells #[.slice oa L.length oc, .int .i64 (k : Int)] 123 (0, 0)) ∧ w.ownsRow (o + 1) 5 1 (.slice oa L.length oc) L.length (L.map bV)
def PtEnd (o : Nat) (B : List Nat) (w0 : World) (e : Ending) (w : World) : Prop := e = .returned (.tuple #[]) ∧ Below o w0 w ∧ ∃ L k, WrAt o L k w ∧ WB L k B
theorem own_byte {w : World} {base : Nat} {oa : Option Addr} {oc : Nat} {L : List Nat} (h : w.ownsRow base 5 1 (.slice oa L.length oc) L.length (L.map bV)) (hL : L ≠ []) :
    ∃ g, oa = some ⟨g, 0, none⟩ ∧ base ≤ g ∧ w.cell? ⟨g, L.length - 1, none⟩ = some (.int .u8 ((L.getD (L.length - 1) 0 : Nat) : Int)) ∧ w.frozen? ⟨g, L.length - 1, none⟩ = false := by
  obtain ⟨hl, h2⟩ := h
  rcases h2 with ⟨_, hz⟩ | ⟨g, cap, cur, hv, hb, hg, hn, hm, hs, ht⟩
  · exact absurd (List.length_eq_zero_iff.1 hz) hL
  · injection hv with e1 _ _
    have h0 : 0 < L.length := List.length_pos_iff.2 hL
    refine ⟨g, e1, hb, ?_, frozen_of_row _ _ _ _ _ hg⟩
    rw [cell_of_row _ _ _ _ _ _ hg, ← Array.getElem?_toList]
    have h3 : (cur.toList.take (L.length * 1))[L.length - 1]? = (L.map bV)[L.length - 1]? := by rw [ht]
    rw [List.getElem?_take, if_pos (by omega)] at h3
    rw [h3, List.getElem?_map, List.getD_eq_getElem?_getD, List.getElem?_eq_getElem (by omega)]
    rfl
theorem own_byte_set {w : World} {base : Nat} {g oc : Nat} {L : List Nat} (h : w.ownsRow base 5 1 (.slice (some ⟨g, 0, none⟩) L.length oc) L.length (L.map bV)) (v : Nat) :
    (w.setCell ⟨g, L.length - 1, none⟩ (.int .u8 (v : Int))).ownsRow base 5 1 (.slice (some ⟨g, 0, none⟩) (L.set (L.length - 1) v).length oc) (L.set (L.length - 1) v).length ((L.set (L.length - 1) v).map bV) := by
  have := (h.stored (L.length - 1) (.int .u8 (v : Int))).1
  rw [List.length_set, List.map_set]
  exact this
theorem u8_or : ∀ k : Nat, k < 8 → ∀ x : Nat, x < 256 → ∀ b : Nat, b < 2 → bits .or .u8 (x : Int) ((b : Int) % 256 * 2 ^ k % 256) = ((x ||| b * 2 ^ k : Nat) : Int) := by decide +kernel
theorem bit_i64 (n i : Nat) (h : n < 281474976710656) : bits .and .i64 ((n : Int) / (2 : Int) ^ i) 1 = ((n / 2 ^ i % 2 : Nat) : Int) := by
  rw [div_pow_nat, ← Nat.and_one_is_mod]
  exact i64_and_nat _ 1 (Nat.lt_of_le_of_lt (Nat.div_le_self _ _) (by omega)) (by decide)
theorem wb_len {o B : List Nat} {k : Nat} (h : WB o k B) : 8 * o.length = B.length + k := by
  have := congrArg List.length h.1
  rw [flat8_len, List.length_append, List.length_replicate] at this
  exact this
set_option maxRecDepth 100000 in
set_option maxHeartbeats 4000000 in
theorem put_bits_any (o : Nat) (L0 B0 : List Nat) (k0 n m : Nat) (w : World) (h : WrAt o L0 k0 w) (hB : WB L0 k0 B0) (hL : B0.length ≤ 1000000) (hm : m ≤ 48) (hn : n < 281474976710656) :
    Calls Tryd.prog 65 #[.pointer (some ⟨o, 0, none⟩), .int .i64 (n : Int), .int .i64 (m : Int)] w (PtEnd o (B0 ++ bitsL n m) w) := by
  obtain ⟨i0, hi0, hz0, hz1, hz2⟩ := info_parts info_u8
  have H := Lib.hid h
  have HB := Lib.hid hB
  have HNN := Lib.hid hn
  have HMM := Lib.hid hm
  have HBL := Lib.hid hL
  clear h hB hn hL
  have hw1 : IntKind.i64.wrap ((m : Int) - 1) = (m : Int) - 1 := by rw [IntKind.wrap_i64]; omega
  clear hm
  go_enter Tryd.func65, Tryd.ntmps65
  go_wp2_with fail
  clear hw1
  go_loopw [6] (fun iv wr => ∃ (j k : Nat) (L P : List Nat), iv = .int .i64 ((j : Int) - 1) ∧ j ≤ m ∧ P ++ bitsL n j = bitsL n m ∧ WrAt o L k wr ∧ WB L k (B0 ++ P) ∧ Below o w wr) (fun iv _ => (intOf iv + 1).toNat)
  case atStart => exact ⟨m, k0, L0, [], rfl, Nat.le_refl _, rfl, H.out, by rw [List.append_nil]; exact HB.out, Below.refl _ _⟩
  case round =>
    obtain ⟨j, k, L, P, rfl, hj, hP, hr, hwb, hbr⟩ := hrel
    have HP := Lib.hid hP
    have HR := Lib.hid hr
    have HWB := Lib.hid hwb
    have HBR := Lib.hid hbr
    have HJ := Lib.hid hj
    have HLL : Hid (L.length ≤ 1000000) := by
      have h1 := wb_len hwb
      have h2 := congrArg List.length hP
      rw [List.length_append, bitsL_length, bitsL_length] at h2
      rw [List.length_append] at h1
      have := HBL.out
      have := HMM.out
      have := hwb.2.1
      show _ ≤ _
      omega
    clear hP hr hwb hbr hj
    by_cases h0 : j = 0
    · subst h0
      have z1 : ¬ (0 : Int) ≤ ((0 : Nat) : Int) - 1 := by omega
      go_wp2_with fail
      go_end0
      exact ⟨rfl, HBR.out, L, k, HR.out, by have := HP.out; rw [bitsL, List.append_nil] at this; rw [← this]; exact HWB.out⟩
    · obtain ⟨i, rfl⟩ : ∃ i, j = i + 1 := ⟨j - 1, by omega⟩
      rw [show (((i + 1 : Nat) : Int) - 1) = (i : Int) by omega]
      have z1 : (0 : Int) ≤ (i : Int) := Int.natCast_nonneg _
      have z48 : (i : Int) < 48 := by have := HJ.out; have := HMM.out; omega
      have zw : IntKind.i64.wrap ((i : Int) - 1) = (i : Int) - 1 := by rw [IntKind.wrap_i64]; omega
      obtain ⟨oa, oc, hrow, hown⟩ := HR.out
      have HROW := Lib.hid hrow
      have HOWN := Lib.hid hown
      have c0 := cell_of_row _ _ 0 _ _ _ hrow
      have c1 := cell_of_row _ _ 1 _ _ _ hrow
      simp only [List.getElem?_toArray, List.getElem?_cons_succ, List.getElem?_cons_zero] at c0 c1
      by_cases hk : k = 0
      · subst hk
        rw [show ((0 : Nat) : Int) = 0 from rfl] at c1
        have D1 := Lib.hid (cells_new_at wr wr.heap.size rfl #[.int .u8 0] 5 [.int .u8 0] rfl)
        have D2 : Hid (∀ u ∈ ([.int .u8 0] : List Value), u.oneCell' = true) := by intro u hu; simp only [List.mem_cons, List.not_mem_nil, or_false] at hu; subst hu; rfl
        have D3 : Hid (L.length + 1 ≤ maxLen) := by show _ ≤ _; have := HLL.out; unfold maxLen; omega
        have D4 : Hid ((L.length + 1) * 1 ≤ 140737488355328) := by show _ ≤ _; have := HLL.out; omega
        have hos : o < wr.heap.size := lt_of_block hrow
        have D5 : Hid (o + 1 ≤ (wr.alloc (.cells #[.int .u8 0] 5)).heap.size) := by show _ ≤ _; simp; omega
        have HBA : Hid (Below o w (wr.alloc (.cells #[.int .u8 0] 5))) := by
          have h := HBR.out
          have hb : Below wr.heap.size wr (wr.alloc (.cells #[.int .u8 0] 5)) := (Below.refl _ _).alloc (Nat.le_refl _) _
          exact h.trans (hb.mono (Nat.le_of_lt hos))
        have HRA : Hid ((wr.alloc (.cells #[.int .u8 0] 5)).heap[o]? = some (.cells #[.slice oa L.length oc, .int .i64 ((0 : Nat) : Int)] 123 (0, 0))) := (Below.heap_alloc wr _ o hos).trans hrow
        clear hrow hown hos
        go_wp2_with (at_builtin; refine wpList_append_own _ rfl _ _ 92 rfl (o + 1) 5 i0 (.int .u8 0) 1 1 Tryd.underlying92 hi0 hz0 hz1 hz2 rfl (by decide) _ _ _ rfl (HOWN.out.alloc _) ⟨wr.heap.size, 0, none⟩ 1 1 [.int .u8 0] rfl rfl D1.out D2.out D3.out D4.out D5.out ?_)
        intro v' w6 hown' hgrow _
        have hb6 := below_own (Below.refl (o + 1) (wr.alloc (.cells #[.int .u8 0] 5))) hgrow D5.out (HOWN.out.alloc _) (Nat.le_refl _)
        have HB6 : Hid (Below o w w6) := HBA.out.trans (hb6.mono (Nat.le_succ _))
        have HOW6 : Hid (w6.ownsRow (o + 1) 5 1 v' (L ++ [0]).length ((L ++ [0]).map bV)) := by
          show w6.ownsRow _ _ _ _ _ _
          rw [List.length_append, List.map_append]
          exact hown'
        have hr6 : w6.heap[o]? = some (.cells #[.slice oa L.length oc, .int .i64 ((0 : Nat) : Int)] 123 (0, 0)) := (hb6.block o (Nat.lt_succ_self _)).trans HRA.out
        obtain ⟨oa', oc', hv'⟩ := own_form HOW6.out
        subst hv'
        have HNE : Hid (L ++ [0] ≠ []) := by show _ ≠ _; simp
        have HGW := Lib.hid (HWB.out.grow)
        have HLL2 : Hid ((L ++ [0]).length ≤ 1000001) := by have := HLL.out; show _ ≤ _; rw [List.length_append, List.length_singleton]; omega
        generalize L ++ [0] = L1 at *
        have f60 := frozen_of_row _ o 0 _ _ hr6
        have hr7 : (w6.setCell ⟨o, 0, none⟩ (.slice oa' L1.length oc')).heap[o]? = some (.cells #[.slice oa' L1.length oc', .int .i64 ((0 : Nat) : Int)] 123 (0, 0)) := heap_setCell_same w6 o 0 _ _ (.slice oa' L1.length oc') hr6
        have hr8 : ((w6.setCell ⟨o, 0, none⟩ (.slice oa' L1.length oc')).setCell ⟨o, 1, none⟩ (.int .i64 8)).heap[o]? = some (.cells #[.slice oa' L1.length oc', .int .i64 8] 123 (0, 0)) := heap_setCell_same _ o 1 _ _ (.int .i64 8) hr7
        have hr9 : (((w6.setCell ⟨o, 0, none⟩ (.slice oa' L1.length oc')).setCell ⟨o, 1, none⟩ (.int .i64 8)).setCell ⟨o, 1, none⟩ (.int .i64 7)).heap[o]? = some (.cells #[.slice oa' L1.length oc', .int .i64 7] 123 (0, 0)) := heap_setCell_same _ o 1 _ _ (.int .i64 7) hr8
        have e60 := cell_of_row _ _ 0 _ _ _ hr6
        have e71 := cell_of_row _ _ 1 _ _ _ hr7
        have f71 := frozen_of_row _ o 1 _ _ hr7
        have e81 := cell_of_row _ _ 1 _ _ _ hr8
        have f81 := frozen_of_row _ o 1 _ _ hr8
        simp only [List.getElem?_toArray, List.getElem?_cons_succ, List.getElem?_cons_zero] at e60 e71 e81
        have HROW2 := Lib.hid hr9
        have HOWN2 : Hid ((((w6.setCell ⟨o, 0, none⟩ (.slice oa' L1.length oc')).setCell ⟨o, 1, none⟩ (.int .i64 8)).setCell ⟨o, 1, none⟩ (.int .i64 7)).ownsRow (o + 1) 5 1 (.slice oa' L1.length oc') L1.length (L1.map bV)) := own_keep (own_keep (own_keep HOW6.out (fun g cs _ hge => heap_setCell_other _ _ _ _ (by show g ≠ o; omega))) (fun g cs _ hge => heap_setCell_other _ _ _ _ (by show g ≠ o; omega))) (fun g cs _ hge => heap_setCell_other _ _ _ _ (by show g ≠ o; omega))
        have HBR2 : Hid (Below o w (((w6.setCell ⟨o, 0, none⟩ (.slice oa' L1.length oc')).setCell ⟨o, 1, none⟩ (.int .i64 8)).setCell ⟨o, 1, none⟩ (.int .i64 7))) := ((HB6.out.setCell (Nat.le_refl _) _).setCell (Nat.le_refl _) _).setCell (Nat.le_refl _) _
        clear hown' hgrow hb6 hr6 hr7 hr8 hr9 c0 c1
        go_wp2_with fail
        clear e60 e71 e81 f60 f71 f81
        have HL2 : Hid (L1.flatMap (bitsL · 8) = (B0 ++ P) ++ List.replicate (7 + 1) 0) := HGW.out.1
        have HLT2 : Hid (∀ c ∈ L1, c < 256) := HGW.out.2
        have HK7 : Hid (7 < 8) := by show _ < _; decide
        generalize ((w6.setCell ⟨o, 0, none⟩ (.slice oa' L1.length oc')).setCell ⟨o, 1, none⟩ (.int .i64 8)).setCell ⟨o, 1, none⟩ (.int .i64 7) = wb at *
        clear D1 D2 D3 D4 D5 HRA HBA HOWN HROW HWB HLL HR HOW6 HB6 HGW
        obtain ⟨g, rfl, hg, cg, fg⟩ := own_byte HOWN2.out HNE.out
        have HG := Lib.hid hg
        have d0 := cell_of_row _ _ 0 _ _ _ HROW2.out
        have d1 := cell_of_row _ _ 1 _ _ _ HROW2.out
        simp only [List.getElem?_toArray, List.getElem?_cons_succ, List.getElem?_cons_zero] at d0 d1
        obtain ⟨q, hq⟩ : ∃ q, L1.length = q + 1 := ⟨L1.length - 1, by have := List.length_pos_iff.2 HNE.out; omega⟩
        have hq1 : L1.length - 1 = q := by omega
        have zl : IntKind.i64.wrap ((L1.length : Int) - 1) = (q : Int) := by have := HLL2.out; rw [IntKind.wrap_i64]; omega
        have zq : (q : Int) < (L1.length : Int) := by omega
        have zq0 : (0 : Int) ≤ (q : Int) := Int.natCast_nonneg _
        have hx : L1.getD q 0 < 256 := by
          rw [List.getD_eq_getElem?_getD, List.getElem?_eq_getElem (by omega)]
          exact HLT2.out _ (List.getElem_mem _)
        rw [hq1] at cg fg
        have HPUT : Hid (∀ b, b < 2 → WB (L1.set q (L1.getD q 0 ||| b * 2 ^ 7)) 7 ((B0 ++ P) ++ [b])) := fun b hb => by
          have := WB.put HL2.out HK7.out HNE.out HLT2.out hb
          rw [hq1] at this
          exact this
        have HSET : Hid (∀ v : Nat, (wb.setCell ⟨g, q, none⟩ (.int .u8 (v : Int))).ownsRow (o + 1) 5 1 (.slice (some ⟨g, 0, none⟩) (L1.set q v).length oc') (L1.set q v).length ((L1.set q v).map bV)) := fun v => by
          have := own_byte_set HOWN2.out v
          rw [hq1] at this
          exact this
        obtain ⟨x, hxe⟩ : ∃ x, L1.getD q 0 = x := ⟨_, rfl⟩
        rw [hxe] at cg hx HPUT
        have hbt := bit_i64 n i HNN.out
        obtain ⟨b, hb⟩ : ∃ b, n / 2 ^ i % 2 = b := ⟨_, rfl⟩
        have hb2 : b < 2 := by omega
        rw [hb] at hbt
        have hor := u8_or 7 HK7.out x hx b hb2
        obtain ⟨v, hv⟩ : ∃ v, x ||| b * 2 ^ 7 = v := ⟨_, rfl⟩
        rw [hv] at hor
        simp only [Nat.reducePow, Int.reducePow] at hor
        have HV := Lib.hid hv
        have HBE := Lib.hid hb
        have HB2 := Lib.hid hb2
        clear hxe hb hg hq hq1 hv hb2
        go_region
        all_goals go_wp2_with fail
        all_goals
          refine ⟨⟨i, 7, L1.set q v, P ++ [b], rfl, by have := HJ.out; omega, ?_, ⟨some ⟨g, 0, none⟩, oc', ?_, HSET.out v⟩, ?_, (HBR2.out.setCell (Nat.le_of_succ_le HG.out) _).drew⟩, by simp [intOf]⟩
          · rw [← HP.out, List.append_assoc]
            show _ ++ (b :: bitsL n i) = _ ++ (n / 2 ^ i % 2 :: bitsL n i)
            rw [HBE.out]
          · rw [List.length_set]
            exact (heap_setCell_other _ _ _ _ (by show o ≠ g; have := HG.out; omega)).trans HROW2.out
          · rw [← List.append_assoc, ← HV.out]; exact HPUT.out b HB2.out
      · obtain ⟨k1, rfl⟩ : ∃ k1, k = k1 + 1 := ⟨k - 1, by omega⟩
        have z2 : ((((k1 + 1 : Nat) : Int)) == 0) = false := beq_eq_false_iff_ne.2 (by omega)
        have hk8 : (k1 : Int) < 8 := by have := HWB.out.2.1; omega
        have hk0 : (0 : Int) ≤ (k1 : Int) := Int.natCast_nonneg _
        have hLne : L ≠ [] := HWB.out.2.2.1 (by omega)
        have f1 := frozen_of_row _ o 1 _ _ hrow
        have HROW2 : Hid ((wr.setCell ⟨o, 1, none⟩ (.int .i64 (k1 : Int))).heap[o]? = some (.cells #[.slice oa L.length oc, .int .i64 (k1 : Int)] 123 (0, 0))) := heap_setCell_same wr o 1 _ _ (.int .i64 (k1 : Int)) hrow
        have HOWN2 : Hid ((wr.setCell ⟨o, 1, none⟩ (.int .i64 (k1 : Int))).ownsRow (o + 1) 5 1 (.slice oa L.length oc) L.length (L.map bV)) := own_keep hown (fun g cs _ hge => heap_setCell_other _ _ _ _ (by show g ≠ o; omega))
        have HBR2 : Hid (Below o w (wr.setCell ⟨o, 1, none⟩ (.int .i64 (k1 : Int)))) := HBR.out.setCell (Nat.le_refl _) _
        clear hrow hown
        go_wp2_with fail
        clear c0 c1 f1
        have HL2 : Hid (L.flatMap (bitsL · 8) = (B0 ++ P) ++ List.replicate (k1 + 1) 0) := HWB.out.1
        have HLT2 : Hid (∀ c ∈ L, c < 256) := HWB.out.2.2.2
        have HK7 : Hid (k1 < 8) := by have := HWB.out.2.1; show _ < _; omega
        have HNE := Lib.hid hLne
        have HLL2 : Hid (L.length ≤ 1000001) := by have := HLL.out; show _ ≤ _; omega
        clear hLne z2 hk
        generalize wr.setCell ⟨o, 1, none⟩ (.int .i64 (k1 : Int)) = wb at *
        clear HOWN HROW HWB HLL HR
        obtain ⟨g, rfl, hg, cg, fg⟩ := own_byte HOWN2.out HNE.out
        have HG := Lib.hid hg
        have d0 := cell_of_row _ _ 0 _ _ _ HROW2.out
        have d1 := cell_of_row _ _ 1 _ _ _ HROW2.out
        simp only [List.getElem?_toArray, List.getElem?_cons_succ, List.getElem?_cons_zero] at d0 d1
        obtain ⟨q, hq⟩ : ∃ q, L.length = q + 1 := ⟨L.length - 1, by have := List.length_pos_iff.2 HNE.out; omega⟩
        have hq1 : L.length - 1 = q := by omega
        have zl : IntKind.i64.wrap ((L.length : Int) - 1) = (q : Int) := by have := HLL2.out; rw [IntKind.wrap_i64]; omega
        have zq : (q : Int) < (L.length : Int) := by omega
        have zq0 : (0 : Int) ≤ (q : Int) := Int.natCast_nonneg _
        have hx : L.getD q 0 < 256 := by
          rw [List.getD_eq_getElem?_getD, List.getElem?_eq_getElem (by omega)]
          exact HLT2.out _ (List.getElem_mem _)
        rw [hq1] at cg fg
        have HPUT : Hid (∀ b, b < 2 → WB (L.set q (L.getD q 0 ||| b * 2 ^ k1)) k1 ((B0 ++ P) ++ [b])) := fun b hb => by
          have := WB.put HL2.out HK7.out HNE.out HLT2.out hb
          rw [hq1] at this
          exact this
        have HSET : Hid (∀ v : Nat, (wb.setCell ⟨g, q, none⟩ (.int .u8 (v : Int))).ownsRow (o + 1) 5 1 (.slice (some ⟨g, 0, none⟩) (L.set q v).length oc) (L.set q v).length ((L.set q v).map bV)) := fun v => by
          have := own_byte_set HOWN2.out v
          rw [hq1] at this
          exact this
        obtain ⟨x, hxe⟩ : ∃ x, L.getD q 0 = x := ⟨_, rfl⟩
        rw [hxe] at cg hx HPUT
        have hbt := bit_i64 n i HNN.out
        obtain ⟨b, hb⟩ : ∃ b, n / 2 ^ i % 2 = b := ⟨_, rfl⟩
        have hb2 : b < 2 := by omega
        rw [hb] at hbt
        have hor := u8_or k1 HK7.out x hx b hb2
        obtain ⟨v, hv⟩ : ∃ v, x ||| b * 2 ^ k1 = v := ⟨_, rfl⟩
        rw [hv] at hor
        have HV := Lib.hid hv
        have HBE := Lib.hid hb
        have HB2 := Lib.hid hb2
        clear hxe hb hg hq hq1 hv hb2
        go_region
        all_goals go_wp2_with fail
        all_goals
          refine ⟨⟨i, k1, L.set q v, P ++ [b], rfl, by have := HJ.out; omega, ?_, ⟨some ⟨g, 0, none⟩, oc, ?_, HSET.out v⟩, ?_, (HBR2.out.setCell (Nat.le_of_succ_le HG.out) _).drew⟩, by simp [intOf]⟩
          · rw [← HP.out, List.append_assoc]
            show _ ++ (b :: bitsL n i) = _ ++ (n / 2 ^ i % 2 :: bitsL n i)
            rw [HBE.out]
          · rw [List.length_set]
            exact (heap_setCell_other _ _ _ _ (by show o ≠ g; have := HG.out; omega)).trans HROW2.out
          · rw [← List.append_assoc, ← HV.out]; exact HPUT.out b HB2.out
end Go.Proofs.YtbfhhnpoogmlnaaDoor
