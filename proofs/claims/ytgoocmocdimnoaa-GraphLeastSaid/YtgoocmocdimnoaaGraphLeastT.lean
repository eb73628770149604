/- The walk of GraphLeast, its whole. -/
import Derived.Test.YtgoocmocdimnoaaGraphLeastW
namespace Go.Proofs.Ytgoocmocdimnoaa
open Go.RowKit Plain
set_option maxRecDepth 100000 in
set_option maxHeartbeats 2000000 in
theorem graphLeast_any (a b c : Option Addr) (cap cb cc : Nat) (rows : List GRow) (rs : List Int) (s : List Bool) (w : World) (h : GAt w a rows) (hr : SAt 1 iC w b rs) (hs : SAt 1 bC w c s) (hl : rows.length ≤ 9223372036854775807) (hrl : rs.length ≤ 9223372036854775807) (hsl : s.length ≤ 9223372036854775807) :
    Calls Try.prog 3 #[.slice a rows.length cap, .slice b rs.length cb, .slice c s.length cc] w fun e w' => e = .returned (.bool true) ∧ Below w.heap.size w w' := by
  have hbx := heap_two w (.cells #[.slice a rows.length cap] 22) (.cells #[.slice b rs.length cb] 23)
  have B0 := Lib.hid (((Below.refl w.heap.size w).alloc (Nat.le_refl _) (.cells #[.slice a rows.length cap] 22)).alloc (by simp) (.cells #[.slice b rs.length cb] 23))
  have hsz : ((w.alloc (.cells #[.slice a rows.length cap] 22)).alloc (.cells #[.slice b rs.length cb] 23)).heap.size = w.heap.size + 1 + 1 := by simp
  have HG := Lib.hid (h.below B0.out)
  have HRS := Lib.hid (hr.below B0.out)
  have HS := Lib.hid (hs.below B0.out)
  have HLN := Lib.hid (gK_length rows)
  have HCH := Lib.hid chained_any
  have HKB := Lib.hid hbx.1
  have HRB := Lib.hid hbx.2
  clear h hr hs hbx
  go_enter Try.func3, Try.ntmps3
  go_wp2_with fail
  generalize (w.alloc (.cells #[.slice a rows.length cap] 22)).alloc (.cells #[.slice b rs.length cb] 23) = wb at *
  have KB : Hid (∀ wx, Below wb.heap.size wb wx → wx.heap[w.heap.size]? = some (.cells #[.slice a rows.length cap] 22 (0, 0)) ∧ wx.heap[w.heap.size + 1]? = some (.cells #[.slice b rs.length cb] 23 (0, 0))) := fun wx hx =>
    ⟨(hx.block _ (by omega)).trans HKB.out, (hx.block _ (by omega)).trans HRB.out⟩
  have KC : Hid (∀ wx, Below wb.heap.size wb wx → wx.cell? ⟨w.heap.size, 0, none⟩ = some (.slice a rows.length cap)) := fun wx hx => by
    rw [cell_of_row wx _ 0 _ _ _ (KB.out wx hx).1]; rfl
  refine (reach_rl a b cap cb rows rs wb HG.out HRS.out hl hrl).mono ?_
  rintro e w1 ⟨v, c1, rfl, h1, hb1⟩
  have R1 := Lib.hid h1
  have B1 := Lib.hid hb1
  clear h1 hb1 HKB HRB
  go_wp2_with fail
  refine (HCH.out w1).mono ?_
  rintro e w2 ⟨rfl, hb2⟩
  have R2 := Lib.hid (R1.out.below hb2)
  have B2 := Lib.hid (Below.step B1.out hb2)
  clear hb2 R1 B1
  by_cases h1 : c1 = 0
  · subst h1
    rcases R2.out with h | ⟨hg, hr1, _, g1, l, rfl, hg1, hs1, hsp1⟩
    · exact absurd rfl h.2.1
    have HLL := Lib.hid hsp1.1
    have hll : l.length = rows.length := by rw [hsp1.1, HLN.out]
    rw [HLN.out]
    have L1 := Lib.hid hs1
    have P1 := Lib.hid hsp1
    have HOK := Lib.hid hg
    have HRO := Lib.hid hr1
    clear hg hr1 hg1 hs1 hsp1 R2
    have kc2 := KC.out w2 B2.out
    go_wp2_with fail
    have HC1 := Lib.hid (closed_any a b (some ⟨g1, 0, none⟩) cap cb rows.length w.heap.size (w.heap.size + 1) rows rs l w2 (HG.out.below B2.out) (HRS.out.below B2.out) L1.out hl hrl (KB.out w2 B2.out).1 (KB.out w2 B2.out).2 HOK.out HRO.out hll)
    rw [hll] at HC1
    refine HC1.out.mono ?_
    rintro e w3 ⟨t, rfl, ht, hb3⟩
    obtain rfl : t = true := ht.2 (cls_of HOK.out HRO.out P1.out)
    have B3 := Lib.hid (Below.step B2.out hb3)
    have L3 := Lib.hid (L1.out.below hb3)
    have kc3 := KC.out w3 B3.out
    clear ht hb3 L1 B2 kc2 HC1
    by_cases hsn : s.length = rows.length
    · have f1 : ((s.length : Int) != (rows.length : Int)) = false := by simp [hsn]
      have HSN := Lib.hid hsn
      clear hsn
      go_wp2_with fail
      have HC2 := Lib.hid (closed_any a b c cap cb cc w.heap.size (w.heap.size + 1) rows rs s w3 (HG.out.below B3.out) (HRS.out.below B3.out) (HS.out.below B3.out) hl hrl (KB.out w3 B3.out).1 (KB.out w3 B3.out).2 HOK.out HRO.out HSN.out)
      refine HC2.out.mono ?_
      rintro e w4 ⟨t, rfl, ht, hb4⟩
      have HT := Lib.hid ht
      have B4 := Lib.hid (Below.step B3.out hb4)
      have L4 := Lib.hid (L3.out.below hb4)
      clear ht hb4 L3 B3 kc3 HC2
      cases t with
      | false =>
        go_wp2_with fail
        go_ret
        exact ⟨rfl, B0.out.trans (B4.out.mono B0.out.size)⟩
      | true =>
        have HCLS := Lib.hid (HT.out.1 rfl)
        clear HT
        go_wp2_with fail
        go_loopw [54] (fun iv wr => ∃ i : Nat, i ≤ rows.length ∧ iv = .int .i64 (i : Int) ∧ Below w4.heap.size w4 wr) (fun iv _ => rows.length - (intOf iv).toNat)
        case atStart => exact ⟨0, by omega, rfl, Below.refl _ _⟩
        case round =>
          obtain ⟨i, hi, rfl, hbr⟩ := hrel
          have HBR := Lib.hid hbr
          clear hbr
          by_cases hlt : i < rows.length
          · have m1 : (i : Int) < (rows.length : Int) := by omega
            have m2 : (i : Int) < (s.length : Int) := by have := HSN.out; omega
            obtain ⟨g4, off4, e4, hc4⟩ := (L4.out.below HBR.out).bool0' i (by omega)
            injection e4 with e4
            injection e4 with e4 e6 _
            subst e4 e6
            rw [Nat.zero_add] at hc4
            obtain ⟨g5, off5, rfl, hc5⟩ := ((HS.out.below B4.out).below HBR.out).bool0' i (by have := HSN.out; omega)
            cases hq : l.getD i false with
            | false =>
              rw [hq] at hc4
              clear hq
              go_wp2_with fail
              go_roundw
              case rel => exact ⟨i + 1, by omega, by go_num, HBR.out⟩
              case measure => simp [intOf]; omega
            | true =>
              rw [hq] at hc4
              rw [cls_least P1.out HCLS.out (fun j hj => by
                rw [HLN.out, ← HSN.out]
                rcases Nat.lt_or_ge j s.length with h | h
                · exact h
                · rw [List.getD_eq_getElem?_getD, List.getElem?_eq_none h] at hj; cases hj) i hq] at hc5
              clear hq
              go_wp2_with fail
              go_roundw
              case rel => exact ⟨i + 1, by omega, by go_num, HBR.out⟩
              case measure => simp [intOf]; omega
          · have m1 : ¬ (i : Int) < (rows.length : Int) := by omega
            go_wp2_with fail
            go_ret
            exact ⟨rfl, B0.out.trans ((Below.step B4.out HBR.out).mono B0.out.size)⟩
    · have f1 : ((s.length : Int) != (rows.length : Int)) = true := by simp; omega
      go_wp2_with fail
      go_ret
      exact ⟨rfl, B0.out.trans (B3.out.mono B0.out.size)⟩
  · have f1 : (((c1 : Nat) : Int) != 0) = true := by simpa using h1
    rcases R2.out with ⟨_, _, rfl⟩ | ⟨_, _, h, _⟩
    · clear h1
      go_wp2_with fail
      refine (HCH.out w2).mono ?_
      rintro e w7 ⟨rfl, hb7⟩
      have B7 := Lib.hid (Below.step B2.out hb7)
      clear hb7
      go_wp2_with fail
      go_ret
      exact ⟨rfl, B0.out.trans (B7.out.mono B0.out.size)⟩
    · exact absurd h h1
end Go.Proofs.Ytgoocmocdimnoaa
