/- The walk of SweepSafe. -/
import Derived.Test.YtgoocmocdimnoaaSweepVar
import Derived.Test.YtgoocmocdimnoaaBools
namespace Go.Proofs.Ytgoocmocdimnoaa
open Go.RowKit Plain Go.ChangeShapes Go.WideShapes Go.ChangeAt
set_option linter.unusedVariables false
set_option maxRecDepth 100000 in
set_option maxHeartbeats 4000000 in
theorem sweepSafe_any (a : Option Addr) (cap : Nat) (l : List Ac) (w : World) (hs : SAt 3 acC w a l) (hl : l.length ≤ 9223372036854775807) :
    Calls Try.prog 7 #[.slice a l.length cap] w fun e w' => e = .returned (.bool true) ∧ Below w.heap.size w w' := by
  have HI3 : Hid (∀ a b c : Value, (Try.prog.info? 41).map (·.size) = some (#[a, b, c] : Array Value).size) := fun a b c => by show _ = _; kernel_rfl
  have HON3 : Hid (∀ (a b : Option Addr) (n m c d : Nat) (z : Bool), (#[.slice a n c, .slice b m d, .bool z] : Array Value).all (·.oneCell') = true) := fun a b n m c d z => by simp [Value.oneCell']
  have HS := Lib.hid hs
  clear hs
  go_enter Try.func7, Try.ntmps7
  go_wp2_with fail
  refine (swept_any w).mono ?_
  rintro e w1 ⟨rfl, hb⟩
  have HB1 : Hid (Below w.heap.size w (w1.alloc (.cells #[.slice none 0 0, .slice none 0 0, .bool false] 41))) := hb.alloc hb.size _
  have HV0 : Hid (HVar (w1.alloc (.cells #[.slice none 0 0, .slice none 0 0, .bool false] 41)) w1.heap.size ([], [], false)) := HVar.zero (heap_alloc_new w1 _)
  have HVW : Hid (w.heap.size ≤ w1.heap.size) := hb.size
  clear hb
  go_wp2_with fail
  obtain ⟨VB, hVB⟩ : ∃ VB, w1.heap.size = VB := ⟨_, rfl⟩
  rw [hVB]
  rw [hVB] at HV0 HVW
  generalize w1.alloc (.cells #[.slice none 0 0, .slice none 0 0, .bool false] 41) = w2 at *
  clear hVB
  go_loopw [17] (fun iv wr => ∃ (i : Nat) (h : Hp), i ≤ l.length ∧ iv = .int .i64 (i : Int) ∧ Below w.heap.size w wr ∧ HVar wr VB h ∧ Inv h) (fun iv _ => l.length - (intOf iv).toNat)
  case atStart => exact ⟨0, _, by omega, rfl, HB1.out, HV0.out, inv_zero⟩
  case round =>
    obtain ⟨i, h, hi, rfl, hbr, hvr, hinv⟩ := hrel
    have HBR := Lib.hid hbr
    have HVR := Lib.hid hvr
    have HINV := Lib.hid hinv
    clear hbr hvr hinv HB1 HV0
    by_cases hlt : i < l.length
    · have m1 : (i : Int) < (l.length : Int) := by omega
      obtain ⟨g, off, rfl, _, hr⟩ := (HS.out.below HBR.out) i hlt
      have c0 := hr 0 _ rfl
      have c1 := hr 1 _ rfl
      have c2 := hr 2 _ rfl
      generalize l[i] = x at *
      obtain ⟨xk, xf, xt⟩ := x
      simp only [Nat.add_zero] at c0 c1 c2
      obtain ⟨ta, tc, rows, ra, rc, hrow, h1, h2, h3, h4, h5⟩ := HVR.out
      obtain ⟨ts, rs, bz⟩ := h
      simp only at hrow h3 h4 h5
      subst h5
      have hbA : Below wr.heap.size wr (wr.alloc (.cells #[.int .i64 xk, .int .i64 xf, .int .i64 xt] 43)) := (Below.refl _ _).alloc (Nat.le_refl _) _
      have HBA := Lib.hid hbA
      have HROW := Lib.hid ((hbA.block _ (lt_of_block hrow)).trans hrow)
      have HXR := Lib.hid (heap_alloc_new wr (.cells #[.int .i64 xk, .int .i64 xf, .int .i64 xt] 43))
      have HVL : Hid (VB < wr.heap.size) := lt_of_block hrow
      have HTA := Lib.hid (h1.below hbA)
      have HRT := Lib.hid (h3.below hbA)
      have HBRA := Lib.hid (HBR.out.trans (hbA.mono HBR.out.size))
      have d0 := cell_of_row _ VB 0 _ _ _ HROW.out
      have d1 := cell_of_row _ VB 1 _ _ _ HROW.out
      have d2 := cell_of_row _ VB 2 _ _ _ HROW.out
      simp only [List.getElem?_toArray, List.getElem?_cons_zero, List.getElem?_cons_succ] at d0 d1 d2
      clear hrow hbA h1 h3 hr
      go_wp2_with fail
      clear c0 c1 c2
      obtain ⟨XB, hXB⟩ : ∃ XB, wr.heap.size = XB := ⟨_, rfl⟩
      rw [hXB] at HXR HVL
      rw [hXB]
      generalize wr.alloc (.cells #[.int .i64 xk, .int .i64 xf, .int .i64 xt] 43) = wa at *
      have HLV := Lib.hid (liveE_any ta tc rows ra rc rs bz wa HTA.out h2 HRT.out h4)
      refine HLV.out.mono ?_
      rintro e w3 ⟨hb3, ⟨hno, _⟩ | ⟨_, gl, o, rfl, _, _, hrowo, hsp⟩⟩
      · exact absurd HINV.out.1 hno
      have HB3 := Lib.hid (HBRA.out.trans (hb3.mono HBRA.out.size))
      have HROW3 := Lib.hid ((hb3.block _ (lt_of_block HROW.out)).trans HROW.out)
      have HXR3 := Lib.hid ((hb3.block _ (lt_of_block HXR.out)).trans HXR.out)
      have HO3 := Lib.hid hrowo
      have HSP := Lib.hid hsp
      have HTA3 := Lib.hid (HTA.out.below hb3)
      have HRT3 := Lib.hid (HRT.out.below hb3)
      have HVL3 : Hid (VB < w3.heap.size) := lt_of_block HROW3.out
      have hkl : (kidsOf (tK rows)).length = (tK rows).length := by simp [kidsOf]
      have hol : o.length = rows.length := by rw [hsp.1, hkl, tK_length]
      have HOL := Lib.hid hol
      have HTL : Hid ((tK rows).length = rows.length) := tK_length rows
      clear hb3 hrowo hsp d0 d1 d2 hkl hol
      have d0 := cell_of_row w3 VB 0 _ _ _ HROW3.out
      have d1 := cell_of_row w3 VB 1 _ _ _ HROW3.out
      have d2 := cell_of_row w3 VB 2 _ _ _ HROW3.out
      simp only [List.getElem?_toArray, List.getElem?_cons_zero, List.getElem?_cons_succ] at d0 d1 d2
      have y0 := cell_of_row w3 XB 0 _ _ _ HXR3.out
      have y1 := cell_of_row w3 XB 1 _ _ _ HXR3.out
      have y2 := cell_of_row w3 XB 2 _ _ _ HXR3.out
      simp only [List.getElem?_toArray, List.getElem?_cons_zero, List.getElem?_cons_succ] at y0 y1 y2
      have HDO := Lib.hid (do_any ta tc rows ra rc rs bz xk xf xt w3 HTA3.out h2 HRT3.out h4)
      go_wp2_with fail
      refine HDO.out.mono ?_
      rintro e w4 ⟨hb4, hres⟩
      have HB4 := Lib.hid (HB3.out.trans (hb4.mono HB3.out.size))
      have HROW4 := Lib.hid ((hb4.block _ (lt_of_block HROW3.out)).trans HROW3.out)
      have HO4 := Lib.hid ((hb4.block _ (lt_of_block HO3.out)).trans HO3.out)
      have HV4 : Hid (HVar w4 VB (tK rows, rs, bz)) := ⟨ta, tc, rows, ra, rc, HROW4.out, HTA3.out.below hb4, h2, HRT3.out.below hb4, h4, rfl⟩
      have HL34 : Hid (w3.heap.size ≤ w4.heap.size) := hb4.size
      clear hb4 d0 d1 d2 y0 y1 y2
      rw [doF_inv HINV.out] at hres
      cases hst : stepF (tK rows, rs, bz) (xk, xf, xt) with
      | none =>
        rw [hst] at hres
        obtain ⟨c, ⟨hc0, hc20⟩, rfl⟩ := hres
        have f1 : ((c : Int) != 0) = true := by simp; omega
        clear hst hc0
        have HBN : Hid (Below w.heap.size w (w4.alloc (.cells #[.slice none 0 0, .slice none 0 0, .bool false] 41))) := HB4.out.alloc HB4.out.size _
        have HVN : Hid (HVar (w4.alloc (.cells #[.slice none 0 0, .slice none 0 0, .bool false] 41)) VB (tK rows, rs, bz)) := HV4.out.below ((Below.refl _ _).alloc (Nat.le_refl _) _)
        go_wp2_with fail
        go_roundw
        case rel => exact ⟨i + 1, _, by omega, by go_num, HBN.out, HVN.out, HINV.out⟩
        case measure => simp [intOf]; omega
      | some gg =>
        rw [hst] at hres
        obtain ⟨H, ta2, tc2, rows2, ra2, rc2, rs2, bz2, hoh, hg, rfl⟩ := hres
        have HSI := Lib.hid (step_inv HINV.out hst)
        rw [hg] at HSI
        have HOH : Hid (OH w3.heap.size H ta2 tc2 rows2 ra2 rc2 rs2 bz2 (w4.alloc (.cells #[.slice ta2 rows2.length tc2, .slice ra2 rs2.length rc2, .bool bz2] 41))) := hoh.below ((Below.refl _ _).alloc (Nat.le_refl _) _)
        have HGR := Lib.hid (heap_alloc_new w4 (.cells #[.slice ta2 rows2.length tc2, .slice ra2 rs2.length rc2, .bool bz2] 41))
        have HBN : Hid (Below w.heap.size w (w4.alloc (.cells #[.slice ta2 rows2.length tc2, .slice ra2 rs2.length rc2, .bool bz2] 41))) := HB4.out.alloc HB4.out.size _
        have HROW5 := Lib.hid ((Below.heap_alloc w4 (.cells #[.slice ta2 rows2.length tc2, .slice ra2 rs2.length rc2, .bool bz2] 41) VB (lt_of_block HROW4.out)).trans HROW4.out)
        have HO5 := Lib.hid ((Below.heap_alloc w4 (.cells #[.slice ta2 rows2.length tc2, .slice ra2 rs2.length rc2, .bool bz2] 41) gl (lt_of_block HO4.out)).trans HO4.out)
        have hr40 : rows2.length ≤ 40 := by have := HSI.out.1.1.1; simp only [tK_length] at this; exact this
        have HGV : Hid (∃ GB, w4.heap.size = GB) := ⟨_, rfl⟩
        clear hst hoh hg
        go_wp2_with fail
        obtain ⟨GB, hGB⟩ := HGV.out
        rw [hGB] at HGR
        rw [hGB]
        generalize w4.alloc (.cells #[.slice ta2 rows2.length tc2, .slice ra2 rs2.length rc2, .bool bz2] 41) = w5 at *
        have k0 := cell_of_row w5 GB 0 _ _ _ HGR.out
        have k1 := cell_of_row w5 GB 1 _ _ _ HGR.out
        have k2 := cell_of_row w5 GB 2 _ _ _ HGR.out
        simp only [List.getElem?_toArray, List.getElem?_cons_zero, List.getElem?_cons_succ] at k0 k1 k2
        rw [HTL.out]
        go_loopw [38] (fun jv wq => ∃ j : Nat, j ≤ rows.length ∧ jv = .int .i64 (j : Int) ∧ wq = w5) (fun jv _ => rows.length - (intOf jv).toNat)
        case atStart => exact ⟨0, by omega, rfl, rfl⟩
        case round =>
          obtain ⟨j, hj, rfl, rfl⟩ := hrel
          by_cases hlt2 : j < rows.length
          · have m2 : (j : Int) < (rows.length : Int) := by omega
            have hoc := cell_of_row wr gl j _ _ _ HO5.out
            rw [oC_get o j (by rw [HOL.out]; exact hlt2)] at hoc
            cases hq : o.getD j false with
            | false =>
              rw [hq] at hoc
              clear hq
              go_wp2_with fail
              go_roundw
              case rel => exact ⟨j + 1, by omega, by go_num, by first | rfl | trivial⟩
              case measure => simp [intOf]; omega
            | true =>
              rw [hq] at hoc
              have hth := HSI.out.2 j ((HSP.out.2 j).1 hq)
              obtain ⟨_, t, ht, hf⟩ := hth
              rw [Int.toNat_natCast] at ht
              have hj2 : j < rows2.length := by rw [← tK_length]; exact (List.getElem?_eq_some_iff.1 ht).1
              have htk := tK_get rows2 j hj2
              replace ht : (tK rows2)[j]? = some t := ht
              rw [htk] at ht
              injection ht with ht
              obtain ⟨g2, rfl, _, _, _, _, _, q2, _⟩ := HOH.out.thing j hj2 _ rfl
              rw [ht, hf] at q2
              have m3 : (j : Int) < (rows2.length : Int) := by omega
              have m4 : (0 : Int) ≤ (j : Int) := Int.natCast_nonneg _
              have m5 : ¬ (rows2.length : Int) ≤ (j : Int) := by omega
              clear hq htk ht hf
              go_wp2_with fail
              go_roundw
              case rel => exact ⟨j + 1, by omega, by go_num, by first | rfl | trivial⟩
              case measure => simp [intOf]; omega
          · have m2 : ¬ (j : Int) < (rows.length : Int) := by omega
            have HRR : Hid (World.there wr VB 0 (#[.slice ta2 rows2.length tc2, .slice ra2 rs2.length rc2, .bool bz2] : Array Value).size) := (by have := there_rowS HROW5.out; exact this)
            have HVF := Lib.hid (HOH.out.var HROW5.out rfl HVL3.out)
            go_wp2_with (with_reducible refine wpList_store_mid rfl 41 (.tmp 3) (.tmp 60) rfl VB 0 #[.slice ta2 rows2.length tc2, .slice ra2 rs2.length rc2, .bool bz2] rfl rfl HRR.out (HI3.out _ _ _) (HON3.out _ _ _ _ _ _ _) ?_)
            go_roundw
            case rel => exact ⟨i + 1, _, by omega, by go_num, below_setCells HVW.out _ _ HBN.out, HVF.out, HSI.out.1⟩
            case measure => simp [intOf]; omega
    · have m1 : ¬ (i : Int) < (l.length : Int) := by omega
      obtain ⟨ta, tc, rows, ra, rc, hrow, h1, h2, h3, h4, h5⟩ := HVR.out
      obtain ⟨ts, rs, bz⟩ := h
      simp only at hrow h3 h4 h5
      subst h5
      have d0 := cell_of_row wr VB 0 _ _ _ hrow
      have d1 := cell_of_row wr VB 1 _ _ _ hrow
      have d2 := cell_of_row wr VB 2 _ _ _ hrow
      simp only [List.getElem?_toArray, List.getElem?_cons_zero, List.getElem?_cons_succ] at d0 d1 d2
      have HCK := Lib.hid (hcheck_any ta tc rows ra rc rs bz wr h1 h2 h3 h4)
      clear hrow h1 h3
      go_wp2_with fail
      refine HCK.out.mono ?_
      rintro e w3 ⟨c, rfl, _, hc0, hb⟩
      obtain rfl : c = 0 := hc0.2 HINV.out.1
      have HBF := Lib.hid (HBR.out.trans (hb.mono HBR.out.size))
      clear hb hc0
      go_wp2_with fail
      go_ret
      exact ⟨rfl, HBF.out⟩
end Go.Proofs.Ytgoocmocdimnoaa
