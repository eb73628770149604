/- The walk of SweepClean. -/
import Derived.Test.YtgoocmocdimnoaaSweepVar
import Derived.Test.YtgoocmocdimnoaaBools
import Derived.Test.YtgoocmocdimnoaaSweepPlain3
namespace Go.Proofs.Ytgoocmocdimnoaa
open Go.RowKit Plain Go.ChangeShapes Go.WideShapes Go.ChangeAt
set_option linter.unusedVariables false
set_option maxRecDepth 100000 in
set_option maxHeartbeats 4000000 in
theorem sweepClean_any (a : Option Addr) (cap : Nat) (l : List Ac) (w : World) (hs : SAt 3 acC w a l) (hl : l.length ≤ 9223372036854775807) :
    Calls Try.prog 8 #[.slice a l.length cap] w fun e w' => e = .returned (.bool true) ∧ Below w.heap.size w w' := by
  have HI3 : Hid (∀ a b c : Value, (Try.prog.info? 41).map (·.size) = some (#[a, b, c] : Array Value).size) := fun a b c => by show _ = _; kernel_rfl
  have HON3 : Hid (∀ (a b : Option Addr) (n m c d : Nat) (z : Bool), (#[.slice a n c, .slice b m d, .bool z] : Array Value).all (·.oneCell') = true) := fun a b n m c d z => by simp [Value.oneCell']
  have HS := Lib.hid hs
  clear hs
  go_enter Try.func8, Try.ntmps8
  go_wp2_with fail
  refine (swept_any w).mono ?_
  rintro e w1 ⟨rfl, hb⟩
  have HB1 : Hid (Below w.heap.size w (w1.alloc (.cells #[.slice none 0 0, .slice none 0 0, .bool false] 41))) := hb.alloc hb.size _
  have HV0 : Hid (HVar (w1.alloc (.cells #[.slice none 0 0, .slice none 0 0, .bool false] 41)) w1.heap.size ([], [], false)) := HVar.zero (heap_alloc_new w1 _)
  have HVW : Hid (w.heap.size ≤ w1.heap.size) := hb.size
  clear hb
  go_wp2_with fail
  obtain ⟨VB, hVB⟩ : ∃ VB, w1.heap.size = VB := ⟨_, rfl⟩
  rw [hVB]
  rw [hVB] at HV0 HVW
  generalize w1.alloc (.cells #[.slice none 0 0, .slice none 0 0, .bool false] 41) = w2 at *
  clear hVB
  obtain ⟨i0, hi0, hz0, hz1, hz2⟩ := info_parts info_intS
  go_loopw [4, 20] (fun dv iv wr => ∃ (i : Nat) (h : Hp) (dl : List Int) (oa : Option Addr) (oc : Nat), i ≤ l.length ∧ iv = .int .i64 (i : Int) ∧ dv = .slice oa dl.length oc ∧ Below w.heap.size w wr ∧ HVar wr VB h ∧ Inv h ∧ wr.ownsRow w.heap.size 3 1 (.slice oa dl.length oc) dl.length (dl.flatMap iC) ∧ dl.length ≤ 40 ∧ (h.2.2 = true → Cl (DL dl) h ∧ ∀ x ∈ dl, 0 ≤ x)) (fun _ iv _ => l.length - (intOf iv).toNat)
  case atStart => exact ⟨0, _, [], none, 0, by omega, rfl, rfl, HB1.out, HV0.out, inv_zero, World.ownsRow_nil _ _ _ _, by simp, fun h => Bool.noConfusion h⟩
  case round =>
    obtain ⟨i, h, dl, oa, oc, hi, rfl, rfl, hbr, hvr, hinv, hown, hdl, hcl⟩ := hrel
    have HBR := Lib.hid hbr
    have HVR := Lib.hid hvr
    have HINV := Lib.hid hinv
    have HOW := Lib.hid hown
    have HDL := Lib.hid hdl
    have HCL := Lib.hid hcl
    clear hbr hvr hinv HB1 HV0 hown hdl hcl
    by_cases hlt : i < l.length
    · have m1 : (i : Int) < (l.length : Int) := by omega
      obtain ⟨g, off, rfl, _, hr⟩ := (HS.out.below HBR.out) i hlt
      have c0 := hr 0 _ rfl
      have c1 := hr 1 _ rfl
      have c2 := hr 2 _ rfl
      generalize l[i] = x at *
      obtain ⟨xk, xf, xt⟩ := x
      simp only [Nat.add_zero] at c0 c1 c2
      obtain ⟨ta, tc, rows, ra, rc, hrow, h1, h2, h3, h4, h5⟩ := HVR.out
      obtain ⟨ts, rs, bz⟩ := h
      simp only at hrow h3 h4 h5
      subst h5
      have HOWA := Lib.hid (HOW.out.alloc (.cells #[.int .i64 xk, .int .i64 xf, .int .i64 xt] 43))
      have hbA : Below wr.heap.size wr (wr.alloc (.cells #[.int .i64 xk, .int .i64 xf, .int .i64 xt] 43)) := (Below.refl _ _).alloc (Nat.le_refl _) _
      have HBA := Lib.hid hbA
      have HROW := Lib.hid ((hbA.block _ (lt_of_block hrow)).trans hrow)
      have HXR := Lib.hid (heap_alloc_new wr (.cells #[.int .i64 xk, .int .i64 xf, .int .i64 xt] 43))
      have HVL : Hid (VB < wr.heap.size) := lt_of_block hrow
      have HTA := Lib.hid (h1.below hbA)
      have HRT := Lib.hid (h3.below hbA)
      have HBRA := Lib.hid (HBR.out.trans (hbA.mono HBR.out.size))
      have d0 := cell_of_row _ VB 0 _ _ _ HROW.out
      have d1 := cell_of_row _ VB 1 _ _ _ HROW.out
      have d2 := cell_of_row _ VB 2 _ _ _ HROW.out
      simp only [List.getElem?_toArray, List.getElem?_cons_zero, List.getElem?_cons_succ] at d0 d1 d2
      clear hrow hbA h1 h3 hr
      go_wp2_with fail
      clear c0 c1 c2
      obtain ⟨XB, hXB⟩ : ∃ XB, wr.heap.size = XB := ⟨_, rfl⟩
      rw [hXB] at HXR HVL
      rw [hXB]
      generalize wr.alloc (.cells #[.int .i64 xk, .int .i64 xf, .int .i64 xt] 43) = wa at *
      have HDO := Lib.hid (do_any ta tc rows ra rc rs bz xk xf xt wa HTA.out h2 HRT.out h4)
      refine HDO.out.mono ?_
      rintro e w4 ⟨hb4, hres⟩
      have HB4 := Lib.hid (HBRA.out.trans (hb4.mono HBRA.out.size))
      have HROW4 := Lib.hid ((hb4.block _ (lt_of_block HROW.out)).trans HROW.out)
      have HTA4 := Lib.hid (HTA.out.below hb4)
      have HRT4 := Lib.hid (HRT.out.below hb4)
      have HV4 : Hid (HVar w4 VB (tK rows, rs, bz)) := ⟨ta, tc, rows, ra, rc, HROW4.out, HTA4.out, h2, HRT4.out, h4, rfl⟩
      have HVLA : Hid (VB < wa.heap.size) := lt_of_block HROW.out
      have HOW4 := Lib.hid (own_below HOWA.out hb4)
      clear hb4 d0 d1 d2
      rw [doF_inv HINV.out] at hres
      cases hst : stepF (tK rows, rs, bz) (xk, xf, xt) with
      | none =>
        rw [hst] at hres
        obtain ⟨c, ⟨hc0, hc20⟩, rfl⟩ := hres
        have f1 : ((c : Int) != 0) = true := by simp; omega
        have f2 : ((c : Int) == 0) = false := by simp; omega
        clear hst hc0
        have HBN : Hid (Below w.heap.size w (w4.alloc (.cells #[.slice none 0 0, .slice none 0 0, .bool false] 41))) := HB4.out.alloc HB4.out.size _
        have HVN : Hid (HVar (w4.alloc (.cells #[.slice none 0 0, .slice none 0 0, .bool false] 41)) VB (tK rows, rs, bz)) := HV4.out.below ((Below.refl _ _).alloc (Nat.le_refl _) _)
        have HOWN := Lib.hid (HOW4.out.alloc (.cells #[.slice none 0 0, .slice none 0 0, .bool false] 41))
        go_wp2_with fail
        go_roundw
        case rel => exact ⟨i + 1, _, dl, oa, oc, by omega, by go_num, rfl, HBN.out, HVN.out, HINV.out, HOWN.out, HDL.out, HCL.out⟩
        case measure => simp [intOf]; omega
      | some gg =>
        rw [hst] at hres
        obtain ⟨H, ta2, tc2, rows2, ra2, rc2, rs2, bz2, hoh, hg, rfl⟩ := hres
        subst hg
        have HSI := Lib.hid (step_inv HINV.out hst)
        have HSTP := Lib.hid hst
        have HOH : Hid (OH wa.heap.size H ta2 tc2 rows2 ra2 rc2 rs2 bz2 (w4.alloc (.cells #[.slice ta2 rows2.length tc2, .slice ra2 rs2.length rc2, .bool bz2] 41))) := hoh.below ((Below.refl _ _).alloc (Nat.le_refl _) _)
        have HGR := Lib.hid (heap_alloc_new w4 (.cells #[.slice ta2 rows2.length tc2, .slice ra2 rs2.length rc2, .bool bz2] 41))
        have HBN : Hid (Below w.heap.size w (w4.alloc (.cells #[.slice ta2 rows2.length tc2, .slice ra2 rs2.length rc2, .bool bz2] 41))) := HB4.out.alloc HB4.out.size _
        have HROW5 := Lib.hid ((Below.heap_alloc w4 (.cells #[.slice ta2 rows2.length tc2, .slice ra2 rs2.length rc2, .bool bz2] 41) VB (lt_of_block HROW4.out)).trans HROW4.out)
        have HOW5 := Lib.hid (HOW4.out.alloc (.cells #[.slice ta2 rows2.length tc2, .slice ra2 rs2.length rc2, .bool bz2] 41))
        have hr40 : rows2.length ≤ 40 := by have := HSI.out.1.1.1; simp only [tK_length] at this; exact this
        have HGV : Hid (∃ GB, w4.heap.size = GB) := ⟨_, rfl⟩
        clear hst hoh
        have HTA5 : Hid (TAt (w4.alloc (.cells #[.slice ta2 rows2.length tc2, .slice ra2 rs2.length rc2, .bool bz2] 41)) ta rows) := HTA4.out.below ((Below.refl _ _).alloc (Nat.le_refl _) _)
        have HRT5 : Hid (SAt 1 iC (w4.alloc (.cells #[.slice ta2 rows2.length tc2, .slice ra2 rs2.length rc2, .bool bz2] 41)) ra rs) := HRT4.out.below ((Below.refl _ _).alloc (Nat.le_refl _) _)
        have HVF := Lib.hid (HOH.out.var HROW5.out rfl HVLA.out)
        have HBF : Hid (Below w.heap.size w ((w4.alloc (.cells #[.slice ta2 rows2.length tc2, .slice ra2 rs2.length rc2, .bool bz2] 41)).setCells VB 0 [.slice ta2 rows2.length tc2, .slice ra2 rs2.length rc2, .bool bz2])) := below_setCells HVW.out [.slice ta2 rows2.length tc2, .slice ra2 rs2.length rc2, .bool bz2] 0 HBN.out
        have HOF : Hid (((w4.alloc (.cells #[.slice ta2 rows2.length tc2, .slice ra2 rs2.length rc2, .bool bz2] 41)).setCells VB 0 [.slice ta2 rows2.length tc2, .slice ra2 rs2.length rc2, .bool bz2]).ownsRow w.heap.size 3 1 (.slice oa dl.length oc) dl.length (dl.flatMap iC)) := own_same HOW5.out fun g0 cs _ hg0 => heap_setCells_other _ _ (fun e => by subst e; rw [HROW5.out] at hg0; injection hg0 with hg0; injection hg0 with _ hg0; exact absurd hg0 (by decide)) _ _ _
        have HRR : Hid (World.there (w4.alloc (.cells #[.slice ta2 rows2.length tc2, .slice ra2 rs2.length rc2, .bool bz2] 41)) VB 0 (#[.slice ta2 rows2.length tc2, .slice ra2 rs2.length rc2, .bool bz2] : Array Value).size) := (by have := there_rowS HROW5.out; exact this)
        have HFL := Lib.hid (step_flag HSTP.out)
        have hbc := HBN.out.size
        have d0 := cell_of_row _ VB 0 _ _ _ HROW5.out
        have d1 := cell_of_row _ VB 1 _ _ _ HROW5.out
        have d2 := cell_of_row _ VB 2 _ _ _ HROW5.out
        simp only [List.getElem?_toArray, List.getElem?_cons_zero, List.getElem?_cons_succ] at d0 d1 d2
        cases bz with
        | false =>
          cases bz2 with
          | false =>
            go_wp2_with (with_reducible refine wpList_store_mid rfl 41 (.tmp 3) (.tmp 88) rfl VB 0 #[.slice ta2 rows2.length tc2, .slice ra2 rs2.length rc2, .bool false] rfl rfl HRR.out (HI3.out _ _ _) (HON3.out _ _ _ _ _ _ _) ?_)
            go_roundw
            case rel => exact ⟨i + 1, _, dl, oa, oc, by omega, by go_num, rfl, HBF.out, HVF.out, HSI.out.1, HOF.out, HDL.out, fun h => by cases h⟩
            case measure => simp [intOf]; omega
          | true =>
            have HGM : Hid ((tK rows2, rs2, true) = markF (tK rows, rs, false)) := by
              rcases HFL.out with ⟨_, h⟩ | h
              · exact h
              · cases h
            have HLV := Lib.hid (liveE_any ta tc rows ra rc rs false _ HTA5.out h2 HRT5.out h4)
            have HOR : Hid (OH wa.heap.size H ta2 tc2 rows2 ra2 rc2 rs2 true (w4.alloc (.cells #[.slice ta2 rows2.length tc2, .slice ra2 rs2.length rc2, .bool true] 41))) := HOH.out
            have HTL : Hid ((tK rows).length = rows.length) := tK_length rows
            go_wp2_with fail
            obtain ⟨GB, hGB⟩ := HGV.out
            rw [hGB] at HGR
            rw [hGB]
            generalize w4.alloc (.cells #[.slice ta2 rows2.length tc2, .slice ra2 rs2.length rc2, .bool true] 41) = w5 at *
            refine HLV.out.mono ?_
            rintro e w6 ⟨hb6, ⟨hno, _⟩ | ⟨_, gl, o, rfl, _, _, hrowo, hsp⟩⟩
            · exact absurd HINV.out.1 hno
            have HB6 := Lib.hid (HBN.out.trans (hb6.mono HBN.out.size))
            have HROW6 := Lib.hid ((hb6.block _ (lt_of_block HROW5.out)).trans HROW5.out)
            have HGR6 := Lib.hid ((hb6.block _ (lt_of_block HGR.out)).trans HGR.out)
            have HTA6 := Lib.hid (HTA5.out.below hb6)
            have HOR6 := Lib.hid (HOR.out.below hb6)
            have HO6 := Lib.hid hrowo
            have HSP := Lib.hid hsp
            have hkl : (kidsOf (tK rows)).length = (tK rows).length := by simp [kidsOf]
            have hol : o.length = rows.length := by rw [hsp.1, hkl, tK_length]
            have HOL := Lib.hid hol
            have HVL6 : Hid (VB < wa.heap.size) := HVLA.out
            have hwa6 : wa.heap.size ≤ w6.heap.size := Nat.le_trans HOR.out.size hb6.size
            clear hb6 hrowo hsp hkl hol d0 d1 d2 HLV HVF HBF HOF HRR
            go_wp2_with fail
            rw [HTL.out]
            go_loopw [4, 46] (fun dv jv wq => ∃ (j : Nat) (dl : List Int) (oa : Option Addr) (oc : Nat), j ≤ rows.length ∧ jv = .int .i64 (j : Int) ∧ dv = .slice oa dl.length oc ∧ Below w6.heap.size w6 wq ∧ wq.ownsRow w6.heap.size 3 1 (.slice oa dl.length oc) dl.length (dl.flatMap iC) ∧ DAt (tK rows, rs, false) j dl) (fun _ jv _ => rows.length - (intOf jv).toNat)
            case atStart => exact ⟨0, [], none, 0, by omega, rfl, rfl, Below.refl _ _, World.ownsRow_nil _ _ _ _, DAt.zero _⟩
            case round =>
              obtain ⟨j, dl2, oa2, oc2, hj, rfl, rfl, hbq, hown, hda⟩ := hrel
              have HBQ := Lib.hid hbq
              have HOQ := Lib.hid hown
              have HDA := Lib.hid hda
              have HTQ := Lib.hid (HTA6.out.below hbq)
              have HOQ2 := Lib.hid ((hbq.block _ (lt_of_block HO6.out)).trans HO6.out)
              have HRQ := Lib.hid ((hbq.block _ (lt_of_block HROW6.out)).trans HROW6.out)
              have HGQ := Lib.hid ((hbq.block _ (lt_of_block HGR6.out)).trans HGR6.out)
              have HORQ := Lib.hid (HOR6.out.below hbq)
              clear hbq hown hda
              have d0 := cell_of_row _ VB 0 _ _ _ HRQ.out
              have d1 := cell_of_row _ VB 1 _ _ _ HRQ.out
              have d2 := cell_of_row _ VB 2 _ _ _ HRQ.out
              simp only [List.getElem?_toArray, List.getElem?_cons_zero, List.getElem?_cons_succ] at d0 d1 d2
              by_cases hlt2 : j < rows.length
              · have m2 : (j : Int) < (rows.length : Int) := by omega
                have m4 : (0 : Int) ≤ (j : Int) := Int.natCast_nonneg _
                have hoc := cell_of_row wr gl j _ _ _ HOQ2.out
                rw [oC_get o j (by rw [HOL.out]; exact hlt2)] at hoc
                have hspj := HSP.out.2 j
                have htq := tK_get rows j hlt2
                obtain ⟨g7, off7, rfl, _, _, _, y2⟩ := HTQ.out.1.thg j hlt2 _ rfl
                generalize rows[j].2.2 = t at *
                have HTJ := Lib.hid htq
                have HSJ := Lib.hid hspj
                clear htq hspj
                cases hq : o.getD j false with
                | true =>
                  rw [hq] at hoc
                  have HNO : Hid (¬ Dd (tK rows, rs, false) j) := fun ⟨_, _, _, hn⟩ => hn (HSJ.out.1 hq)
                  clear hq
                  go_wp2_with fail
                  go_roundw
                  case rel => exact ⟨j + 1, dl2, oa2, oc2, by omega, by go_num, rfl, HBQ.out, HOQ.out, HDA.out.no HNO.out⟩
                  case measure => simp [intOf]; omega
                | false =>
                  rw [hq] at hoc
                  cases hf : t.2.2 with
                  | true =>
                    rw [hf] at y2
                    have HNO : Hid (¬ Dd (tK rows, rs, false) j) := fun ⟨u, hu, huf, _⟩ => by
                      replace hu : (tK rows)[j]? = some u := hu
                      rw [HTJ.out] at hu
                      injection hu with hu
                      rw [← hu, hf] at huf
                      cases huf
                    clear hq hf
                    go_wp2_with fail
                    go_roundw
                    case rel => exact ⟨j + 1, dl2, oa2, oc2, by omega, by go_num, rfl, HBQ.out, HOQ.out, HDA.out.no HNO.out⟩
                    case measure => simp [intOf]; omega
                  | false =>
                    rw [hf] at y2
                    have HYES : Hid (Dd (tK rows, rs, false) j) := ⟨t, HTJ.out, hf, fun hn => by rw [HSJ.out.2 hn] at hq; cases hq⟩
                    have hdl2 : dl2.length ≤ 40 := by have := HDA.out.1; have := HINV.out.1.1; simp only [tK_length] at this; omega
                    clear hq hf
                    have D1 := Lib.hid (cells_new_at (wr) (wr.heap.size) (by simp) #[.int .i64 (j : Int)] 3 [.int .i64 (j : Int)] rfl)
                    have D2 : Hid (∀ u ∈ ([.int .i64 (j : Int)] : List Value), u.oneCell' = true) := by intro u hu; simp only [List.mem_cons, List.not_mem_nil, or_false] at hu; rcases hu with rfl <;> rfl
                    have D3 : Hid (dl2.length + 1 ≤ maxLen) := by show _ ≤ _; unfold maxLen; omega
                    have D4 : Hid ((dl2.length + 1) * 8 ≤ 140737488355328) := by show _ ≤ _; omega
                    have D5 : Hid (w6.heap.size ≤ ((wr).alloc (.cells #[.int .i64 (j : Int)] 3)).heap.size) := by have := HBQ.out.size; show _ ≤ _; simp; omega
                    have HA1 := Lib.hid (HOQ.out.alloc (.cells #[.int .i64 (j : Int)] 3))
                    go_wp2_with (at_builtin; refine wpList_append_own _ rfl _ _ 23 rfl w6.heap.size 3 i0 (.int .i64 0) 1 8 Try.underlying23 hi0 hz0 hz1 hz2 rfl (by decide) _ _ _ rfl HA1.out ⟨wr.heap.size, 0, none⟩ 1 1 [.int .i64 (j : Int)] rfl rfl D1.out D2.out D3.out D4.out D5.out ?_)
                    intro v' w9 hown' hgrow _
                    obtain ⟨oa3, oc3, rfl⟩ := own_formS hown'
                    have HB9 := Lib.hid (below_own (HBQ.out.alloc HBQ.out.size (.cells #[.int .i64 (j : Int)] 3)) hgrow D5.out HA1.out (Nat.le_refl _))
                    have HO9 : Hid (w9.ownsRow w6.heap.size 3 1 (.slice oa3 (dl2 ++ [(j : Int)]).length oc3) (dl2 ++ [(j : Int)]).length ((dl2 ++ [(j : Int)]).flatMap iC)) := by
                      show w9.ownsRow _ _ _ _ _ _
                      rw [List.length_append, List.flatMap_append]
                      exact hown'
                    clear hown' hgrow
                    go_wp2_with fail
                    go_roundw
                    case rel => exact ⟨j + 1, dl2 ++ [(j : Int)], oa3, oc3, by omega, by go_num, by rw [List.length_append]; rfl, HB9.out, HO9.out, HDA.out.yes HYES.out⟩
                    case measure => simp [intOf]; omega
              · have m2 : ¬ (j : Int) < (rows.length : Int) := by omega
                have HRRQ : Hid (World.there wr VB 0 (#[.slice ta2 rows2.length tc2, .slice ra2 rs2.length rc2, .bool true] : Array Value).size) := (by have := there_rowS HRQ.out; exact this)
                have HVQ := Lib.hid (HORQ.out.var HRQ.out rfl HVLA.out)
                have HBE : Hid (Below w.heap.size w (wr.setCells VB 0 [.slice ta2 rows2.length tc2, .slice ra2 rs2.length rc2, .bool true])) := below_setCells HVW.out [.slice ta2 rows2.length tc2, .slice ra2 rs2.length rc2, .bool true] 0 (HB6.out.trans (HBQ.out.mono HB6.out.size))
                have HOE : Hid ((wr.setCells VB 0 [.slice ta2 rows2.length tc2, .slice ra2 rs2.length rc2, .bool true]).ownsRow w.heap.size 3 1 (.slice oa2 dl2.length oc2) dl2.length (dl2.flatMap iC)) := own_same (own_weak HOQ.out HB6.out.size) fun g0 cs _ hg0 => heap_setCells_other _ _ (fun e => by subst e; rw [HRQ.out] at hg0; injection hg0 with hg0; injection hg0 with _ hg0; exact absurd hg0 (by decide)) _ _ _
                have HLE : Hid (dl2.length ≤ 40) := by have := HDA.out.1; have := HINV.out.1.1; simp only [tK_length] at this; show _ ≤ _; omega
                have HCE : Hid (Cl (DL dl2) (tK rows2, rs2, true) ∧ ∀ x ∈ dl2, 0 ≤ x) := by
                  refine ⟨?_, fun x hx => ?_⟩
                  · rw [HGM.out]
                    exact cl_of (begin_clean HINV.out.1) (fun k => HDA.out.all (by show (tK rows).length ≤ j; rw [HTL.out]; omega) k)
                  · obtain ⟨k, rfl, _⟩ := (HDA.out.2 x).1 hx
                    omega
                have k0 := cell_of_row _ GB 0 _ _ _ HGQ.out
                have k1 := cell_of_row _ GB 1 _ _ _ HGQ.out
                have k2 := cell_of_row _ GB 2 _ _ _ HGQ.out
                simp only [List.getElem?_toArray, List.getElem?_cons_zero, List.getElem?_cons_succ] at k0 k1 k2
                go_wp2_with (with_reducible refine wpList_store_mid rfl 41 (.tmp 3) (.tmp 88) rfl VB 0 #[.slice ta2 rows2.length tc2, .slice ra2 rs2.length rc2, .bool true] rfl rfl HRRQ.out (HI3.out _ _ _) (HON3.out _ _ _ _ _ _ _) ?_)
                go_roundw
                case rel => exact ⟨i + 1, _, dl2, oa2, oc2, by omega, by go_num, rfl, HBE.out, HVQ.out, HSI.out.1, HOE.out, HLE.out, fun _ => HCE.out⟩
                case measure => simp [intOf]; omega
        | true =>
          have HCD := Lib.hid (HCL.out rfl)
          have HSC := Lib.hid (step_clean HINV.out rfl HCD.out.1 HSTP.out)
          cases bz2 with
          | true =>
            have HC2 : Hid (Cl (DL dl) (tK rows2, rs2, true)) := by
              rcases HSC.out with ⟨_, h⟩ | ⟨h, _⟩
              · exact h
              · cases h
            go_wp2_with (with_reducible refine wpList_store_mid rfl 41 (.tmp 3) (.tmp 88) rfl VB 0 #[.slice ta2 rows2.length tc2, .slice ra2 rs2.length rc2, .bool true] rfl rfl HRR.out (HI3.out _ _ _) (HON3.out _ _ _ _ _ _ _) ?_)
            go_roundw
            case rel => exact ⟨i + 1, _, dl, oa, oc, by omega, by go_num, rfl, HBF.out, HVF.out, HSI.out.1, HOF.out, HDL.out, fun _ => ⟨HC2.out, HCD.out.2⟩⟩
            case measure => simp [intOf]; omega
          | false =>
            have HFR : Hid (∀ k, DL dl k → ∃ t, (tK rows2)[k]? = some t ∧ t.2.2 = true) := by
              rcases HSC.out with ⟨h, _⟩ | ⟨_, h⟩
              · cases h
              · exact h
            have HOR : Hid (OH wa.heap.size H ta2 tc2 rows2 ra2 rc2 rs2 false (w4.alloc (.cells #[.slice ta2 rows2.length tc2, .slice ra2 rs2.length rc2, .bool false] 41))) := HOH.out
            have hdl40 := HDL.out
            go_wp2_with fail
            obtain ⟨GB, hGB⟩ := HGV.out
            rw [hGB] at HGR
            rw [hGB]
            generalize w4.alloc (.cells #[.slice ta2 rows2.length tc2, .slice ra2 rs2.length rc2, .bool false] 41) = w5 at *
            have k0 := cell_of_row _ GB 0 _ _ _ HGR.out
            have k1 := cell_of_row _ GB 1 _ _ _ HGR.out
            have k2 := cell_of_row _ GB 2 _ _ _ HGR.out
            simp only [List.getElem?_toArray, List.getElem?_cons_zero, List.getElem?_cons_succ] at k0 k1 k2
            go_loopw [76] (fun jv wq => ∃ j : Nat, j ≤ dl.length ∧ jv = .int .i64 (j : Int) ∧ wq = w5) (fun jv _ => dl.length - (intOf jv).toNat)
            case atStart => exact ⟨0, by omega, rfl, rfl⟩
            case round =>
              obtain ⟨j, hj, rfl, rfl⟩ := hrel
              by_cases hlt2 : j < dl.length
              · have m2 : (j : Int) < (dl.length : Int) := by omega
                obtain ⟨g4, off4, rfl, _, hrc⟩ := (own_sat HOW5.out).1.int j hlt2
                have hmem : dl[j] ∈ dl := List.getElem_mem hlt2
                generalize dl[j] = k at *
                obtain ⟨kn, rfl⟩ := Int.eq_ofNat_of_zero_le (HCD.out.2 k hmem)
                obtain ⟨t, ht, htf⟩ := HFR.out kn hmem
                have hk3 : kn < rows2.length := by rw [← tK_length]; exact (List.getElem?_eq_some_iff.1 ht).1
                rw [tK_get rows2 kn hk3] at ht
                injection ht with ht
                obtain ⟨g5, rfl, _, _, _, _, _, z2, _⟩ := HOR.out.thing kn hk3 _ rfl
                rw [ht, htf] at z2
                have m3 : (kn : Int) < (rows2.length : Int) := by omega
                have m4 : (0 : Int) ≤ (kn : Int) := Int.natCast_nonneg _
                clear ht htf hmem
                go_wp2_with fail
                go_roundw
                case rel => exact ⟨j + 1, by omega, by go_num, by first | rfl | trivial⟩
                case measure => simp [intOf]; omega
              · have m2 : ¬ (j : Int) < (dl.length : Int) := by omega
                go_wp2_with (with_reducible refine wpList_store_mid rfl 41 (.tmp 3) (.tmp 88) rfl VB 0 #[.slice ta2 rows2.length tc2, .slice ra2 rs2.length rc2, .bool false] rfl rfl HRR.out (HI3.out _ _ _) (HON3.out _ _ _ _ _ _ _) ?_)
                go_roundw
                case rel => exact ⟨i + 1, _, dl, oa, oc, by omega, by go_num, rfl, HBF.out, HVF.out, HSI.out.1, HOF.out, HDL.out, fun h => by cases h⟩
                case measure => simp [intOf]; omega
    · have m1 : ¬ (i : Int) < (l.length : Int) := by omega
      go_wp2_with fail
      go_ret
      exact ⟨rfl, HBR.out⟩
end Go.Proofs.Ytgoocmocdimnoaa
