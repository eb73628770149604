/- The walk of SweepEnds. -/
import Derived.Test.YtgoocmocdimnoaaSweepVar
import Derived.Test.YtgoocmocdimnoaaBools
import Derived.Test.YtgoocmocdimnoaaSweepPlain3
namespace Go.Proofs.Ytgoocmocdimnoaa
open Go.RowKit Plain Go.ChangeShapes Go.WideShapes Go.ChangeAt
set_option linter.unusedVariables false
set_option maxRecDepth 100000 in
set_option maxHeartbeats 4000000 in
theorem sweepEnds_any (a : Option Addr) (cap : Nat) (l : List Ac) (w : World) (hs : SAt 3 acC w a l) (hl : l.length ≤ 9223372036854775807) :
    Calls Try.prog 9 #[.slice a l.length cap] w fun e w' => e = .returned (.bool true) ∧ Below w.heap.size w w' := by
  have HI3 : Hid (∀ a b c : Value, (Try.prog.info? 41).map (·.size) = some (#[a, b, c] : Array Value).size) := fun a b c => by show _ = _; kernel_rfl
  have HON3 : Hid (∀ (a b : Option Addr) (n m c d : Nat) (z : Bool), (#[.slice a n c, .slice b m d, .bool z] : Array Value).all (·.oneCell') = true) := fun a b n m c d z => by simp [Value.oneCell']
  have HS := Lib.hid hs
  clear hs
  go_enter Try.func9, Try.ntmps9
  go_wp2_with fail
  refine (swept_any w).mono ?_
  rintro e w1 ⟨rfl, hb⟩
  have HB1 : Hid (Below w.heap.size w (w1.alloc (.cells #[.slice none 0 0, .slice none 0 0, .bool false] 41))) := hb.alloc hb.size _
  have HV0 : Hid (HVar (w1.alloc (.cells #[.slice none 0 0, .slice none 0 0, .bool false] 41)) w1.heap.size ([], [], false)) := HVar.zero (heap_alloc_new w1 _)
  have HVW : Hid (w.heap.size ≤ w1.heap.size) := hb.size
  clear hb
  go_wp2_with fail
  obtain ⟨VB, hVB⟩ : ∃ VB, w1.heap.size = VB := ⟨_, rfl⟩
  rw [hVB]
  rw [hVB] at HV0 HVW
  generalize w1.alloc (.cells #[.slice none 0 0, .slice none 0 0, .bool false] 41) = w2 at *
  clear hVB
  go_loopw [18] (fun iv wr => ∃ (i : Nat) (h : Hp), i ≤ l.length ∧ iv = .int .i64 (i : Int) ∧ Below w.heap.size w wr ∧ HVar wr VB h ∧ Inv h) (fun iv _ => l.length - (intOf iv).toNat)
  case atStart => exact ⟨0, _, by omega, rfl, HB1.out, HV0.out, inv_zero⟩
  case round =>
    obtain ⟨i, h, hi, rfl, hbr, hvr, hinv⟩ := hrel
    have HBR := Lib.hid hbr
    have HVR := Lib.hid hvr
    have HINV := Lib.hid hinv
    clear hbr hvr hinv HB1 HV0
    by_cases hlt : i < l.length
    · have m1 : (i : Int) < (l.length : Int) := by omega
      obtain ⟨g, off, rfl, _, hr⟩ := (HS.out.below HBR.out) i hlt
      have c0 := hr 0 _ rfl
      have c1 := hr 1 _ rfl
      have c2 := hr 2 _ rfl
      generalize l[i] = x at *
      obtain ⟨xk, xf, xt⟩ := x
      simp only [Nat.add_zero] at c0 c1 c2
      obtain ⟨ta, tc, rows, ra, rc, hrow, h1, h2, h3, h4, h5⟩ := HVR.out
      obtain ⟨ts, rs, bz⟩ := h
      simp only at hrow h3 h4 h5
      subst h5
      have hbA : Below wr.heap.size wr (wr.alloc (.cells #[.int .i64 xk, .int .i64 xf, .int .i64 xt] 43)) := (Below.refl _ _).alloc (Nat.le_refl _) _
      have HBA := Lib.hid hbA
      have HROW := Lib.hid ((hbA.block _ (lt_of_block hrow)).trans hrow)
      have HXR := Lib.hid (heap_alloc_new wr (.cells #[.int .i64 xk, .int .i64 xf, .int .i64 xt] 43))
      have HVL : Hid (VB < wr.heap.size) := lt_of_block hrow
      have HTA := Lib.hid (h1.below hbA)
      have HRT := Lib.hid (h3.below hbA)
      have HBRA := Lib.hid (HBR.out.trans (hbA.mono HBR.out.size))
      have d0 := cell_of_row _ VB 0 _ _ _ HROW.out
      have d1 := cell_of_row _ VB 1 _ _ _ HROW.out
      have d2 := cell_of_row _ VB 2 _ _ _ HROW.out
      simp only [List.getElem?_toArray, List.getElem?_cons_zero, List.getElem?_cons_succ] at d0 d1 d2
      clear hrow hbA h1 h3 hr
      go_wp2_with fail
      clear c0 c1 c2
      obtain ⟨XB, hXB⟩ : ∃ XB, wr.heap.size = XB := ⟨_, rfl⟩
      rw [hXB] at HXR HVL
      rw [hXB]
      generalize wr.alloc (.cells #[.int .i64 xk, .int .i64 xf, .int .i64 xt] 43) = wa at *
      have HDO := Lib.hid (do_any ta tc rows ra rc rs bz xk xf xt wa HTA.out h2 HRT.out h4)
      refine HDO.out.mono ?_
      rintro e w4 ⟨hb4, hres⟩
      have HB4 := Lib.hid (HBRA.out.trans (hb4.mono HBRA.out.size))
      have HROW4 := Lib.hid ((hb4.block _ (lt_of_block HROW.out)).trans HROW.out)
      have HTA4 := Lib.hid (HTA.out.below hb4)
      have HRT4 := Lib.hid (HRT.out.below hb4)
      have HV4 : Hid (HVar w4 VB (tK rows, rs, bz)) := ⟨ta, tc, rows, ra, rc, HROW4.out, HTA4.out, h2, HRT4.out, h4, rfl⟩
      have HVLA : Hid (VB < wa.heap.size) := lt_of_block HROW.out
      clear hb4 d0 d1 d2
      rw [doF_inv HINV.out] at hres
      cases hst : stepF (tK rows, rs, bz) (xk, xf, xt) with
      | none =>
        rw [hst] at hres
        obtain ⟨c, ⟨hc0, hc20⟩, rfl⟩ := hres
        have f1 : ((c : Int) != 0) = true := by simp; omega
        have f2 : ((c : Int) == 0) = false := by simp; omega
        clear hst hc0
        have HBN : Hid (Below w.heap.size w (w4.alloc (.cells #[.slice none 0 0, .slice none 0 0, .bool false] 41))) := HB4.out.alloc HB4.out.size _
        have HVN : Hid (HVar (w4.alloc (.cells #[.slice none 0 0, .slice none 0 0, .bool false] 41)) VB (tK rows, rs, bz)) := HV4.out.below ((Below.refl _ _).alloc (Nat.le_refl _) _)
        go_wp2_with fail
        go_roundw
        case rel => exact ⟨i + 1, _, by omega, by go_num, HBN.out, HVN.out, HINV.out⟩
        case measure => simp [intOf]; omega
      | some gg =>
        rw [hst] at hres
        obtain ⟨H, ta2, tc2, rows2, ra2, rc2, rs2, bz2, hoh, hg, rfl⟩ := hres
        subst hg
        have HSI := Lib.hid (step_inv HINV.out hst)
        have HSTP := Lib.hid hst
        have HOH : Hid (OH wa.heap.size H ta2 tc2 rows2 ra2 rc2 rs2 bz2 (w4.alloc (.cells #[.slice ta2 rows2.length tc2, .slice ra2 rs2.length rc2, .bool bz2] 41))) := hoh.below ((Below.refl _ _).alloc (Nat.le_refl _) _)
        have HGR := Lib.hid (heap_alloc_new w4 (.cells #[.slice ta2 rows2.length tc2, .slice ra2 rs2.length rc2, .bool bz2] 41))
        have HBN : Hid (Below w.heap.size w (w4.alloc (.cells #[.slice ta2 rows2.length tc2, .slice ra2 rs2.length rc2, .bool bz2] 41))) := HB4.out.alloc HB4.out.size _
        have HROW5 := Lib.hid ((Below.heap_alloc w4 (.cells #[.slice ta2 rows2.length tc2, .slice ra2 rs2.length rc2, .bool bz2] 41) VB (lt_of_block HROW4.out)).trans HROW4.out)
        have hr40 : rows2.length ≤ 40 := by have := HSI.out.1.1.1; simp only [tK_length] at this; exact this
        have HGV : Hid (∃ GB, w4.heap.size = GB) := ⟨_, rfl⟩
        clear hst hoh
        have HRR : Hid (World.there (w4.alloc (.cells #[.slice ta2 rows2.length tc2, .slice ra2 rs2.length rc2, .bool bz2] 41)) VB 0 (#[.slice ta2 rows2.length tc2, .slice ra2 rs2.length rc2, .bool bz2] : Array Value).size) := (by have := there_rowS HROW5.out; exact this)
        have HVF6 : Hid (HVar ((w4.alloc (.cells #[.slice ta2 rows2.length tc2, .slice ra2 rs2.length rc2, .bool bz2] 41)).setCells VB 0 [.slice ta2 rows2.length tc2, .slice ra2 rs2.length rc2, .bool bz2]) VB (tK rows2, rs2, bz2)) := HOH.out.var HROW5.out rfl HVLA.out
        have HBF6 : Hid (Below w.heap.size w ((w4.alloc (.cells #[.slice ta2 rows2.length tc2, .slice ra2 rs2.length rc2, .bool bz2] 41)).setCells VB 0 [.slice ta2 rows2.length tc2, .slice ra2 rs2.length rc2, .bool bz2])) := below_setCells HVW.out [.slice ta2 rows2.length tc2, .slice ra2 rs2.length rc2, .bool bz2] 0 HBN.out
        go_wp2_with (with_reducible refine wpList_store_mid rfl 41 (.tmp 3) (.tmp 30) rfl VB 0 #[.slice ta2 rows2.length tc2, .slice ra2 rs2.length rc2, .bool bz2] rfl rfl HRR.out (HI3.out _ _ _) (HON3.out _ _ _ _ _ _ _) ?_)
        go_roundw
        case rel => exact ⟨i + 1, _, by omega, by go_num, HBF6.out, HVF6.out, HSI.out.1⟩
        case measure => simp [intOf]; omega
    · have m1 : ¬ (i : Int) < (l.length : Int) := by omega
      obtain ⟨h0, hh0⟩ : ∃ h0, h = h0 := ⟨_, rfl⟩
      rw [hh0] at HVR HINV
      clear hh0 hlt hi h
      have HNL : Hid (∃ n, h0.1.length = n) := ⟨_, rfl⟩
      obtain ⟨n, hn⟩ := HNL.out
      have hn40 : n ≤ 40 := by rw [← hn]; exact HINV.out.1.1
      have HFS := Lib.hid (Fst.start HINV.out)
      rw [hn] at HFS
      obtain ⟨ta, tc, rows, ra, rc, hrow, q1, q2, q3, q4, q5⟩ := HVR.out
      have hrl : rows.length = n := by rw [← tK_length, q5]; exact hn
      rw [hrl] at hrow
      have e0 := cell_of_row wr VB 0 _ _ _ hrow
      simp only [List.getElem?_toArray, List.getElem?_cons_zero] at e0
      clear hrow q1 q2 q3 q4 q5 hrl rows hn
      obtain ⟨wo, rfl⟩ : ∃ wo : World, wo = wr := ⟨_, rfl⟩
      have wn1 : IntKind.i64.wrap ((n : Int) + 1) = (n : Int) + 1 := wraps_i64 _ (by omega) (by omega)
      have wn2 : IntKind.i64.wrap ((n : Int) + 2) = (n : Int) + 2 := wraps_i64 _ (by omega) (by omega)
      go_wp2_with fail
      clear e0
      go_loopw [36] (fun jv wr => ∃ (j : Nat) (h : Hp), j ≤ n + 1 ∧ jv = .int .i64 (j : Int) ∧ Below w.heap.size w wr ∧ HVar wr VB h ∧ Fst h n j) (fun jv _ => n + 1 - (intOf jv).toNat)
      case atStart => exact ⟨0, _, by omega, rfl, HBR.out, HVR.out, HFS.out⟩
      case round =>
        obtain ⟨j, h, hj, rfl, hbr, hvr, hfs⟩ := hrel
        have HBR := Lib.hid hbr
        have HVR := Lib.hid hvr
        have HF := Lib.hid hfs
        clear hbr hvr hfs
        obtain ⟨ta, tc, rows, ra, rc, hrow, h1, h2, h3, h4, h5⟩ := HVR.out
        obtain ⟨ts, rs, bz⟩ := h
        simp only at hrow h3 h4 h5
        subst h5
        have HROW := Lib.hid hrow
        have HTA := Lib.hid h1
        have HRT := Lib.hid h3
        have HVL : Hid (VB < wr.heap.size) := lt_of_block hrow
        have d0 := cell_of_row wr VB 0 _ _ _ hrow
        have d1 := cell_of_row wr VB 1 _ _ _ hrow
        have d2 := cell_of_row wr VB 2 _ _ _ hrow
        simp only [List.getElem?_toArray, List.getElem?_cons_zero, List.getElem?_cons_succ] at d0 d1 d2
        clear hrow h1 h3
        have HDO := Lib.hid (do_any ta tc rows ra rc rs bz 1 0 0 wr HTA.out h2 HRT.out h4)
        rw [doF_inv HF.out.1, mark_step] at HDO
        by_cases hlt : j < n + 1
        · have m2 : (j : Int) < (n : Int) + 1 := by omega
          cases bz with
          | false =>
            have HN := Lib.hid (HF.out.idle rfl)
            go_wp2_with fail
            go_roundw
            case rel => exact ⟨j + 1, _, by omega, by go_num, HBR.out, HVR.out, HN.out⟩
            case measure => simp [intOf]; omega
          | true =>
            have HN := Lib.hid (HF.out.next rfl)
            go_wp2_with fail
            refine HDO.out.mono ?_
            rintro e w4 ⟨hb4, H, ta2, tc2, rows2, ra2, rc2, rs2, bz2, hoh, hg, rfl⟩
            have HB4 := Lib.hid (HBR.out.trans (hb4.mono HBR.out.size))
            have HROW4 := Lib.hid ((hb4.block _ (lt_of_block HROW.out)).trans HROW.out)
            have HRR : Hid (World.there w4 VB 0 (#[.slice ta2 rows2.length tc2, .slice ra2 rs2.length rc2, .bool bz2] : Array Value).size) := (by have := there_rowS HROW4.out; exact this)
            have HVF := Lib.hid (hoh.var HROW4.out rfl HVL.out)
            rw [← hg] at HVF
            have HBF : Hid (Below w.heap.size w (w4.setCells VB 0 [.slice ta2 rows2.length tc2, .slice ra2 rs2.length rc2, .bool bz2])) := below_setCells HVW.out [.slice ta2 rows2.length tc2, .slice ra2 rs2.length rc2, .bool bz2] 0 HB4.out
            clear hb4 hoh d0 d1 d2
            go_wp2_with (with_reducible refine wpList_store_mid rfl 41 (.tmp 3) (.tmp 44) rfl VB 0 #[.slice ta2 rows2.length tc2, .slice ra2 rs2.length rc2, .bool bz2] rfl rfl HRR.out (HI3.out _ _ _) (HON3.out _ _ _ _ _ _ _) ?_)
            go_roundw
            case rel => exact ⟨j + 1, _, by omega, by go_num, HBF.out, HVF.out, HN.out⟩
            case measure => simp [intOf]; omega
        · have m2 : ¬ (j : Int) < (n : Int) + 1 := by omega
          have hbz : bz = false := HF.out.done (by omega)
          subst hbz
          have HFR := Lib.hid (Far.start HF.out.1 rfl)
          have hlen : rows.length = n := by rw [← tK_length]; exact HF.out.2.1
          have HLN := Lib.hid hlen
          obtain ⟨h1, hh1⟩ : ∃ h1, ((tK rows, rs, false) : Hp) = h1 := ⟨_, rfl⟩
          have HLN1 : Hid (h1.1.length = n) := by rw [← hh1]; exact HF.out.2.1
          rw [hh1] at HVR HFR
          obtain ⟨wo2, rfl⟩ : ∃ wo2 : World, wo2 = wr := ⟨_, rfl⟩
          clear hlen HDO HROW HTA HRT
          go_wp2_with fail
          clear d0 d1 d2 hh1
          go_loopw [8] (fun mv wr => ∃ (m : Nat) (h : Hp), m ≤ n + 2 ∧ mv = .int .i64 (m : Int) ∧ Below w.heap.size w wr ∧ HVar wr VB h ∧ Far h1 h m) (fun mv _ => n + 2 - (intOf mv).toNat)
          case atStart => exact ⟨0, _, by omega, rfl, HBR.out, HVR.out, HFR.out⟩
          case round =>
            obtain ⟨m, h, hm, rfl, hbr, hvr, hfr⟩ := hrel
            have HBR := Lib.hid hbr
            have HVR := Lib.hid hvr
            have HF := Lib.hid hfr
            clear hbr hvr hfr HLN
            obtain ⟨ta, tc, rows, ra, rc, hrow, h1, h2, h3, h4, h5⟩ := HVR.out
            obtain ⟨ts, rs, bz⟩ := h
            simp only at hrow h3 h4 h5
            subst h5
            have HROW := Lib.hid hrow
            have HTA := Lib.hid h1
            have HRT := Lib.hid h3
            have HVL : Hid (VB < wr.heap.size) := lt_of_block hrow
            have d0 := cell_of_row wr VB 0 _ _ _ hrow
            have d1 := cell_of_row wr VB 1 _ _ _ hrow
            have d2 := cell_of_row wr VB 2 _ _ _ hrow
            simp only [List.getElem?_toArray, List.getElem?_cons_zero, List.getElem?_cons_succ] at d0 d1 d2
            clear hrow h1 h3
            have HDO := Lib.hid (do_any ta tc rows ra rc rs bz 1 0 0 wr HTA.out h2 HRT.out h4)
            rw [doF_inv HF.out.1, mark_step] at HDO
            have hlen : rows.length = n := by rw [← tK_length]; exact HF.out.2.1.trans HLN1.out
            rw [hlen] at d0 HDO
            have HHL := Lib.hid hlen
            clear hlen
            by_cases hgo : m < n + 2 ∧ (m = 0 ∨ bz = true)
            · have m3 : (m : Int) < (n : Int) + 2 := by omega
              have HN := Lib.hid (HF.out.next hgo.2)
              have hm2 := hgo.1
              rcases hgo.2 with rfl | rfl
              · go_wp2_with fail
                refine HDO.out.mono ?_
                rintro e w4 ⟨hb4, H, ta2, tc2, rows2, ra2, rc2, rs2, bz2, hoh, hg, rfl⟩
                have HB4 := Lib.hid (HBR.out.trans (hb4.mono HBR.out.size))
                have HROW4 := Lib.hid ((hb4.block _ (lt_of_block HROW.out)).trans HROW.out)
                have HRR : Hid (World.there w4 VB 0 (#[.slice ta2 rows2.length tc2, .slice ra2 rs2.length rc2, .bool bz2] : Array Value).size) := (by have := there_rowS HROW4.out; exact this)
                have HVF := Lib.hid (hoh.var HROW4.out rfl HVL.out)
                rw [← hg] at HVF
                have HBF : Hid (Below w.heap.size w (w4.setCells VB 0 [.slice ta2 rows2.length tc2, .slice ra2 rs2.length rc2, .bool bz2])) := below_setCells HVW.out [.slice ta2 rows2.length tc2, .slice ra2 rs2.length rc2, .bool bz2] 0 HB4.out
                clear hb4 hoh d0 d1 d2
                go_wp2_with (with_reducible refine wpList_store_mid rfl 41 (.tmp 3) (.tmp 69) rfl VB 0 #[.slice ta2 rows2.length tc2, .slice ra2 rs2.length rc2, .bool bz2] rfl rfl HRR.out (HI3.out _ _ _) (HON3.out _ _ _ _ _ _ _) ?_)
                go_roundw
                case rel => exact ⟨1, _, by omega, rfl, HBF.out, HVF.out, HN.out⟩
                case measure => simp [intOf]
              · by_cases hm0 : m = 0
                · subst hm0
                  go_wp2_with fail
                  refine HDO.out.mono ?_
                  rintro e w4 ⟨hb4, H, ta2, tc2, rows2, ra2, rc2, rs2, bz2, hoh, hg, rfl⟩
                  have HB4 := Lib.hid (HBR.out.trans (hb4.mono HBR.out.size))
                  have HROW4 := Lib.hid ((hb4.block _ (lt_of_block HROW.out)).trans HROW.out)
                  have HRR : Hid (World.there w4 VB 0 (#[.slice ta2 rows2.length tc2, .slice ra2 rs2.length rc2, .bool bz2] : Array Value).size) := (by have := there_rowS HROW4.out; exact this)
                  have HVF := Lib.hid (hoh.var HROW4.out rfl HVL.out)
                  rw [← hg] at HVF
                  have HBF : Hid (Below w.heap.size w (w4.setCells VB 0 [.slice ta2 rows2.length tc2, .slice ra2 rs2.length rc2, .bool bz2])) := below_setCells HVW.out [.slice ta2 rows2.length tc2, .slice ra2 rs2.length rc2, .bool bz2] 0 HB4.out
                  clear hb4 hoh d0 d1 d2
                  go_wp2_with (with_reducible refine wpList_store_mid rfl 41 (.tmp 3) (.tmp 69) rfl VB 0 #[.slice ta2 rows2.length tc2, .slice ra2 rs2.length rc2, .bool bz2] rfl rfl HRR.out (HI3.out _ _ _) (HON3.out _ _ _ _ _ _ _) ?_)
                  go_roundw
                  case rel => exact ⟨1, _, by omega, rfl, HBF.out, HVF.out, HN.out⟩
                  case measure => simp [intOf]
                · have m4 : ((m : Int) == 0) = false := by simp; omega
                  go_wp2_with fail
                  refine HDO.out.mono ?_
                  rintro e w4 ⟨hb4, H, ta2, tc2, rows2, ra2, rc2, rs2, bz2, hoh, hg, rfl⟩
                  have HB4 := Lib.hid (HBR.out.trans (hb4.mono HBR.out.size))
                  have HROW4 := Lib.hid ((hb4.block _ (lt_of_block HROW.out)).trans HROW.out)
                  have HRR : Hid (World.there w4 VB 0 (#[.slice ta2 rows2.length tc2, .slice ra2 rs2.length rc2, .bool bz2] : Array Value).size) := (by have := there_rowS HROW4.out; exact this)
                  have HVF := Lib.hid (hoh.var HROW4.out rfl HVL.out)
                  rw [← hg] at HVF
                  have HBF : Hid (Below w.heap.size w (w4.setCells VB 0 [.slice ta2 rows2.length tc2, .slice ra2 rs2.length rc2, .bool bz2])) := below_setCells HVW.out [.slice ta2 rows2.length tc2, .slice ra2 rs2.length rc2, .bool bz2] 0 HB4.out
                  clear hb4 hoh d0 d1 d2
                  go_wp2_with (with_reducible refine wpList_store_mid rfl 41 (.tmp 3) (.tmp 69) rfl VB 0 #[.slice ta2 rows2.length tc2, .slice ra2 rs2.length rc2, .bool bz2] rfl rfl HRR.out (HI3.out _ _ _) (HON3.out _ _ _ _ _ _ _) ?_)
                  go_roundw
                  case rel => exact ⟨m + 1, _, by omega, by go_num, HBF.out, HVF.out, HN.out⟩
                  case measure => simp [intOf]; omega
            · have hstop : h1.1.length + 2 ≤ m ∨ (m ≠ 0 ∧ bz = false) := by
                rw [HLN1.out]
                by_cases h : m < n + 2
                · right
                  refine ⟨fun h0 => hgo ⟨h, .inl h0⟩, ?_⟩
                  cases bz with
                  | false => rfl
                  | true => exact absurd ⟨h, .inr rfl⟩ hgo
                · left; omega
              have hdone := HF.out.done hstop
              have HFIN := Lib.hid hdone.1
              have hbz : bz = false := hdone.2
              subst hbz
              have HLV := Lib.hid (liveE_any ta tc rows ra rc rs false wr HTA.out h2 HRT.out h4)
              rw [HHL.out] at HLV
              have HTL : Hid ((tK rows).length = rows.length) := tK_length rows
              by_cases hmn : m < n + 2
              · have m3 : (m : Int) < (n : Int) + 2 := by omega
                have hm0 : m ≠ 0 := fun h0 => hgo ⟨hmn, .inl h0⟩
                have m4 : ((m : Int) == 0) = false := by simp; omega
                clear hgo hstop hdone hm0
                go_wp2_with fail
                refine HLV.out.mono ?_
                rintro e w6 ⟨hb6, ⟨hno, _⟩ | ⟨_, gl, o, rfl, _, _, hrowo, hsp⟩⟩
                · exact absurd HF.out.1.1 hno
                have HB6 := Lib.hid (HBR.out.trans (hb6.mono HBR.out.size))
                have HROW6 := Lib.hid ((hb6.block _ (lt_of_block HROW.out)).trans HROW.out)
                have HTA6 := Lib.hid (HTA.out.below hb6)
                have HO6 := Lib.hid hrowo
                have HSP := Lib.hid hsp
                have hkl : (kidsOf (tK rows)).length = (tK rows).length := by simp [kidsOf]
                have HOL : Hid (o.length = n) := by rw [hsp.1, hkl, tK_length]; exact HHL.out
                clear hb6 hrowo hsp hkl d0 d1 d2 HLV
                have d0 := cell_of_row w6 VB 0 _ _ _ HROW6.out
                have d1 := cell_of_row w6 VB 1 _ _ _ HROW6.out
                have d2 := cell_of_row w6 VB 2 _ _ _ HROW6.out
                simp only [List.getElem?_toArray, List.getElem?_cons_zero, List.getElem?_cons_succ] at d0 d1 d2
                rw [HHL.out] at d0
                rw [show (tK rows).length = n from HTL.out.trans HHL.out]
                go_wp2_with fail
                go_loopw [93] (fun jv wq => ∃ j : Nat, j ≤ n ∧ jv = .int .i64 (j : Int) ∧ Below w6.heap.size w6 wq) (fun jv _ => n - (intOf jv).toNat)
                case atStart => exact ⟨0, by omega, rfl, Below.refl _ _⟩
                case round =>
                  obtain ⟨j3, hj3, rfl, hbq⟩ := hrel
                  have HBQ := Lib.hid hbq
                  have HTQ := Lib.hid (HTA6.out.below hbq)
                  have HOQ := Lib.hid ((hbq.block _ (lt_of_block HO6.out)).trans HO6.out)
                  clear hbq d0 d1 d2
                  by_cases hlt3 : j3 < n
                  · have m5 : (j3 : Int) < (n : Int) := by omega
                    have m6 : (0 : Int) ≤ (j3 : Int) := Int.natCast_nonneg _
                    have hjr : j3 < rows.length := by rw [HHL.out]; exact hlt3
                    have htq := tK_get rows j3 hjr
                    obtain ⟨g7, off7, rfl, _, y0, y1, y2⟩ := HTQ.out.1.thg j3 hjr _ rfl
                    generalize rows[j3] = r at *
                    obtain ⟨ka, kc, kids, colr, fr⟩ := r
                    simp only at y0 y1 y2 htq
                    have hba : Below wr.heap.size wr (wr.alloc (.cells #[.slice ka kids.length kc, .int .i64 colr, .bool fr] 47)) := (Below.refl _ _).alloc (Nat.le_refl _) _
                    have HBQ2 := Lib.hid (HBQ.out.trans (hba.mono HBQ.out.size))
                    have hoc := cell_of_row (wr.alloc (.cells #[.slice ka kids.length kc, .int .i64 colr, .bool fr] 47)) gl j3 _ _ _ ((hba.block _ (lt_of_block HOQ.out)).trans HOQ.out)
                    rw [oC_get o j3 (by rw [HOL.out]; exact hlt3)] at hoc
                    have hff := HFIN.out.2 j3 _ htq
                    have hsp2 := HSP.out.2 j3
                    obtain ⟨q, hq⟩ : ∃ q, o.getD j3 false = q := ⟨_, rfl⟩
                    rw [hq] at hoc hsp2
                    have hqf : (fr == q) = false := by
                      simp only at hff
                      cases fr with
                      | false => have := hsp2.2 (hff.1 rfl); rw [this]; rfl
                      | true =>
                        cases q with
                        | false => rfl
                        | true => have := hff.2 (hsp2.1 rfl); cases this
                    clear htq hff hsp2 hq hba
                    cases fr with
                    | false =>
                      cases q with
                      | false => cases hqf
                      | true =>
                        go_wp2_with fail
                        go_region
                        go_wp2_with fail
                        go_roundw
                        case rel => exact ⟨j3 + 1, by omega, by go_num, HBQ2.out.drew⟩
                        case measure => simp [intOf]; omega
                    | true =>
                      cases q with
                      | true => cases hqf
                      | false =>
                        go_wp2_with fail
                        go_region
                        go_wp2_with fail
                        go_roundw
                        case rel => exact ⟨j3 + 1, by omega, by go_num, HBQ2.out.drew⟩
                        case measure => simp [intOf]; omega
                  · have m5 : ¬ (j3 : Int) < (n : Int) := by omega
                    have HBE := Lib.hid (HB6.out.trans (HBQ.out.mono HB6.out.size))
                    go_wp2_with fail
                    go_ret
                    exact ⟨rfl, HBE.out⟩
              · have m3 : ¬ (m : Int) < (n : Int) + 2 := by omega
                clear hgo hstop hdone
                go_wp2_with fail
                refine HLV.out.mono ?_
                rintro e w6 ⟨hb6, ⟨hno, _⟩ | ⟨_, gl, o, rfl, _, _, hrowo, hsp⟩⟩
                · exact absurd HF.out.1.1 hno
                have HB6 := Lib.hid (HBR.out.trans (hb6.mono HBR.out.size))
                have HROW6 := Lib.hid ((hb6.block _ (lt_of_block HROW.out)).trans HROW.out)
                have HTA6 := Lib.hid (HTA.out.below hb6)
                have HO6 := Lib.hid hrowo
                have HSP := Lib.hid hsp
                have hkl : (kidsOf (tK rows)).length = (tK rows).length := by simp [kidsOf]
                have HOL : Hid (o.length = n) := by rw [hsp.1, hkl, tK_length]; exact HHL.out
                clear hb6 hrowo hsp hkl d0 d1 d2 HLV
                have d0 := cell_of_row w6 VB 0 _ _ _ HROW6.out
                have d1 := cell_of_row w6 VB 1 _ _ _ HROW6.out
                have d2 := cell_of_row w6 VB 2 _ _ _ HROW6.out
                simp only [List.getElem?_toArray, List.getElem?_cons_zero, List.getElem?_cons_succ] at d0 d1 d2
                rw [HHL.out] at d0
                rw [show (tK rows).length = n from HTL.out.trans HHL.out]
                go_wp2_with fail
                go_loopw [93] (fun jv wq => ∃ j : Nat, j ≤ n ∧ jv = .int .i64 (j : Int) ∧ Below w6.heap.size w6 wq) (fun jv _ => n - (intOf jv).toNat)
                case atStart => exact ⟨0, by omega, rfl, Below.refl _ _⟩
                case round =>
                  obtain ⟨j3, hj3, rfl, hbq⟩ := hrel
                  have HBQ := Lib.hid hbq
                  have HTQ := Lib.hid (HTA6.out.below hbq)
                  have HOQ := Lib.hid ((hbq.block _ (lt_of_block HO6.out)).trans HO6.out)
                  clear hbq d0 d1 d2
                  by_cases hlt3 : j3 < n
                  · have m5 : (j3 : Int) < (n : Int) := by omega
                    have m6 : (0 : Int) ≤ (j3 : Int) := Int.natCast_nonneg _
                    have hjr : j3 < rows.length := by rw [HHL.out]; exact hlt3
                    have htq := tK_get rows j3 hjr
                    obtain ⟨g7, off7, rfl, _, y0, y1, y2⟩ := HTQ.out.1.thg j3 hjr _ rfl
                    generalize rows[j3] = r at *
                    obtain ⟨ka, kc, kids, colr, fr⟩ := r
                    simp only at y0 y1 y2 htq
                    have hba : Below wr.heap.size wr (wr.alloc (.cells #[.slice ka kids.length kc, .int .i64 colr, .bool fr] 47)) := (Below.refl _ _).alloc (Nat.le_refl _) _
                    have HBQ2 := Lib.hid (HBQ.out.trans (hba.mono HBQ.out.size))
                    have hoc := cell_of_row (wr.alloc (.cells #[.slice ka kids.length kc, .int .i64 colr, .bool fr] 47)) gl j3 _ _ _ ((hba.block _ (lt_of_block HOQ.out)).trans HOQ.out)
                    rw [oC_get o j3 (by rw [HOL.out]; exact hlt3)] at hoc
                    have hff := HFIN.out.2 j3 _ htq
                    have hsp2 := HSP.out.2 j3
                    obtain ⟨q, hq⟩ : ∃ q, o.getD j3 false = q := ⟨_, rfl⟩
                    rw [hq] at hoc hsp2
                    have hqf : (fr == q) = false := by
                      simp only at hff
                      cases fr with
                      | false => have := hsp2.2 (hff.1 rfl); rw [this]; rfl
                      | true =>
                        cases q with
                        | false => rfl
                        | true => have := hff.2 (hsp2.1 rfl); cases this
                    clear htq hff hsp2 hq hba
                    cases fr with
                    | false =>
                      cases q with
                      | false => cases hqf
                      | true =>
                        go_wp2_with fail
                        go_region
                        go_wp2_with fail
                        go_roundw
                        case rel => exact ⟨j3 + 1, by omega, by go_num, HBQ2.out.drew⟩
                        case measure => simp [intOf]; omega
                    | true =>
                      cases q with
                      | true => cases hqf
                      | false =>
                        go_wp2_with fail
                        go_region
                        go_wp2_with fail
                        go_roundw
                        case rel => exact ⟨j3 + 1, by omega, by go_num, HBQ2.out.drew⟩
                        case measure => simp [intOf]; omega
                  · have m5 : ¬ (j3 : Int) < (n : Int) := by omega
                    have HBE := Lib.hid (HB6.out.trans (HBQ.out.mono HB6.out.size))
                    go_wp2_with fail
                    go_ret
                    exact ⟨rfl, HBE.out⟩
end Go.Proofs.Ytgoocmocdimnoaa
