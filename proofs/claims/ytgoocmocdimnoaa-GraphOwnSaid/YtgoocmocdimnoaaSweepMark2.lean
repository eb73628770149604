/- The walk of sweep's mark while marking goes on. -/
import Derived.Test.YtgoocmocdimnoaaSweepMark
import Derived.Test.YtgoocmocdimnoaaSweepPlain2
namespace Go.Proofs.Ytgoocmocdimnoaa
open Go.RowKit Plain
set_option linter.unusedVariables false
section
variable {base H g n : Nat} {ta : Option Addr} {tc : Nat} {rows : List TRow} {ts : List Thg} {ra : Option Addr} {rc : Nat} {rs : List Int} {bz : Bool} {w w' : World}
theorem OHC.at2 (h : OHC base H (some ⟨g, 0, none⟩) tc rows ts ra rc rs bz w) (i : Nat) (hi : i < rows.length) (t : Thg) (ht : ts[i]? = some t) :
    w.cell? ⟨g, i * 3, none⟩ = some (.slice rows[i].1 t.1.length rows[i].2.1) ∧ w.cell? ⟨g, i * 3 + 1, none⟩ = some (.int .i64 t.2.1) ∧ w.cell? ⟨g, i * 3 + 2, none⟩ = some (.bool t.2.2) ∧ (∀ j, w.frozen? ⟨g, j, none⟩ = false) ∧ SAt 1 iC w rows[i].1 t.1 := by
  obtain ⟨vows, h1, h2, h3⟩ := h
  have hl := sl_len h2
  have e : vows[i].2.2 = t := by
    have := tK_get vows i (by omega)
    rw [h3, ht] at this
    injection this with this
    exact this.symm
  have es : (vows[i].1, vows[i].2.1) = (rows[i].1, rows[i].2.1) := by
    have e1 : (sl vows)[i]? = some (vows[i].1, vows[i].2.1) := by simp [sl, show i < vows.length by omega]
    have e2 : (sl rows)[i]? = some (rows[i].1, rows[i].2.1) := by simp [sl, hi]
    rw [h2, e2] at e1
    injection e1 with e1
    exact e1.symm
  injection es with es1 es2
  obtain ⟨g', e1, e2, _, _, c0, c1, c2, hf⟩ := h1.thing i (by omega) _ rfl
  injection e1 with e1
  injection e1 with e1
  subst e1
  have hs := (h1.tat.2 vows[i] (List.getElem_mem (by omega))).1
  rw [e, es1] at hs
  rw [e, es1, es2] at c0
  rw [e] at c1 c2
  exact ⟨c0, c1, c2, hf, hs⟩
theorem OHC.one (h : OHC base H ta tc rows ts ra rc rs bz w) (i : Nat) (hi : i < rows.length) : ∃ g, ta = some ⟨g, 0, none⟩ ∧ base ≤ g := by
  obtain ⟨g, a, c, e, h1, _⟩ := h.at i ts[i]! (by rw [getElem!_pos ts i (by rw [h.len]; exact hi)]; exact List.getElem?_eq_getElem _)
  exact ⟨g, e, h1⟩
end
set_option maxRecDepth 100000 in
set_option maxHeartbeats 2000000 in
theorem mark_grey (base H : Nat) (ta : Option Addr) (tc : Nat) (rows : List TRow) (ra : Option Addr) (rc : Nat) (rs : List Int) (w : World) (h : OH base H ta tc rows ra rc rs true w) (hok : HOk (tK rows, rs, true)) (i : Nat) (hg : greyAt (tK rows) = some i) :
    Calls Try.prog 55 #[.pointer (some ⟨H, 0, none⟩)] w (MkEnd base H (markF (tK rows, rs, true)) w) := by
  have h40 : rows.length ≤ 40 := by have := hok.1; rwa [show (tK rows, rs, true).1 = tK rows from rfl, tK_length] at this
  have HLN := Lib.hid (tK_length rows)
  have HIX := Lib.hid (greyAt_any ta tc rows w h.sat (by omega))
  rw [hg] at HIX
  obtain ⟨t, ht, h1⟩ := grey_some hg
  have hi : i < rows.length := by rw [← tK_length rows]; exact (List.getElem?_eq_some_iff.1 ht).1
  have hokt := hok.thing ht
  have HTH : Hid (∀ k ∈ t.1, There (tK rows) k) := hokt.2.2.2.2
  have hkl : t.1.length ≤ 64 := hokt.1
  have hfr : t.2.2 = false := by
    cases hf : t.2.2 with
    | false => rfl
    | true => have := (hokt.2.2.2.1 hf).2; rw [h1] at this; cases this
  have HMF : Hid (markF (tK rows, rs, true) = (t.1.foldl (shade true) ((tK rows).set i (t.1, 2, t.2.2)), rs, true)) := by
    show _ = _
    have e1 : (kidsOf (tK rows)).getD i [] = t.1 := by
      unfold kidsOf
      rw [List.getD_eq_getElem?_getD, List.getElem?_map, ht]
      rfl
    unfold markF
    simp only [hg, e1, paint_set ht]
  have HTS : Hid (∀ k ∈ t.1, There ((tK rows).set i (t.1, 2, t.2.2)) k) := fun k hk => set_there (by exact hfr) (HTH.out k hk)
  have HUP : Hid (∀ j, ∃ u, ((t.1.take j).foldl (shade true) ((tK rows).set i (t.1, 2, t.2.2)))[i]? = some u ∧ u.1 = t.1) := fun j => by
    obtain ⟨up, _⟩ := shades_up (t.1.take j) _ (fun k hk => HTS.out k (List.mem_of_mem_take hk))
    obtain ⟨u, hu, e, _⟩ := up.2 i _ (List.getElem?_set_self (List.getElem?_eq_some_iff.1 ht).1)
    exact ⟨u, hu, e⟩
  have HO := Lib.hid (OHC.start h)
  have hB := HO.out.h1
  have a0 := HO.out.x0
  have a2 := HO.out.x2
  have hsz := HO.out.size
  have HT := Lib.hid ht
  clear h hok hokt hg ht h1 hfr
  go_enter Try.func55, Try.ntmps55
  go_wp2_with fail
  refine HIX.out.mono ?_
  rintro e w1 ⟨hb, rfl, _⟩
  have HB1 := Lib.hid (hb.mono hsz)
  have HO1 := Lib.hid (HO.out.below hb)
  clear hb HIX a0 a2
  obtain ⟨g, rfl, hgb⟩ := HO1.out.one i hi
  obtain ⟨c0, c1, c2, hf, _⟩ := HO1.out.at2 i hi t HT.out
  have f1 := hf (i * 3 + 1)
  have HN := Lib.hid (HO1.out.colour i t HT.out 2)
  obtain ⟨d0, _, _, _, _⟩ := HN.out.at2 i hi (t.1, 2, t.2.2) (List.getElem?_set_self (List.getElem?_eq_some_iff.1 HT.out).1)
  have y0 := HO1.out.x0
  have z0 := HN.out.x0
  have HB2 := Lib.hid (HB1.out.setCell (p := ⟨g, i * 3 + 1, none⟩) hgb (.int .i64 2))
  have m0 : (0 : Int) ≤ (i : Int) := Int.natCast_nonneg _
  have m1 : (i : Int) < (rows.length : Int) := by omega
  simp only at d0
  have HRI : Hid (∃ r, rows[i] = r) := ⟨_, rfl⟩
  clear c0 c2 hf
  go_wp2_with fail
  go_loopw [83] (fun iv wr => ∃ j : Nat, j ≤ t.1.length ∧ iv = .int .i64 (j : Int) ∧ Below base w wr ∧ OHC base H (some ⟨g, 0, none⟩) tc rows ((t.1.take j).foldl (shade true) ((tK rows).set i (t.1, 2, t.2.2))) ra rc rs true wr) (fun iv _ => t.1.length - (intOf iv).toNat)
  case atStart => exact ⟨0, by omega, rfl, HB2.out, HN.out⟩
  case round =>
    obtain ⟨j, hj, rfl, hbr, ho⟩ := hrel
    have HBR := Lib.hid hbr
    have HOR := Lib.hid ho
    clear hbr ho c1 f1 d0 y0 z0
    by_cases hlt : j < t.1.length
    · have m2 : (j : Int) < (t.1.length : Int) := by omega
      obtain ⟨u, hu, hu1⟩ := HUP.out j
      have hsat := (HOR.out.at2 i hi u hu).2.2.2.2
      rw [hu1] at hsat
      obtain ⟨gk, off, hra, _, hrc⟩ := hsat.int j hlt
      have HTQ : Hid (t.1.take (j + 1) = t.1.take j ++ [t.1[j]]) := List.take_succ_eq_append_getElem hlt
      have hkk := HTH.out t.1[j] (List.getElem_mem hlt)
      generalize t.1[j] = k at *
      obtain ⟨hk0, tk, htk, _⟩ := hkk
      obtain ⟨kn, rfl⟩ := Int.eq_ofNat_of_zero_le hk0
      rw [Int.toNat_natCast] at htk
      have hk1 : kn < rows.length := by rw [← HLN.out]; exact (List.getElem?_eq_some_iff.1 htk).1
      have HQ : Hid ((t.1.take (j + 1)).foldl (shade true) ((tK rows).set i (t.1, 2, t.2.2)) = shade true ((t.1.take j).foldl (shade true) ((tK rows).set i (t.1, 2, t.2.2))) (kn : Int)) := by
        show _ = _
        rw [HTQ.out, List.foldl_append]
        rfl
      obtain ⟨vows, v1, v2, v3⟩ := HOR.out
      have HV := Lib.hid v1
      have HV2 := Lib.hid v2
      have HSH := Lib.hid (shade_any base H _ tc vows ra rc rs true kn wr v1 (by rw [sl_len v2]; exact hk1) (by rw [sl_len v2]; omega))
      rw [v3] at HSH
      rw [hra]
      clear v1 v2 v3 htk hu hu1 hsat hk0 hra
      go_wp2_with fail
      refine HSH.out.mono ?_
      rintro e w3 ⟨rfl, ⟨v4, k1, k2, k3⟩, hb⟩
      have HB3 := Lib.hid (HBR.out.trans hb)
      have HN3 : Hid (OHC base H (some ⟨g, 0, none⟩) tc rows ((t.1.take (j + 1)).foldl (shade true) ((tK rows).set i (t.1, 2, t.2.2))) ra rc rs true w3) := ⟨v4, k1, k2.trans HV2.out, by rw [HQ.out]; exact k3⟩
      clear k1 k2 k3 hb
      go_wp2_with fail
      go_roundw
      case rel => exact ⟨j + 1, by omega, by go_num, HB3.out, HN3.out⟩
      case measure => simp [intOf]; omega
    · have m2 : ¬ (j : Int) < (t.1.length : Int) := by omega
      have HF : Hid (OHC base H (some ⟨g, 0, none⟩) tc rows (t.1.foldl (shade true) ((tK rows).set i (t.1, 2, t.2.2))) ra rc rs true wr) := by
        have := HOR.out
        rwa [List.take_of_length_le (by omega)] at this
      go_wp2_with fail
      go_end0
      obtain ⟨vows, v1, v2, v3⟩ := HF.out
      exact ⟨rfl, HBR.out, _, _, _, _, _, _, _, v1, by rw [HMF.out, v3]⟩
set_option maxRecDepth 100000 in
set_option maxHeartbeats 2000000 in
theorem mark_end (base H : Nat) (ta : Option Addr) (tc : Nat) (rows : List TRow) (ra : Option Addr) (rc : Nat) (rs : List Int) (w : World) (h : OH base H ta tc rows ra rc rs true w) (hok : HOk (tK rows, rs, true)) (hg : greyAt (tK rows) = none) :
    Calls Try.prog 55 #[.pointer (some ⟨H, 0, none⟩)] w (MkEnd base H (markF (tK rows, rs, true)) w) := by
  have h40 : rows.length ≤ 40 := by have := hok.1; rwa [show (tK rows, rs, true).1 = tK rows from rfl, tK_length] at this
  have HSN : Hid ((Try.prog.info? 47).map (·.size) = some (#[.slice none 0 0, .int .i64 0, .bool true] : Array Value).size) := by show _ = _; kernel_rfl
  have HON : Hid ((#[.slice none 0 0, .int .i64 0, .bool true] : Array Value).all (·.oneCell') = true) := by show _ = _; simp [Value.oneCell']
  have HLN := Lib.hid (tK_length rows)
  have HIX := Lib.hid (greyAt_any ta tc rows w h.sat (by omega))
  rw [hg] at HIX
  have HMF := Lib.hid (sweep_eq (rs := rs) hg)
  have HO := Lib.hid (OHC.start h)
  have hB := HO.out.h1
  have a0 := HO.out.x0
  have a2 := HO.out.x2
  have hsz := HO.out.size
  clear h hok hg
  go_enter Try.func55, Try.ntmps55
  go_wp2_with fail
  refine HIX.out.mono ?_
  rintro e w1 ⟨hb, rfl⟩
  have HB1 := Lib.hid (hb.mono hsz)
  have HO1 := Lib.hid (HO.out.below hb)
  have y0 := HO1.out.x0
  clear hb HIX a0 a2
  go_wp2_with fail
  go_loopw [97] (fun iv wr => ∃ i : Nat, i ≤ rows.length ∧ iv = .int .i64 (i : Int) ∧ Below base w wr ∧ OHT base H ta tc rows.length (upTo sweepT (tK rows) i) ra rc rs true wr) (fun iv _ => rows.length - (intOf iv).toNat)
  case atStart => exact ⟨0, by omega, rfl, HB1.out, by rw [upTo_zero]; exact HO1.out.oht⟩
  case round =>
    obtain ⟨i, hi, rfl, hbr, ho⟩ := hrel
    obtain ⟨vows, hvl, hoc⟩ := ho.ohc
    have HBR := Lib.hid hbr
    have HOT := Lib.hid ho
    have HOR := Lib.hid hoc
    clear hbr ho hoc y0
    by_cases hlt : i < rows.length
    · have m1 : (i : Int) < (rows.length : Int) := by omega
      have m0 : (0 : Int) ≤ (i : Int) := Int.natCast_nonneg _
      have HTK : Hid ((tK rows)[i]? = some rows[i].2.2) := tK_get rows i hlt
      generalize rows[i].2.2 = t at *
      have HPG : Hid ((upTo sweepT (tK rows) i)[i]? = some t) := by show _ = _; rw [upTo_get _ _ _ (by rw [HLN.out]; exact hlt)]; exact HTK.out
      have HPS := Lib.hid (upTo_set sweepT (tK rows) i t HTK.out)
      obtain ⟨g, a, c, rfl, hg, c0, c1, c2, hf, _⟩ := HOR.out.at i t HPG.out
      have x0 := HOR.out.x0
      rw [hvl] at x0
      have f1 := hf (i * 3 + 1)
      by_cases hc : t.2.1 = 0
      · have HTR : Hid (wr.there g (i * 3) (#[.slice none 0 0, .int .i64 0, .bool true] : Array Value).size) := HOR.out.there i (by omega)
        have HSW : Hid (sweepT t = ([], 0, true)) := by show _ = _; unfold sweepT; rw [if_pos hc]
        rw [HSW.out] at HPS
        have HN := Lib.hid (HOT.out.put i hlt true)
        rw [HPS.out] at HN
        have HB' := Lib.hid (HBR.out.trans (below_setCells hg [.slice none 0 0, .int .i64 0, .bool true] (i * 3) (Below.refl base wr)))
        rw [hc] at c1
        clear hf c0 c2 hc
        go_wp2_with (with_reducible refine wpList_store_mid rfl 47 (.tmp 114) (.tmp 113) rfl g (i * 3) #[.slice none 0 0, .int .i64 0, .bool true] rfl rfl HTR.out HSN.out HON.out ?_)
        go_roundw
        case rel => exact ⟨i + 1, by omega, by go_num, HB'.out, HN.out⟩
        case measure => simp [intOf]; omega
      · have hc2 : (t.2.1 == 0) = false := by simpa using hc
        have HSW : Hid (sweepT t = (t.1, 0, t.2.2)) := by show _ = _; unfold sweepT; rw [if_neg hc]
        rw [HSW.out] at HPS
        have HN := Lib.hid (HOR.out.colour i t HPG.out 0).oht
        rw [HPS.out, hvl] at HN
        have HB' := Lib.hid (HBR.out.setCell (p := ⟨g, i * 3 + 1, none⟩) hg (.int .i64 0))
        clear hf c0 c2
        go_wp2_with fail
        go_roundw
        case rel => exact ⟨i + 1, by omega, by go_num, HB'.out, HN.out⟩
        case measure => simp [intOf]; omega
    · have m1 : ¬ (i : Int) < (rows.length : Int) := by omega
      obtain ⟨v2, k1, k2, k3⟩ := HOT.out
      have x2 := k1.h2
      have f2 := k1.fz 2
      have HN := Lib.hid (k1.busy false)
      have HK3 : Hid (tK v2 = (tK rows).map sweepT) := by show _ = _; rw [k3, upTo_all _ _ _ (by rw [HLN.out]; omega)]
      have HB' := Lib.hid (HBR.out.setCell (p := ⟨H, 2, none⟩) hB (.bool false))
      clear k1 k2 k3
      go_wp2_with fail
      go_end0
      exact ⟨rfl, HB'.out, _, _, _, _, _, _, _, HN.out, by rw [HMF.out, HK3.out]⟩
theorem mark_any (base H : Nat) (ta : Option Addr) (tc : Nat) (rows : List TRow) (ra : Option Addr) (rc : Nat) (rs : List Int) (bz : Bool) (w : World) (h : OH base H ta tc rows ra rc rs bz w) (hok : HOk (tK rows, rs, bz)) :
    Calls Try.prog 55 #[.pointer (some ⟨H, 0, none⟩)] w (MkEnd base H (markF (tK rows, rs, bz)) w) := by
  cases bz with
  | false => exact mark_idle base H ta tc rows ra rc rs w h hok
  | true =>
    cases hg : greyAt (tK rows) with
    | some i => exact mark_grey base H ta tc rows ra rc rs w h hok i hg
    | none => exact mark_end base H ta tc rows ra rc rs w h hok hg
end Go.Proofs.Ytgoocmocdimnoaa
