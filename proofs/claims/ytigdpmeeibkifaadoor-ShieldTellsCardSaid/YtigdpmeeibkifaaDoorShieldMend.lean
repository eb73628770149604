/- shield.Mend. -/
import Derived.Test.YtigdpmeeibkifaaDoorShieldMend0
import Derived.Test.YtigdpmeeibkifaaDoorShieldInv
namespace Go.Proofs.YtigdpmeeibkifaaDoor
open Go.RowKit Plain
set_option linter.unusedVariables false
set_option linter.unusedSimpArgs false
set_option maxRecDepth 100000 in
set_option maxHeartbeats 8000000 in
theorem mend_any (a : Option Addr) (cap : Nat) (l : List ShT) (m : Int) (w : World) (hS : SAt 2 shC w a l) (hl : l.length ≤ 9223372036854775807) (hm : I64 m) :
    Calls Tryd.prog 13 #[.slice a l.length cap, .int .i64 m] w (MdEnd l m w) := by
  obtain ⟨iR, hiR, hzR, hyR, hbR⟩ := info_parts info_rowS
  obtain ⟨iS, hiS, hzS, hyS, hbS⟩ := info_parts info_str
  have HS := Lib.hid hS
  have HCK := Lib.hid (check_any a cap l m w hS hl hm)
  clear hS
  go_enter Tryd.func13, Tryd.ntmps13
  go_wp2_with fail
  refine HCK.out.mono ?_
  rintro e w1 ⟨hb1, ⟨pa, pc, rfl, hA, hP, hn, hown⟩ | ⟨c, rfl, hbad⟩⟩
  · obtain ⟨n, rfl⟩ : ∃ n : Nat, m = (n : Int) := ⟨m.toNat, by have := hA.1; omega⟩
    have HB1 := Lib.hid hb1
    have HA := Lib.hid hA
    have HP := Lib.hid hP
    have hn' : n ≤ (pres l).length := by omega
    have HNP := Lib.hid hn'
    have hn1 : 1 ≤ n := by have := hA.1; omega
    have hn16 : n ≤ 16 := by have := hA.2.1; omega
    have hl8 : l.length ≤ n + 8 := by have := hA.2.2.2; omega
    have hpcap := (own_capK hown).1
    have HSP := Lib.hid (sat_own1 (c := piC) (fun _ => rfl) hown)
    have HS1 := Lib.hid (HS.out.below hb1)
    obtain ⟨pg, po, rfl, hpg, hpx⟩ := SAt.cellS (c := piC) (fun k => .int .i64 (k : Int)) (fun _ => rfl) HSP.out 0 (by omega) _ rfl
    have z0 : (0 : Int) ≤ (n : Int) := by omega
    have zc : (n : Int) ≤ (pc : Int) := by omega
    clear hpg hpx hb1 hA hP hn hown hn' HCK HS
    go_wp2_with fail
    go_loopw [8, 9, 28] (fun rv tv jv wr => ∃ (j : Nat) (ids : Nat → Nat) (ra : Option Addr) (rc : Nat) (ta : Option Addr) (tc : Nat), j ≤ n ∧ jv = .int .i64 (j : Int) ∧ rv = .slice ra j rc ∧ tv = .slice ta j tc ∧ MR w1.heap.size n j (prs l) (txs l j) ids ra rc ta tc wr ∧ Below w1.heap.size w1 wr) (fun _ _ jv _ => n - (intOf jv).toNat)
    case atStart => exact ⟨0, _, none, 0, none, 0, by omega, rfl, rfl, rfl, MR.start _ _ _ _, Below.refl _ _⟩
    case round =>
      obtain ⟨j, ids, ra, rc, ta, tc, hj, rfl, rfl, rfl, hmr, hbw⟩ := hrel
      have HMR := Lib.hid hmr
      have HBW := Lib.hid hbw
      clear hmr hbw
      by_cases hjn : j < n
      · have j1 : (j : Int) < (n : Int) := by omega
        have j0 : (0 : Int) ≤ (j : Int) := by omega
        have hjp : j < (pres l).length := Nat.lt_of_lt_of_le hjn HNP.out
        obtain ⟨g', o', hgg, hgl, hcp⟩ := SAt.cellS (c := piC) (fun k => .int .i64 (k : Int)) (fun _ => rfl) (HSP.out.below HBW.out) j hjp (prs l j) (prs_get hjp).symm
        obtain ⟨rfl, rfl⟩ : g' = pg ∧ o' = po := by
          simp only [Option.some.injEq, Addr.mk.injEq, and_true] at hgg
          exact ⟨hgg.1.symm, hgg.2.symm⟩
        have hql := prs_lt hjp
        have HRW := Lib.hid fun (W : World) => row_any (prs l j) n W hn16 (by omega)
        have HTS := Lib.hid (txs_succ l j)
        obtain ⟨sh, hsh⟩ : ∃ sh, l[prs l j]'hql = sh := ⟨_, rfl⟩
        have HSG : Hid (shG l (prs l j) = sh) := Lib.hid (by rw [shG_get hql, hsh])
        have HCS := Lib.hid fun (W : World) (hb : Below w1.heap.size w1 W) => (HS1.out.below hb).shard (prs l j) hql sh hsh
        obtain ⟨q, hq⟩ : ∃ q, prs l j = q := ⟨_, rfl⟩
        rw [hq] at hcp hql HCS
        have HQ := Lib.hid hq
        clear hgg hgl hsh
        rw [hq] at HRW
        clear hq
        have q1 : (q : Int) < (l.length : Int) := by omega
        have q0 : (0 : Int) ≤ (q : Int) := by omega
        go_wp2_with fail
        refine (HRW.out _).mono ?_
        rintro e w2 ⟨hb2, B, rfl, hB, hrow⟩
        have HM2 := Lib.hid (HMR.out.below hb2)
        have HB2 := Lib.hid (Below.step HBW.out hb2)
        have HNE : Hid (∀ r, r < j → ids r ≠ B) := Lib.hid fun r hr e => by have := (HMR.out.rows r hr).lt; omega
        have HBB : Hid (w1.heap.size ≤ B) := Lib.hid (Nat.le_trans HBW.out.size hB)
        have HRB : Hid (BRow w2 5 B (mapr n (rowF n (prs l j)))) := Lib.hid (by rw [HQ.out]; exact hrow)
        have D1 := Lib.hid (cells_new_at w2 w2.heap.size rfl #[.slice (some ⟨B, 0, none⟩) n n] 34 [.slice (some ⟨B, 0, none⟩) n n] rfl)
        have D2 : Hid (∀ u ∈ [Value.slice (some ⟨B, 0, none⟩) n n], u.oneCell' = true) := fun u hu => by simp only [List.mem_singleton] at hu; subst hu; rfl
        have D3 : Hid (j + 1 ≤ maxLen) := by show _ ≤ _; unfold maxLen; omega
        have D4 : Hid ((j + 1) * 24 ≤ 140737488355328) := by show _ ≤ _; omega
        have D5 : Hid (w1.heap.size ≤ (w2.alloc (.cells #[.slice (some ⟨B, 0, none⟩) n n] 34)).heap.size) := by show _ ≤ _; have := HB2.out.size; simp; omega
        have HM2a := Lib.hid (HM2.out.below ((Below.refl w2.heap.size w2).alloc (Nat.le_refl _) (.cells #[.slice (some ⟨B, 0, none⟩) n n] 34)))
        have HRBa := Lib.hid (HRB.out.below ((Below.refl w2.heap.size w2).alloc (Nat.le_refl _) (.cells #[.slice (some ⟨B, 0, none⟩) n n] 34)))
        clear hb2 hB hrow HMR HRW HBW
        go_wp2_with (at_builtin; refine wpList_append_own _ rfl _ _ 49 rfl w1.heap.size 34 iR (.slice none 0 0) 1 24 Tryd.underlying49 hiR hzR hyR hbR rfl (by decide) _ _ _ rfl (HM2.out.ro.alloc _) ⟨w2.heap.size, 0, none⟩ 1 1 [.slice (some ⟨B, 0, none⟩) n n] rfl rfl D1.out D2.out D3.out D4.out D5.out ?_)
        intro v' w3 hown' hgrow _
        have BW3 := Lib.hid (below_own (HB2.out.alloc HB2.out.size (.cells #[.slice (some ⟨B, 0, none⟩) n n] 34)) hgrow D5.out (HM2.out.ro.alloc _) (Nat.le_refl _))
        obtain ⟨ra2, rc2, rfl⟩ := own_form' hown'
        have HM3 := Lib.hid (HM2a.out.addRow HRBa.out HNE.out HBB.out hown' hgrow)
        clear hown' hgrow HM2 HM2a HRBa HRB HNE HBB D1 D2 D3 D4 D5 HB2
        obtain ⟨g9, o9, rfl, hg9, b0, b1⟩ := HCS.out w3 BW3.out
        have hto : w3.ownsRow w1.heap.size 9 1 (.slice ta j tc) j ((txs l j).flatMap sC) := by have := HM3.out.to; rwa [txs_length] at this
        have HTO := Lib.hid hto
        have E1 := Lib.hid (cells_new_at w3 w3.heap.size rfl #[.string sh.2] 9 (sC sh.2) rfl)
        have E2 : Hid (∀ u ∈ sC sh.2, u.oneCell' = true) := fun u hu => sC_one _ u hu
        have E3 : Hid (j + 1 ≤ maxLen) := by show _ ≤ _; unfold maxLen; omega
        have E4 : Hid ((j + 1) * 16 ≤ 140737488355328) := by show _ ≤ _; omega
        have E5 : Hid (w1.heap.size ≤ (w3.alloc (.cells #[.string sh.2] 9)).heap.size) := by show _ ≤ _; have := BW3.out.size; simp; omega
        have HM3a := Lib.hid (HM3.out.below ((Below.refl w3.heap.size w3).alloc (Nat.le_refl _) (.cells #[.string sh.2] 9)))
        clear hto HCS hg9
        go_wp2_with (at_builtin; refine wpList_append_own _ rfl _ _ 22 rfl w1.heap.size 9 iS (.string ⟨#[]⟩) 1 16 Tryd.underlying22 hiS hzS hyS hbS rfl (by decide) _ _ _ rfl (HTO.out.alloc _) ⟨w3.heap.size, 0, none⟩ 1 1 (sC sh.2) rfl rfl E1.out E2.out E3.out E4.out E5.out ?_)
        intro v' w4 hown' hgrow _
        have BW4 := Lib.hid (below_own (BW3.out.alloc BW3.out.size (.cells #[.string sh.2] 9)) hgrow E5.out (HTO.out.alloc _) (Nat.le_refl _))
        obtain ⟨ta2, tc2, rfl⟩ := own_form' hown'
        have HM4 : Hid (MR w1.heap.size n (j + 1) (prs l) (txs l (j + 1)) (fun r => if r = j then B else ids r) ra2 rc2 ta2 tc2 w4) := Lib.hid (by
          refine HM3a.out.addText ?_ ?_
          · rw [txs_length, HTS.out, sCs_snoc, HSG.out]
            exact hown'
          · rw [txs_length]
            exact hgrow)
        clear hown' hgrow HM3 HM3a HTO E1 E2 E3 E4 E5
        go_wp2_with fail
        go_roundw
        case rel => exact ⟨j + 1, _, ra2, rc2, ta2, tc2, by omega, by go_num, rfl, rfl, HM4.out, BW4.out⟩
        case measure => simp [intOf]; omega
      · have j1 : ¬ (j : Int) < (n : Int) := by omega
        have hje : j = n := by omega
        rw [hje] at HMR
        clear hj hjn
        subst hje
        obtain ⟨A, rfl, hA1, hmat⟩ := HMR.out.mat hn1
        have HIV := Lib.hid (inverse_any w1.heap.size A 0 j rc ids _ wr hn1 hn16 hmat hA1 HMR.out.lo HBW.out.size (fun r => rowF_byt j (prs l r)) (mend_ns HA.out HNP.out))
        have hto : wr.ownsRow w1.heap.size 9 1 (.slice ta j tc) j ((txs l j).flatMap sC) := by have := HMR.out.to; rwa [txs_length] at this
        have HTO := Lib.hid hto
        have HTX := Lib.hid (txs_size HP.out HNP.out)
        clear hto hmat
        go_wp2_with fail
        refine HIV.out.mono ?_
        rintro e w5 ⟨hb5, hk5, O, idO, N, rfl, hmat, hbn, hnsn, hinv⟩
        have HMD : Hid (Mended l j N) := Lib.hid ⟨hbn, hnsn, hinv⟩
        have HMT := Lib.hid hmat
        have hto5 : w5.ownsRow w1.heap.size 9 1 (.slice ta j tc) j ((txs l j).flatMap sC) := own_keep HTO.out fun g cs hcs _ => hk5.2 g cs _ _ hcs (by decide) (by decide)
        have htl : w5.ownsRow w1.heap.size 9 1 (.slice ta (txs l j).length tc) (txs l j).length ((txs l j).flatMap sC) := by rw [txs_length]; exact hto5
        have HSX := Lib.hid (sat_own1 (c := sC) (fun _ => rfl) htl)
        have HB5 : Hid (Below w.heap.size w w5) := Lib.hid (Below.trans (Below.step HB1.out HBW.out) (hb5.mono HB1.out.size))
        obtain ⟨tg, tq, rfl, htx⟩ := str_cell HSX.out 0 (by rw [txs_length]; omega)
        clear htx hb5 hk5 hmat hbn hnsn hinv hto5 htl HIV HTO HMR HBW HS1 HSP
        go_wp2_with fail
        go_loopw [12, 50] (fun ov rv wr => ∃ (r : Nat) (oa : Option Addr) (oc : Nat), r ≤ j ∧ rv = .int .i64 (r : Int) ∧ ov = .slice oa r oc ∧ Below w5.heap.size w5 wr ∧ wr.ownsRow w5.heap.size 9 1 (.slice oa r oc) r ((outsM l j N r).flatMap sC)) (fun _ rv _ => j - (intOf rv).toNat)
        case atStart => exact ⟨0, none, 0, by omega, rfl, rfl, Below.refl _ _, World.ownsRow_nil _ _ _ _⟩
        case round =>
          obtain ⟨r, oa, oc, hr, rfl, rfl, hbr, hor⟩ := hrel
          have HBR := Lib.hid hbr
          have HOR := Lib.hid hor
          clear hbr hor
          by_cases hrj : r < j
          · have r1 : (r : Int) < (j : Int) := by omega
            have r0 : (0 : Int) ≤ (r : Int) := by omega
            have j0 : (0 : Int) < (j : Int) := by omega
            have cO := (HMT.out.below HBR.out).cell hrj
            simp only [Nat.zero_add] at cO
            have hrowN := (HMT.out.below HBR.out).rows r hrj
            obtain ⟨g', o', hgg, ht0⟩ := str_cell (HSX.out.below HBR.out) 0 (by rw [txs_length]; omega)
            obtain ⟨rfl, rfl⟩ : g' = tg ∧ o' = tq := by
              simp only [Option.some.injEq, Addr.mk.injEq, and_true] at hgg
              exact ⟨hgg.1.symm, hgg.2.symm⟩
            have hs0 := HTX.out ((txs l j)[0]'(by rw [txs_length]; omega)) (List.getElem_mem _)
            obtain ⟨s0, hs0e⟩ : ∃ s, (txs l j)[0]'(by rw [txs_length]; omega) = s := ⟨_, rfl⟩
            rw [hs0e] at ht0 hs0
            simp only [Nat.add_zero] at ht0
            have hL : szS l (first0 l) ≤ 4096 := by
              have h0 : 0 < (pres l).length := by have := HNP.out; omega
              have := HP.out (prs l 0) (prs_mem h0)
              omega
            have HCB := Lib.hid (combine_any (idO r) j (szS l (first0 l)) (N r) (some ⟨g', o', none⟩) tc (txs l j) wr hrowN (HMD.out.1 r) (HSX.out.below HBR.out) (txs_length l j) hn16 hL HTX.out)
            rw [← hs0] at HCB
            have HOS : Hid (outsM l j N (r + 1) = outsM l j N r ++ [strOf (comb s0.size j (N r) (txs l j))]) := Lib.hid (by rw [outsM_succ, hs0])
            clear hgg hs0e hs0 hrowN
            go_wp2_with fail
            refine HCB.out.mono ?_
            rintro e w6 ⟨rfl, hb6⟩
            have HB6 := Lib.hid (Below.step HBR.out hb6)
            have HO6 := Lib.hid (own_below' HOR.out hb6)
            obtain ⟨X, hX⟩ : ∃ X, strOf (comb s0.size j (N r) (txs l j)) = X := ⟨_, rfl⟩
            rw [hX] at HOS ⊢
            have D1 := Lib.hid (cells_new_at w6 w6.heap.size rfl #[.string X] 9 (sC X) rfl)
            have D2 : Hid (∀ u ∈ sC X, u.oneCell' = true) := fun u hu => sC_one _ u hu
            have D3 : Hid (r + 1 ≤ maxLen) := by show _ ≤ _; unfold maxLen; omega
            have D4 : Hid ((r + 1) * 16 ≤ 140737488355328) := by show _ ≤ _; omega
            have D5 : Hid (w5.heap.size ≤ (w6.alloc (.cells #[.string X] 9)).heap.size) := by show _ ≤ _; have := HB6.out.size; simp; omega
            clear hX hb6 HCB cO ht0 HOR HBR
            go_wp2_with (at_builtin; refine wpList_append_own _ rfl _ _ 22 rfl w5.heap.size 9 iS (.string ⟨#[]⟩) 1 16 Tryd.underlying22 hiS hzS hyS hbS rfl (by decide) _ _ _ rfl (HO6.out.alloc _) ⟨w6.heap.size, 0, none⟩ 1 1 (sC X) rfl rfl D1.out D2.out D3.out D4.out D5.out ?_)
            intro v' w7 hown' hgrow _
            have BW7 := Lib.hid (below_own (HB6.out.alloc HB6.out.size (.cells #[.string X] 9)) hgrow D5.out (HO6.out.alloc _) (Nat.le_refl _))
            obtain ⟨oa2, oc2, rfl⟩ := own_form' hown'
            have OW7 : Hid (w7.ownsRow w5.heap.size 9 1 (.slice oa2 (r + 1) oc2) (r + 1) ((outsM l j N (r + 1)).flatMap sC)) := Lib.hid (by
              rw [HOS.out, sCs_snoc]
              exact hown')
            clear hown' hgrow
            go_wp2_with fail
            go_roundw
            case rel => exact ⟨r + 1, oa2, oc2, by omega, by go_num, rfl, BW7.out, OW7.out⟩
            case measure => simp [intOf]; omega
          · have r1 : ¬ (r : Int) < (j : Int) := by omega
            have hre : r = j := by omega
            rw [hre] at HOR
            subst hre
            go_wp2_with fail
            go_ret2
            exact ⟨Below.step HB5.out HBR.out, .inl ⟨r, oa, oc, N, rfl, rfl, HA.out, HP.out, HNP.out, HMD.out, own_mono HOR.out HB5.out.size⟩⟩
  · have z1 : ((c : Int) != 0) = true := by have := badC_ne hbad; simp; omega
    have HBD := Lib.hid hbad
    have HB1 := Lib.hid hb1
    clear hbad hb1
    go_wp2_with fail
    go_ret2
    exact ⟨HB1.out, .inr ⟨c, rfl, badC_ne HBD.out, HBD.out⟩⟩
end Go.Proofs.YtigdpmeeibkifaaDoor
