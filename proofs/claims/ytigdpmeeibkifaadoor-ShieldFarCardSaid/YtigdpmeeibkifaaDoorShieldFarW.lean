/- lumkeep.ShieldFar, walked. Printed by gen_shieldfar.py. -/
import Derived.Test.YtigdpmeeibkifaaDoorShieldFarP
import Derived.Deep.QuietTactic
import Derived.BigQuiet
namespace Go.Proofs.YtigdpmeeibkifaaDoor
open Go.RowKit Plain
set_option linter.unusedVariables false
set_option linter.unusedSimpArgs false
theorem shards_far (a : Option Addr) (cap : Nat) (ts : List ByteArray) (p bits : Int) (w : World) (hS : SAt 1 sC w a ts) (hn : ts.length ≤ 9223372036854775807) (hb0 : 0 ≤ bits) (hb1 : bits < 18446744073709551616) :
    Calls Tryd.prog 5 #[.slice a ts.length cap, .int .i64 p, .int .u64 bits] w fun e w' => Below w.heap.size w w' ∧ ∃ (oa : Option Addr) (la oc : Nat) (ok : Bool), e = .returned (.tuple #[.slice oa la oc, .bool ok]) ∧
      (ok = true → ∃ q : Nat, p = (q : Int) ∧ GOk ts p ∧ la = ts.length + q ∧ w'.ownsRow w.heap.size 31 2 (.slice oa la oc) la ((shl ts bits la).flatMap shC)) := by
  refine (shards_any a cap ts p bits w hS hn hb0 hb1).mono ?_
  rintro e w' ⟨hb, ⟨q, oa, oc, hq, rfl, hok, hown⟩ | ⟨rfl, hno⟩⟩
  · exact ⟨hb, oa, _, oc, true, rfl, fun _ => ⟨q, hq, hok, rfl, hown⟩⟩
  · exact ⟨hb, none, 0, 0, false, rfl, fun h => by cases h⟩
set_option maxRecDepth 100000 in
set_option maxHeartbeats 8000000 in
theorem shieldFar_any (a b : Option Addr) (ca cb : Nat) (ts us : List ByteArray) (p : Int) (w : World) (hS : SAt 1 sC w a ts) (hU : SAt 1 sC w b us) (hn : ts.length ≤ 9223372036854775807) (hm : us.length ≤ 9223372036854775807) (hp : I64 p) :
    Calls Tryd.prog 3 #[.slice a ts.length ca, .slice b us.length cb, .int .i64 p] w fun e w' => e = .returned (.bool true) ∧ Below w.heap.size w w' := by
  have hu := Tryd.underlying31
  have ICZ : Hid ((Tryd.prog.info? 31).map (·.size) = some 2) := by show _ = _; kernel_rfl
  have HS := Lib.hid hS
  have HU := Lib.hid hU
  have HS1 := Lib.hid (shards_far a ca ts p 1099511627775 w hS hn (by decide) (by decide))
  clear hS hU
  go_enter Tryd.func3, Tryd.ntmps3
  go_wp2_with fail
  refine HS1.out.mono ?_
  rintro e w1 ⟨hb, oa, la, oc, ok, rfl, hok⟩
  have HB1 := Lib.hid hb
  have HOK1 := Lib.hid hok
  have HS2 := Lib.hid (shards_far b cb us p 1099511627775 w1 (HU.out.below hb) hm (by decide) (by decide))
  clear hb hok HS1
  go_wp2_with fail
  refine HS2.out.mono ?_
  rintro e w2 ⟨hb, ob, lb, oc2, also, rfl, hok⟩
  have HB2 := Lib.hid (Below.step HB1.out hb)
  have HB12 := Lib.hid hb
  have HOK2 := Lib.hid hok
  have HSH := Lib.hid (shields_any w2)
  clear hb hok HS2
  go_wp2_with fail
  refine HSH.out.mono ?_
  rintro e w3 ⟨rfl, hb⟩
  have HB3 := Lib.hid (Below.step HB2.out hb)
  have HB23 := Lib.hid hb
  clear hb HSH
  cases ok with
  | false =>
    clear HOK1 HOK2
    go_wp2_with fail
    go_quiet (fail)
    have HB4 := Lib.hid (below_dn HB3.out nq)
    go_wp2_with fail
    go_ret
    exact ⟨rfl, HB4.out⟩
  | true =>
    cases also with
    | false =>
      clear HOK1 HOK2
      go_wp2_with fail
      go_quiet (fail)
      have HB4 := Lib.hid (below_dn HB3.out nq)
      go_wp2_with fail
      go_ret
      exact ⟨rfl, HB4.out⟩
    | true =>
      obtain ⟨q, hq, hg1, hla, hown1⟩ := HOK1.out rfl
      obtain ⟨q', hq', hg2, hlb, hown2⟩ := HOK2.out rfl
      obtain rfl : q' = q := by omega
      subst hq
      have HG1 := Lib.hid hg1
      have HG2 := Lib.hid hg2
      have HLA := Lib.hid hla
      have HLB := Lib.hid hlb
      have hn16 : ts.length ≤ 16 := hg1.2.1
      have hm16 : us.length ≤ 16 := hg2.2.1
      have hq8 : q' ≤ 8 := by have := hg1.2.2.2.1; omega
      have hn1 : 1 ≤ ts.length := hg1.1
      have hm1 : 1 ≤ us.length := hg2.1
      have HSL := Lib.hid (((sat_own1 (c := shC) shC_length (l := shl ts 1099511627775 la) (by rw [shl_length]; exact hown1)).below HB12.out).below HB23.out)
      have HSM := Lib.hid ((sat_own1 (c := shC) shC_length (l := shl us 1099511627775 lb) (by rw [shl_length]; exact hown2)).below HB23.out)
      have HSP := Lib.hid (HS.out.below HB3.out)
      have HSO := Lib.hid (HU.out.below HB3.out)
      have hla24 : la ≤ 24 := by omega
      have hlb24 : lb ≤ 24 := by omega
      clear HOK1 HOK2 hg1 hg2 hla hlb hown1 hown2 HB12 HB23 HS HU hq' HB1 HB2
      by_cases hlen : (la : Int) = (lb : Int)
      · obtain rfl : la = lb := by omega
        clear hlen
        obtain ⟨ga, oa1, rfl, hga, hca⟩ := HSP.out.cellS (.string ·) (fun _ => rfl) 0 (by omega) _ rfl
        obtain ⟨gb, ob1, rfl, hgb, hcb⟩ := HSO.out.cellS (.string ·) (fun _ => rfl) 0 (by omega) _ rfl
        obtain ⟨t0, ht0⟩ : ∃ t, ts[0] = t := ⟨_, rfl⟩
        obtain ⟨u0, hu0⟩ : ∃ t, us[0] = t := ⟨_, rfl⟩
        rw [ht0] at hca
        rw [hu0] at hcb
        have HZT : Hid (len0 ts = t0.size) := Lib.hid (by unfold len0; rw [getD_getB (by omega : 0 < ts.length), ht0])
        have HZU : Hid (len0 us = u0.size) := Lib.hid (by unfold len0; rw [getD_getB (by omega : 0 < us.length), hu0])
        have i0 : (0 : Int) < (ts.length : Int) := by omega
        have i0' : (0 : Int) < (us.length : Int) := by omega
        have j0 : 0 < ts.length := by omega
        have j0' : 0 < us.length := by omega
        have k0 : ts ≠ [] := fun e => by rw [e] at j0; cases j0
        have k0' : us ≠ [] := fun e => by rw [e] at j0'; cases j0'
        simp only [Nat.add_zero] at hca hcb
        clear ht0 hu0 hga hgb
        by_cases hz : (t0.size : Int) = (u0.size : Int)
        · have HEQ := Lib.hid fun nq => eqStr_any (some ⟨ga, oa1, none⟩) (some ⟨gb, ob1, none⟩) ca cb ts us (w3.drewN nq) (HSP.out.below (below_dn (Below.refl _ _) nq)) (HSO.out.below (below_dn (Below.refl _ _) nq)) hn hm
          have HZ : Hid (len0 ts = len0 us) := Lib.hid (by rw [HZT.out, HZU.out]; omega)
          obtain ⟨bq, hbq⟩ : ∃ bq, decide (ts = us) = bq := ⟨_, rfl⟩
          simp only [hbq] at HEQ
          cases bq with
          | true =>
            go_wp2_with fail
            go_quiet ((go_at_call 7; exact Calls.quiet_of (HEQ.out _)))
            have HB4 := Lib.hid (below_dn HB3.out nq)
            go_wp2_with fail
            go_ret
            exact ⟨rfl, HB4.out⟩
          | false =>
            have HNE : Hid (ts ≠ us) := Lib.hid (of_decide_eq_false hbq)
            clear hbq
            go_wp2_with fail
            go_quiet ((go_at_call 7; exact Calls.quiet_of (HEQ.out _)))
            have HB4 := Lib.hid (below_dn HB3.out nq)
            have HSL4 := Lib.hid (HSL.out.below (below_dn (Below.refl _ _) nq))
            have HSM4 := Lib.hid (HSM.out.below (below_dn (Below.refl _ _) nq))
            generalize hw4 : w3.drewN nq = w4 at *
            clear hw4 HEQ hca hcb HSP HSO HSL HSM HB3 HZT HZU hz
            obtain ⟨L, hL⟩ : ∃ L, shl ts 1099511627775 la = L := ⟨_, rfl⟩
            obtain ⟨M, hM⟩ : ∃ M, shl us 1099511627775 la = M := ⟨_, rfl⟩
            have HLL : Hid (L.length = la) := Lib.hid (by rw [← hL, shl_length])
            have HLM : Hid (M.length = la) := Lib.hid (by rw [← hM, shl_length])
            have HGT : Hid (((q' : Nat) : Int) < (cntD L M la : Int)) := Lib.hid (by
              have h1 := HLA.out
              have h2 := HLB.out
              have hul : us.length = ts.length := by omega
              rcases Nat.lt_or_ge q' (cntD L M la) with h | h
              · omega
              · refine absurd (far_le HG1.out HG2.out hul HZ.out ?_) HNE.out
                rw [← h1, hL, hM]
                exact h)
            have hcN := cntD_le L M la
            rw [hL] at HSL4
            rw [hM] at HSM4
            have HSL := HSL4
            have HSM := HSM4
            clear hL hM HSL4 HSM4 HG1 HG2 HZ HNE HLA HLB hlb24
            go_wp2_with fail
            go_loopw [13, 64] (fun nv iv wr => ∃ i : Nat, i ≤ la ∧ iv = .int .i64 (i : Int) ∧ nv = .int .i64 (cntD L M i : Int) ∧ Below w4.heap.size w4 wr) (fun _ iv _ => la - (intOf iv).toNat)
            case atStart => exact ⟨0, by omega, rfl, rfl, Below.refl _ _⟩
            case round =>
              obtain ⟨i, hi, rfl, rfl, hbr⟩ := hrel
              have HBR := Lib.hid hbr
              clear hbr
              by_cases hil : i < la
              · have i1 : (i : Int) < (la : Int) := by omega
                have i2 : (0 : Int) ≤ (i : Int) := by omega
                have hll : i < L.length := by rw [HLL.out]; exact hil
                have hlm : i < M.length := by rw [HLM.out]; exact hil
                obtain ⟨g, off, rfl, hg, hrng⟩ := (HSL.out.below HBR.out) i hll
                obtain ⟨g', off', rfl, hg', hrng'⟩ := (HSM.out.below HBR.out) i hlm
                have HRG := Lib.hid hrng
                have HRG2 := Lib.hid hrng'
                have HCS : Hid (cntD L M (i + 1) = if L[i] = M[i] then cntD L M i else cntD L M i + 1) := Lib.hid (by rw [cntD_succ, shG_get hll, shG_get hlm])
                have hcl := cntD_le L M i
                obtain ⟨p, hp⟩ : ∃ p, L[i] = p := ⟨_, rfl⟩
                obtain ⟨q', hq⟩ : ∃ q, M[i] = q := ⟨_, rfl⟩
                rw [hp] at HRG HCS
                rw [hq] at HRG2 HCS
                obtain ⟨b, hb⟩ : ∃ b, decide (p = q') = b := ⟨_, rfl⟩
                obtain ⟨_, E2, E3⟩ := eqSh p q' b hb
                have HQL : Hid ((shC q').length = 2) := shC_length _
                have HPL : Hid ((shC p).length = 2) := shC_length _
                have HBB : Hid (b = true ↔ p = q') := by rw [← hb]; exact decide_eq_true_iff
                obtain ⟨C, hC⟩ : ∃ C, cntD L M i = C := ⟨_, rfl⟩
                rw [hC] at HCS hcl ⊢
                generalize hqc : shC q' = qc at *
                generalize hpc : shC p = pc at *
                have HE2 := Lib.hid E2
                have HE3 := Lib.hid E3
                have ic1 : (Tryd.prog.info? 31).map (·.size) = some pc.length := by rw [HPL.out]; exact ICZ.out
                have ic2 : (Tryd.prog.info? 31).map (·.size) = some qc.length := by rw [HQL.out]; exact ICZ.out
                clear hrng hrng' hq hp hb E2 E3 hqc hpc hg hg' hll hlm hC
                go_wp2_with fail
                refine wp_region_noPanic ?_
                refine wp_region_held_drew (S := fun w' => w'.rangeAt g (off + i * 2) pc ∧ w'.rangeAt g' (off' + i * 2) qc) (by kernel_rfl) ⟨HRG.out, HRG2.out⟩ (fun hS0 => ?_)
                have HS0 := Lib.hid hS0
                have HB9 : Hid (Below w4.heap.size w4 wr.drew) := HBR.out.drew
                clear hS0 HBR
                generalize wr.drew = v0 at *
                refine take_val 0 (.slice (some ⟨g, off, none⟩) la oc) rfl (by kernel_rfl) (by kernel_rfl) (by kernel_rfl) (fun _ _ _ _ h => h) (by rfl) rfl (fun w _ => by go_simp) HS0.out ?_
                try simp only [List.set_cons_zero, List.set_cons_succ]
                refine take_val 1 (.int .i64 (i : Int)) rfl (by kernel_rfl) (by kernel_rfl) (by kernel_rfl) (fun _ _ _ _ h => h) (by rfl) rfl (fun w _ => by go_simp) HS0.out ?_
                try simp only [List.set_cons_zero, List.set_cons_succ]
                refine take_val 2 (.pointer (some ⟨g, off + i * 2, none⟩)) rfl (by kernel_rfl) (by kernel_rfl) (by kernel_rfl) (fun _ _ _ _ h => h) (by rfl) rfl (fun w _ => by go_simp) HS0.out ?_
                try simp only [List.set_cons_zero, List.set_cons_succ]
                refine take_row 3 rfl (by kernel_rfl) (by kernel_rfl) (by kernel_rfl) (fun _ _ _ _ h => h) (by rfl) rfl rfl rfl (fun _ hS => hS.1) hu rfl ic1 HS0.out ?_
                try simp only [List.set_cons_zero, List.set_cons_succ]
                refine take_val 4 (.slice (some ⟨g', off', none⟩) la oc2) rfl (by kernel_rfl) (by kernel_rfl) (by kernel_rfl) (fun _ _ _ _ h => h) (by rfl) rfl (fun w _ => by go_simp) HS0.out ?_
                try simp only [List.set_cons_zero, List.set_cons_succ]
                refine take_val 5 (.int .i64 (i : Int)) rfl (by kernel_rfl) (by kernel_rfl) (by kernel_rfl) (fun _ _ _ _ h => h) (by rfl) rfl (fun w _ => by go_simp) HS0.out ?_
                try simp only [List.set_cons_zero, List.set_cons_succ]
                refine take_val 6 (.pointer (some ⟨g', off' + i * 2, none⟩)) rfl (by kernel_rfl) (by kernel_rfl) (by kernel_rfl) (fun _ _ _ _ h => h) (by rfl) rfl (fun w _ => by go_simp) HS0.out ?_
                try simp only [List.set_cons_zero, List.set_cons_succ]
                refine take_row 7 rfl (by kernel_rfl) (by kernel_rfl) (by kernel_rfl) (fun _ _ _ _ h => h) (by rfl) rfl rfl rfl (fun _ hS => hS.2) hu rfl ic2 HS0.out ?_
                try simp only [List.set_cons_zero, List.set_cons_succ]
                refine take_val 8 (.bool !b) rfl (by kernel_rfl) (by kernel_rfl) (by kernel_rfl) (fun _ _ _ _ h => h) (by rfl) rfl (fun w _ => val_binK rfl rfl rfl (HE2.out w) (HE3.out _ _ _ w)) HS0.out ?_
                try simp only [List.set_cons_zero, List.set_cons_succ]
                refine wpAnyH_done (by kernel_rfl) ?_ _
                refine NoPanic.normal ?_
                cases b with
                | true =>
                  have HN : Hid (cntD L M (i + 1) = C) := Lib.hid (by rw [HCS.out, if_pos (HBB.out.1 rfl)])
                  clear HBB HCS
                  go_wp2_with fail
                  go_roundw
                  case rel => exact ⟨i + 1, by omega, by go_num, by rw [HN.out], HB9.out⟩
                  case measure => simp [intOf]; omega
                | false =>
                  have HN : Hid (cntD L M (i + 1) = C + 1) := Lib.hid (by rw [HCS.out, if_neg (fun h => by have := HBB.out.2 h; cases this)])
                  clear HBB HCS
                  go_wp2_with fail
                  go_roundw
                  case rel => exact ⟨i + 1, by omega, by go_num, by rw [HN.out]; go_num, HB9.out⟩
                  case measure => simp [intOf]; omega
              · have i1 : ¬ (i : Int) < (la : Int) := by omega
                obtain rfl : i = la := by omega
                have hgt := HGT.out
                go_wp2_with fail
                go_ret
                exact ⟨rfl, Below.step HB4.out HBR.out⟩
        · clear HZT HZU
          go_wp2_with fail
          go_quiet (fail)
          have HB4 := Lib.hid (below_dn HB3.out nq)
          go_wp2_with fail
          go_ret
          exact ⟨rfl, HB4.out⟩
      · clear HSP HSO HSL HSM
        go_wp2_with fail
        go_quiet (fail)
        have HB4 := Lib.hid (below_dn HB3.out nq)
        go_wp2_with fail
        go_ret
        exact ⟨rfl, HB4.out⟩
end Go.Proofs.YtigdpmeeibkifaaDoor
