/- HuffFull: its walk. -/
import Derived.Test.YtaipojclfpgaaaaHuffLeastW
namespace Go.Proofs.Ytaipojclfpgaaaa
open Go.RowKit Plain
set_option linter.unusedVariables false
set_option linter.unusedSimpArgs false
def intF (o : List Nat) : List Int := o.map fun n : Nat => (n : Int)
theorem intF_len (o : List Nat) : (intF o).length = o.length := by simp [intF]
theorem intF_getD (o : List Nat) (i : Nat) : (intF o).getD i 0 = (at0 o i : Int) := by
  rw [at0, List.getD_eq_getElem?_getD, List.getD_eq_getElem?_getD, intF, List.getElem?_map]
  cases o[i]? <;> rfl
theorem ks_eq {F o : List Nat} (h : FinH F o) : ks (intF o) = kS o (syms F) := by
  have e : ks (intF o) = sumS (wt (intF o)) ((List.range (intF o).length).filter fun t => decide (0 < (intF o).getD t 0)) := sumIf_sum _ _ _
  rw [e, intF_len, h.len]
  unfold kS syms
  have e2 : ((List.range F.length).filter fun t => decide (0 < (intF o).getD t 0)) = (List.range F.length).filter fun s => decide (0 < at0 F s) := by
    refine List.filter_congr fun s _ => ?_
    rw [intF_getD]
    have h1 := h.pos s
    by_cases h2 : 0 < at0 F s
    · rw [decide_eq_true h2, decide_eq_true (by have := h1.1 h2; omega)]
    · rw [decide_eq_false h2, decide_eq_false (fun h3 => h2 (h1.2 (by omega)))]
  rw [e2]
  refine sumS_congr fun s _ => ?_
  rw [wt, intF_getD, Int.toNat_natCast]
theorem kr_eq {F o : List Nat} (h : FinH F o) (h1 : 1 ≤ F.length) (h2 : F.length ≤ 256) : kr (intF o) = (kS o (syms F), 0) := by
  rw [← ks_eq h]
  unfold kr
  rw [if_neg]
  intro h3
  rcases h3 with h3 | h3 | h3
  · rw [intF_len, h.len] at h3; omega
  · rw [intF_len, h.len] at h3; omega
  · obtain ⟨n, hn, hb⟩ := List.any_eq_true.1 h3
    obtain ⟨i, hi, rfl⟩ := List.mem_iff_getElem.1 hn
    simp only [bad, decide_eq_true_eq, intF, List.getElem_map] at hb
    have hi2 : i < o.length := by rw [intF_len] at hi; exact hi
    have := h.le i
    rw [at0, List.getD_eq_getElem?_getD, List.getElem?_eq_getElem hi2] at this
    simp only [Option.getD_some] at this
    omega
theorem fin_03 {o : List Nat} (h : FinH [0, 3] o) : intF o = [0, 1] := by
  have hl : o.length = 2 := h.len
  match o, hl with
  | [x, y], _ =>
    have hs : syms [0, 3] = [1] := by decide
    have h0 := h.pos 0
    have hk := h.kf
    rw [hs] at hk
    simp only [kS, sumS, List.map_cons, List.map_nil, List.sum_cons, List.sum_nil, List.length_cons, List.length_nil] at hk
    simp [at0] at h0 hk
    have hy := h.le 1
    have hp := (h.pos 1).1 (by decide)
    simp only [at0, List.getD_cons_succ, List.getD_cons_zero] at hy hp
    have e : 48 - y = 47 := by
      rcases Nat.lt_trichotomy (48 - y) 47 with h1 | h1 | h1
      · have := Nat.pow_lt_pow_right (a := 2) (by decide) h1
        simp at this
        omega
      · exact h1
      · omega
    have e1 : y = 1 := by omega
    simp [intF, h0, e1]
set_option maxRecDepth 100000 in
set_option maxHeartbeats 4000000 in
theorem huffFull_any (a : Option Addr) (ca : Nat) (f : List Int) (w : World) (hf : SAt 1 iC w a f) (nf : f.length ≤ 9223372036854775807) :
    Calls Try.prog 3 #[.slice a f.length ca] w fun e w' => e = .returned (.bool true) ∧ Below w.heap.size w w' := by
  have HF := Lib.hid hf
  have HA0 := Lib.hid ((Below.refl w.heap.size w).alloc (Nat.le_refl _) (.cells #[.int .i64 0, .int .i64 3] 3))
  have H03 : ∀ (x : Int) (u : World), SAt 1 iC (u.alloc (.cells #[.int .i64 0, .int .i64 x] 3)) (some ⟨u.heap.size, 0, none⟩) [0, x] := fun x u i hi => by
    have hn := heap_alloc_new u (.cells #[.int .i64 0, .int .i64 x] 3)
    refine ⟨u.heap.size, 0, rfl, lt_of_block hn, fun j v hv => ?_⟩
    rw [cell_of_row _ _ _ _ _ _ hn]
    match i, hi, j, hv with
    | 0, _, 0, hv => exact hv
    | 1, _, 0, hv => exact hv
    | 0, _, j + 1, hv => simp [iC] at hv
    | 1, _, j + 1, hv => simp [iC] at hv
    | i + 2, hi, _, _ => exact absurd hi (by simp only [List.length_cons, List.length_nil]; omega)
  have H3 := Lib.hid H03
  clear hf H03
  go_enter Try.func3, Try.ntmps3
  go_wp2_with fail
  refine (lengths_any (some ⟨w.heap.size, 0, none⟩) 2 [0, 3] _ (H3.out 3 w) (by decide)).mono ?_
  rintro e w1 ⟨hb1, hr⟩
  have HB1 := Lib.hid (Below.next HA0.out hb1 (by simp))
  rcases hr with ⟨h, _⟩ | ⟨_, g, o, rfl, hg, hrow, hfin⟩
  · exact absurd h (by decide)
  have hfin5 : FinH [0, 3] o := hfin
  have HBA := Lib.hid ((Below.refl w1.heap.size w1).alloc (Nat.le_refl _) (.cells #[.int .i64 0, .int .i64 1] 3))
  have HEQ := eqInt_any (some ⟨g, 0, none⟩) (some ⟨w1.heap.size, 0, none⟩) 2 2 (intF o) [0, 1] _ ((sat_int_of_nat (sat_nC hrow)).below HBA.out) (H3.out 1 w1) (by rw [fin_03 hfin5]; decide) (by decide)
  rw [fin_03 hfin5] at HEQ
  have HE := Lib.hid HEQ
  clear hb1 hrow hfin hfin5 HEQ
  go_wp2_with fail
  refine HE.out.mono ?_
  rintro e w2 ⟨rfl, hb2⟩
  have HB2 := Lib.hid (Below.step (Below.step HB1.out HBA.out) hb2)
  clear hb2 HE HBA HB1
  have hdd : decide (([0, 1] : List Int) = [0, 1]) = true := by decide
  try rw [hdd]
  go_wp2_with fail
  refine (lengths_any a ca f w2 (HF.out.below HB2.out) nf).mono ?_
  rintro e w3 ⟨hb3, hr⟩
  have HB3 := Lib.hid (Below.step HB2.out hb3)
  clear hb3
  rcases hr with ⟨_, rfl⟩ | ⟨⟨b1, b2, hbad⟩, g2, l, rfl, hg2, hrow, hfin⟩
  · go_wp2_with fail
    go_ret
    exact ⟨rfl, HB3.out⟩
  have HROW := Lib.hid hrow
  have HFIN := Lib.hid hfin
  have HBAD : Hid (∀ (i : Nat) (h : i < f.length), 0 ≤ f[i] ∧ f[i] ≤ 1048576) := fun i h => by
    have := List.any_eq_false.1 hbad f[i] (List.getElem_mem h)
    simp only [wbad, decide_eq_true_eq] at this
    omega
  have HLL : Hid (l.length = f.length) := by have h := hfin.len; rw [natF_len] at h; exact h
  have hkc := kraft_any (some ⟨g2, 0, none⟩) f.length (intF l) w3 (sat_int_of_nat (sat_nC hrow)) (by rw [intF_len, HLL.out]; omega)
  rw [kr_eq hfin (by rw [natF_len]; exact b1) (by rw [natF_len]; exact b2), intF_len, HLL.out] at hkc
  have HKC := Lib.hid hkc
  obtain ⟨K, hK⟩ : ∃ K, kS l (syms (natF f)) = K := ⟨_, rfl⟩
  have hkf := hfin.kf
  rw [hK] at HKC hkf
  have HKF := Lib.hid hkf
  clear hrow hfin hbad hkc hK hkf
  go_wp2_with fail
  refine HKC.out.mono ?_
  rintro e w4 ⟨rfl, hb4⟩
  have HB4 := Lib.hid (Below.step HB3.out hb4)
  have HROW4 := Lib.hid ((hb4.block _ (lt_of_block HROW.out)).trans HROW.out)
  clear hb4 HKC
  go_wp2_with fail
  go_loopw [52, 8] (fun iv tv wr => ∃ i : Nat, iv = .int .i64 (i : Int) ∧ tv = .int .i64 ((psyms (natF f) i).length : Int) ∧ i ≤ f.length ∧ Hid (Below w4.heap.size w4 wr)) (fun iv _ _ => f.length - (intOf iv).toNat)
  case atStart => exact ⟨0, rfl, rfl, Nat.zero_le _, Lib.hid (Below.refl _ _)⟩
  case round =>
    obtain ⟨i, rfl, rfl, hi, HBR⟩ := hrel
    have m0 : (0 : Int) ≤ (i : Int) := Int.natCast_nonneg _
    have HBW := Lib.hid (Below.step HB4.out HBR.out)
    obtain ⟨wo, rfl⟩ : ∃ wo : World, wo = wr := ⟨_, rfl⟩
    obtain ⟨C, hC⟩ : ∃ C, (psyms (natF f) i).length = C := ⟨_, rfl⟩
    have hCb : C ≤ 256 := by rw [← hC]; have := psyms_len (natF f) i; omega
    have HC := Lib.hid hC
    rw [hC]
    clear hC
    by_cases hil : i < f.length
    · have m1 : (i : Int) < (f.length : Int) := by omega
      obtain ⟨n, hn⟩ : ∃ n : Nat, f[i] = (n : Int) := ⟨f[i].toNat, by have := HBAD.out i hil; omega⟩
      obtain ⟨gq, off, ha, _, c0⟩ := (HF.out.below HBW.out).int i hil
      rw [hn] at c0
      subst ha
      have HNA : Hid (at0 (natF f) i = n) := by show _ = _; rw [at0_nat f i hil, hn]; rfl
      clear hn
      have hill : i < l.length := by have := HLL.out; omega
      obtain ⟨p, hp⟩ : ∃ p, l[i] = p := ⟨_, rfl⟩
      have HPA : Hid (at0 l i = p) := by show _ = _; rw [at0, List.getD_eq_getElem?_getD, List.getElem?_eq_getElem hill, hp]; rfl
      have HPL := Lib.hid hp
      have hnp : (0 < n ↔ 0 < p) := by have h := HFIN.out.pos i; rw [HNA.out, HPA.out] at h; exact h
      clear hp
      by_cases hn0 : 0 < n
      · have hpp : 0 < p := hnp.1 hn0
        have n1 : (n : Int) > 0 := by omega
        have p1 : (p : Int) > 0 := by omega
        have HPS : Hid ((psyms (natF f) (i + 1)).length = C + 1) := by
          show _ = _
          rw [psyms_succ, if_pos (by rw [HNA.out]; exact hn0), List.length_append, HC.out]
          rfl
        go_wp2_with fail
        go_loopw [63] (fun jv wr => ∃ j : Nat, jv = .int .i64 (j : Int) ∧ j ≤ f.length ∧ Hid (Below wo.heap.size wo wr)) (fun jv _ => f.length - (intOf jv).toNat)
        case atStart => exact ⟨0, rfl, Nat.zero_le _, Lib.hid (Below.refl _ _)⟩
        case round =>
          obtain ⟨j, rfl, hj, HBJ⟩ := hrel
          have j0 : (0 : Int) ≤ (j : Int) := Int.natCast_nonneg _
          by_cases hjl : j < f.length
          · have j1 : (j : Int) < (f.length : Int) := by omega
            obtain ⟨m, hm⟩ : ∃ m : Nat, f[j] = (m : Int) := ⟨f[j].toNat, by have := HBAD.out j hjl; omega⟩
            obtain ⟨gr, off2, ha, _, c1⟩ := (HF.out.below (Below.step HBW.out HBJ.out)).int j hjl
            cases ha
            rw [hm] at c1
            have HMA : Hid (at0 (natF f) j = m) := by show _ = _; rw [at0_nat f j hjl, hm]; rfl
            clear hm
            have hjll : j < l.length := by have := HLL.out; omega
            obtain ⟨q, hq⟩ : ∃ q, l[j] = q := ⟨_, rfl⟩
            have HQA : Hid (at0 l j = q) := by show _ = _; rw [at0, List.getD_eq_getElem?_getD, List.getElem?_eq_getElem hjll, hq]; rfl
            have HLR := Lib.hid ((sat_nC HROW4.out).below (Below.step HBR.out HBJ.out))
            obtain ⟨g5, o5, hg5, _, d0⟩ := SAt.cellN HLR.out i hill _ HPL.out
            cases hg5
            obtain ⟨g6, o6, hg6, _, d1⟩ := SAt.cellN HLR.out j hjll q hq
            cases hg6
            simp only [Nat.zero_add] at d0 d1
            have i1 : (i : Int) < (f.length : Int) := m1
            clear hq
            by_cases hm0 : 0 < m
            · have k1 : (m : Int) > 0 := by omega
              by_cases hnm : m < n
              · have k2 : (n : Int) > (m : Int) := by omega
                have hpq : p ≤ q := by
                  have h := HFIN.out.mono (i := i) (j := j) (by rw [HMA.out]; exact hm0) (by rw [HMA.out, HNA.out]; exact hnm)
                  rw [HPA.out, HQA.out] at h
                  exact h
                have k3 : ¬ (p : Int) > (q : Int) := by omega
                have k4 : decide ((p : Int) > (q : Int)) = false := decide_eq_false k3
                go_wp2_with fail
                go_quiet (fail)
                go_wp2_with fail
                go_roundw
                case rel => exact ⟨j + 1, by go_num, by omega, Lib.hid (below_dn HBJ.out _)⟩
                case measure => simp [intOf]; omega
              · have k2 : ¬ (n : Int) > (m : Int) := by omega
                have k4 : decide ((n : Int) > (m : Int)) = false := decide_eq_false k2
                go_wp2_with fail
                go_quiet (fail)
                go_wp2_with fail
                go_roundw
                case rel => exact ⟨j + 1, by go_num, by omega, Lib.hid (below_dn HBJ.out _)⟩
                case measure => simp [intOf]; omega
            · obtain rfl : m = 0 := by omega
              go_wp2_with fail
              go_quiet (fail)
              go_wp2_with fail
              go_roundw
              case rel => exact ⟨j + 1, by go_num, by omega, Lib.hid (below_dn HBJ.out _)⟩
              case measure => simp [intOf]; omega
          · have j1 : ¬ (j : Int) < (f.length : Int) := by omega
            have HBE := Lib.hid (Below.step HBR.out HBJ.out)
            go_wp2_with fail
            go_roundw
            case rel => exact ⟨i + 1, by go_num, by first | (rw [HPS.out]; go_num) | rw [HPS.out], by omega, HBE⟩
            case measure => simp [intOf]; omega
      · have hp0 : p = 0 := by have h : ¬ 0 < p := fun h => hn0 (hnp.2 h); omega
        obtain rfl : n = 0 := by omega
        subst hp0
        have HPS : Hid ((psyms (natF f) (i + 1)).length = C) := by
          show _ = _
          rw [psyms_succ, if_neg (by rw [HNA.out]; omega), HC.out]
        go_wp2_with fail
        go_loopw [63] (fun jv wr => ∃ j : Nat, jv = .int .i64 (j : Int) ∧ j ≤ f.length ∧ Hid (Below wo.heap.size wo wr)) (fun jv _ => f.length - (intOf jv).toNat)
        case atStart => exact ⟨0, rfl, Nat.zero_le _, Lib.hid (Below.refl _ _)⟩
        case round =>
          obtain ⟨j, rfl, hj, HBJ⟩ := hrel
          have j0 : (0 : Int) ≤ (j : Int) := Int.natCast_nonneg _
          by_cases hjl : j < f.length
          · have j1 : (j : Int) < (f.length : Int) := by omega
            obtain ⟨m, hm⟩ : ∃ m : Nat, f[j] = (m : Int) := ⟨f[j].toNat, by have := HBAD.out j hjl; omega⟩
            obtain ⟨gr, off2, ha, _, c1⟩ := (HF.out.below (Below.step HBW.out HBJ.out)).int j hjl
            cases ha
            rw [hm] at c1
            have HMA : Hid (at0 (natF f) j = m) := by show _ = _; rw [at0_nat f j hjl, hm]; rfl
            clear hm
            have hjll : j < l.length := by have := HLL.out; omega
            obtain ⟨q, hq⟩ : ∃ q, l[j] = q := ⟨_, rfl⟩
            have HQA : Hid (at0 l j = q) := by show _ = _; rw [at0, List.getD_eq_getElem?_getD, List.getElem?_eq_getElem hjll, hq]; rfl
            have HLR := Lib.hid ((sat_nC HROW4.out).below (Below.step HBR.out HBJ.out))
            obtain ⟨g5, o5, hg5, _, d0⟩ := SAt.cellN HLR.out i hill _ HPL.out
            cases hg5
            obtain ⟨g6, o6, hg6, _, d1⟩ := SAt.cellN HLR.out j hjll q hq
            cases hg6
            simp only [Nat.zero_add] at d0 d1
            have i1 : (i : Int) < (f.length : Int) := m1
            clear hq
            by_cases hm0 : 0 < m
            · have k1 : (m : Int) > 0 := by omega
              have k2 : ¬ (0 : Int) > (m : Int) := by omega
              have k4 : decide ((0 : Int) > (m : Int)) = false := decide_eq_false k2
              go_wp2_with fail
              go_quiet (fail)
              go_wp2_with fail
              go_roundw
              case rel => exact ⟨j + 1, by go_num, by omega, Lib.hid (below_dn HBJ.out _)⟩
              case measure => simp [intOf]; omega
            · obtain rfl : m = 0 := by omega
              go_wp2_with fail
              go_quiet (fail)
              go_wp2_with fail
              go_roundw
              case rel => exact ⟨j + 1, by go_num, by omega, Lib.hid (below_dn HBJ.out _)⟩
              case measure => simp [intOf]; omega
          · have j1 : ¬ (j : Int) < (f.length : Int) := by omega
            have HBE := Lib.hid (Below.step HBR.out HBJ.out)
            go_wp2_with fail
            go_roundw
            case rel => exact ⟨i + 1, by go_num, by first | (rw [HPS.out]; go_num) | rw [HPS.out], by omega, HBE⟩
            case measure => simp [intOf]; omega
    · have m1 : ¬ (i : Int) < (f.length : Int) := by omega
      have hT : C = (syms (natF f)).length := by
        rw [← HC.out]
        have e : i = (natF f).length := by rw [natF_len]; omega
        rw [e]
        rfl
      have hK := HKF.out
      rw [← hT] at hK
      clear hT
      by_cases t0 : C = 0
      · subst t0
        rw [if_pos rfl] at hK
        subst hK
        go_wp2_with fail
        go_ret
        exact ⟨by simp, HBW.out⟩
      · by_cases t1 : C = 1
        · subst t1
          rw [if_neg (by decide), if_pos rfl] at hK
          have hK2 : K = 140737488355328 := hK
          subst hK2
          clear hK
          go_wp2_with fail
          go_ret
          exact ⟨by simp, HBW.out⟩
        · rw [if_neg t0, if_neg t1] at hK
          have hK2 : K = 281474976710656 := hK
          subst hK2
          clear hK
          have q1 : ((C : Int) == 0) = false := by rw [beq_eq_false_iff_ne]; omega
          have q2 : ((C : Int) == 1) = false := by rw [beq_eq_false_iff_ne]; omega
          have q3 : (C : Int) > 1 := by omega
          go_wp2_with fail
          go_ret
          exact ⟨by simp [q1, q2, q3], HBW.out⟩
end Go.Proofs.Ytaipojclfpgaaaa
