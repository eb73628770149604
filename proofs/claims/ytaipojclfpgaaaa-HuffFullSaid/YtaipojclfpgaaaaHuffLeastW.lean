/- HuffLeast: its walk. -/
import Derived.Test.YtaipojclfpgaaaaHuffTot
namespace Go.Proofs.Ytaipojclfpgaaaa
open Go.RowKit Plain
set_option linter.unusedVariables false
set_option linter.unusedSimpArgs false
theorem at0_bnd {f : List Int} {B : Nat} (h : ∀ (i : Nat) (h : i < f.length), f[i] ≤ (B : Int)) (i : Nat) : at0 (natF f) i ≤ B := by
  rcases Nat.lt_or_ge i f.length with h1 | h1
  · rw [at0_nat f i h1]
    have := h i h1
    omega
  · rw [at0, List.getD_eq_getElem?_getD, List.getElem?_eq_none (by rw [natF_len]; exact h1)]
    exact Nat.zero_le _
theorem sumIf_sum (p : Nat → Bool) (g : Nat → Nat) : ∀ n, sumIf p g n = sumS g ((List.range n).filter p)
  | 0 => rfl
  | n + 1 => by
    rw [List.range_succ, List.filter_append, sumS_append, ← sumIf_sum p g n]
    by_cases h : p n = true
    · simp [sumIf, h, sumS]
    · simp [sumIf, h, sumS]
theorem sumS_sub {g : Nat → Nat} {p q : Nat → Bool} (h : ∀ s, p s = true → q s = true) : ∀ (l : List Nat), sumS g (l.filter p) ≤ sumS g (l.filter q)
  | [] => Nat.le_refl _
  | a :: l => by
    have ih := sumS_sub (g := g) h l
    by_cases hp : p a = true
    · rw [List.filter_cons_of_pos hp, List.filter_cons_of_pos (h a hp), sumS_cons, sumS_cons]; omega
    · rw [List.filter_cons_of_neg hp]
      by_cases hq : q a = true
      · rw [List.filter_cons_of_pos hq, sumS_cons]; omega
      · rw [List.filter_cons_of_neg hq]; exact ih
theorem at0_natD (l : List Int) (i : Nat) : at0 (natF l) i = (l.getD i 0).toNat := by
  rcases Nat.lt_or_ge i l.length with h | h
  · rw [at0_nat l i h, List.getD_eq_getElem?_getD, List.getElem?_eq_getElem h]; rfl
  · rw [at0, List.getD_eq_getElem?_getD, List.getElem?_eq_none (by rw [natF_len]; exact h), List.getD_eq_getElem?_getD, List.getElem?_eq_none h]; rfl
/-- the Kraft sum over what is there is no more than that of all lengths -/
theorem kS_le_ks {F : List Nat} {l : List Int} (hl : F.length = l.length) (hp : ∀ s ∈ syms F, 0 < l.getD s 0) : kS (natF l) (syms F) ≤ ks l := by
  have e : ks l = sumS (wt l) ((List.range l.length).filter fun t => decide (0 < l.getD t 0)) := sumIf_sum _ _ _
  have e2 : kS (natF l) (syms F) = sumS (wt l) (syms F) := sumS_congr fun s _ => by rw [at0_natD]; rfl
  rw [e, e2]
  unfold syms
  rw [hl]
  have h2 : ∀ (L : List Nat), (∀ s ∈ L, s < l.length) → sumS (wt l) (L.filter fun s => decide (0 < at0 F s)) ≤ sumS (wt l) (L.filter fun t => decide (0 < l.getD t 0)) := fun L => by
    induction L with
    | nil => exact fun _ => Nat.le_refl _
    | cons a L ih =>
      intro hL
      have ih := ih fun s hs => hL s (List.mem_cons_of_mem _ hs)
      by_cases h1 : 0 < at0 F a
      · have h3 : 0 < l.getD a 0 := hp a (syms_mem.2 h1)
        rw [List.filter_cons_of_pos (by simpa using h1), List.filter_cons_of_pos (by simpa using h3), sumS_cons, sumS_cons]; omega
      · rw [List.filter_cons_of_neg (by simpa using h1)]
        by_cases h3 : 0 < l.getD a 0
        · rw [List.filter_cons_of_pos (by simpa using h3), sumS_cons]; omega
        · rw [List.filter_cons_of_neg (by simpa using h3)]; exact ih
  exact h2 _ fun s hs => List.mem_range.1 hs
theorem tot_511 {o : List Nat} (h : FinH [5, 1, 1] o) : tot [5, 1, 1] o = 9 := by
  have hs : syms [5, 1, 1] = [0, 1, 2] := by decide
  have ht : ∀ l : List Nat, tot [5, 1, 1] l = 5 * at0 l 0 + (at0 l 1 + at0 l 2) := fun l => by
    simp [tot, sumS, at0, List.range_succ]
  have h1 := h.opt [1, 2, 2] (fun s _ => by
    match s with
    | 0 | 1 | 2 => simp [at0]
    | s + 3 => simp [at0]) (by rw [hs]; decide +kernel) (fun h => by rw [hs] at h; simp at h)
  rw [ht, ht] at h1
  have p0 := (h.pos 0).1 (by decide)
  have p1 := (h.pos 1).1 (by decide)
  have p2 := (h.pos 2).1 (by decide)
  have hk := h.kf
  rw [hs] at hk
  simp only [kS, sumS, List.map_cons, List.map_nil, List.sum_cons, List.sum_nil, List.length_cons, List.length_nil] at hk
  have e0 : at0 o 0 = 1 := by simp [at0] at h1 p0 p1 p2 ⊢; omega
  have e1 : 2 ≤ at0 o 1 := by
    rcases Nat.lt_or_ge 1 (at0 o 1) with h2 | h2
    · exact h2
    · exfalso
      have e : at0 o 1 = 1 := by omega
      rw [e0, e] at hk
      have : 0 < 2 ^ (48 - at0 o 2) := Nat.two_pow_pos _
      simp at hk
      omega
  have e2 : 2 ≤ at0 o 2 := by
    rcases Nat.lt_or_ge 1 (at0 o 2) with h2 | h2
    · exact h2
    · exfalso
      have e : at0 o 2 = 1 := by omega
      rw [e0, e] at hk
      have : 0 < 2 ^ (48 - at0 o 1) := Nat.two_pow_pos _
      simp at hk
      omega
  rw [ht]
  have h3 : 5 * at0 o 0 + (at0 o 1 + at0 o 2) ≤ 9 := h1
  omega
set_option maxRecDepth 100000 in
set_option maxHeartbeats 4000000 in
theorem huffLeast_any (a b : Option Addr) (ca cb : Nat) (f m : List Int) (w : World) (hf : SAt 1 iC w a f) (hm : SAt 1 iC w b m) (nf : f.length ≤ 9223372036854775807) (nm : m.length ≤ 9223372036854775807) :
    Calls Try.prog 4 #[.slice a f.length ca, .slice b m.length cb] w fun e w' => e = .returned (.bool true) ∧ Below w.heap.size w w' := by
  have HF := Lib.hid hf
  have HM := Lib.hid hm
  have HA0 := Lib.hid ((Below.refl w.heap.size w).alloc (Nat.le_refl _) (.cells #[.int .i64 5, .int .i64 1, .int .i64 1] 3))
  have H511 : ∀ u : World, SAt 1 iC (u.alloc (.cells #[.int .i64 5, .int .i64 1, .int .i64 1] 3)) (some ⟨u.heap.size, 0, none⟩) [5, 1, 1] := fun u i hi => by
    have hn := heap_alloc_new u (.cells #[.int .i64 5, .int .i64 1, .int .i64 1] 3)
    refine ⟨u.heap.size, 0, rfl, lt_of_block hn, fun j v hv => ?_⟩
    rw [cell_of_row _ _ _ _ _ _ hn]
    match i, hi, j, hv with
    | 0, _, 0, hv => exact hv
    | 1, _, 0, hv => exact hv
    | 2, _, 0, hv => exact hv
    | 0, _, j + 1, hv => simp [iC] at hv
    | 1, _, j + 1, hv => simp [iC] at hv
    | 2, _, j + 1, hv => simp [iC] at hv
    | i + 3, hi, _, _ => exact absurd hi (by simp only [List.length_cons, List.length_nil]; omega)
  have H5 := Lib.hid H511
  clear hf hm H511
  go_enter Try.func4, Try.ntmps4
  go_wp2_with fail
  refine (lengths_any (some ⟨w.heap.size, 0, none⟩) 3 [5, 1, 1] _ (H5.out w) (by decide)).mono ?_
  rintro e w1 ⟨hb1, hr⟩
  have HB1 := Lib.hid (Below.next HA0.out hb1 (by simp))
  rcases hr with ⟨h, _⟩ | ⟨_, g, o, rfl, hg, hrow, hfin⟩
  · exact absurd h (by decide)
  have hfin5 : FinH [5, 1, 1] o := hfin
  have ho3 : o.length = 3 := hfin5.len
  have HROW := Lib.hid hrow
  have HFIN := Lib.hid hfin5
  have HO3 := Lib.hid ho3
  have HBA := Lib.hid ((Below.refl w1.heap.size w1).alloc (Nat.le_refl _) (.cells #[.int .i64 5, .int .i64 1, .int .i64 1] 3))
  clear hb1 hrow hfin hfin5 ho3
  have HT := Lib.hid (total_any (some ⟨w1.heap.size, 0, none⟩) (some ⟨g, 0, none⟩) 3 3 [5, 1, 1] o _ (sat_nat (H5.out w1) (by decide)) ((sat_nC HROW.out).below HBA.out) HO3.out.symm (by decide) (fun i => by
    match i with
    | 0 | 1 | 2 => simp [at0]
    | i + 3 => simp [at0]) HFIN.out.le)
  rw [tot_511 HFIN.out, HO3.out] at HT
  go_wp2_with fail
  refine HT.out.mono ?_
  rintro e w2 ⟨rfl, hb2⟩
  have HB2 := Lib.hid (Below.step (Below.step HB1.out HBA.out) hb2)
  clear hb2 HT HBA HROW HFIN HO3 HB1
  go_wp2_with fail
  refine (lengths_any a ca f w2 (HF.out.below HB2.out) nf).mono ?_
  rintro e w3 ⟨hb3, hr⟩
  have HB3 := Lib.hid (Below.step HB2.out hb3)
  clear hb3
  rcases hr with ⟨_, rfl⟩ | ⟨⟨b1, b2, hbad⟩, g2, l, rfl, hg2, hrow, hfin⟩
  · go_wp2_with fail
    go_ret
    exact ⟨rfl, HB3.out⟩
  have HROW := Lib.hid hrow
  have HFIN := Lib.hid hfin
  have HBAD : Hid (∀ (i : Nat) (h : i < f.length), 0 ≤ f[i] ∧ f[i] ≤ 1048576) := fun i h => by
    have := List.any_eq_false.1 hbad f[i] (List.getElem_mem h)
    simp only [wbad, decide_eq_true_eq] at this
    omega
  clear hrow hfin hbad
  go_wp2_with fail
  refine (codes_any b cb m w3 (HM.out.below HB3.out) nm).mono ?_
  rintro e w4 ⟨hb4, hr⟩
  have HB4 := Lib.hid (Below.step HB3.out hb4)
  have HROW4 := Lib.hid ((hb4.block _ (lt_of_block HROW.out)).trans HROW.out)
  clear hb4
  rcases hr with ⟨_, rfl⟩ | ⟨_, _, rfl⟩ | ⟨hkr, hks, g4, cs, rfl, _⟩
  · go_wp2_with fail
    go_ret
    exact ⟨by simp, HB4.out⟩
  · go_wp2_with fail
    go_ret
    exact ⟨by simp, HB4.out⟩
  have HKS := Lib.hid hks
  have HKR : Hid (∀ n ∈ m, 0 ≤ n ∧ n ≤ 48) := by
    rcases kr_cases m with h | ⟨_, _, _, h⟩
    · rw [hkr] at h; simp at h
    · exact h
  clear hkr hks
  by_cases hlen : m.length = f.length
  · have f1 : ((m.length : Int) != (f.length : Int)) = false := by rw [hlen]; simp
    have HLEN := Lib.hid hlen
    clear hlen
    go_wp2_with fail
    go_loopw [64] (fun iv wr => ∃ i : Nat, iv = .int .i64 (i : Int) ∧ i ≤ f.length ∧ Hid (Below w4.heap.size w4 wr) ∧ Hid (∀ (j : Nat), j < i → 0 < at0 (natF f) j → 0 < m.getD j 0)) (fun iv _ => f.length - (intOf iv).toNat)
    case atStart => exact ⟨0, rfl, Nat.zero_le _, Lib.hid (Below.refl _ _), Lib.hid (fun j h => absurd h (Nat.not_lt_zero _))⟩
    case round =>
      obtain ⟨i, rfl, hi, HBR, HPR⟩ := hrel
      have m0 : (0 : Int) ≤ (i : Int) := Int.natCast_nonneg _
      have HBW := Lib.hid (Below.step HB4.out HBR.out)
      by_cases hil : i < f.length
      · have m1 : (i : Int) < (f.length : Int) := by omega
        have him : i < m.length := by have := HLEN.out; omega
        have m2 : (i : Int) < (m.length : Int) := by omega
        obtain ⟨x, hx⟩ : ∃ x, f[i] = x := ⟨_, rfl⟩
        obtain ⟨y, hy⟩ : ∃ y, m[i] = y := ⟨_, rfl⟩
        obtain ⟨gq, off, ha, _, c0⟩ := (HF.out.below HBW.out).int i hil
        obtain ⟨gr, off2, hb', _, c1⟩ := (HM.out.below HBW.out).int i him
        rw [hx] at c0
        rw [hy] at c1
        subst ha hb'
        have HX : Hid (at0 (natF f) i = x.toNat) := by show _ = _; rw [at0_nat f i hil, hx]
        have HY : Hid (m.getD i 0 = y) := by show _ = _; rw [List.getD_eq_getElem?_getD, List.getElem?_eq_getElem him, hy]; rfl
        have HYB : Hid (0 ≤ y) := by rw [← hy]; exact (HKR.out _ (List.getElem_mem him)).1
        clear hx hy
        by_cases hx0 : x > 0
        · by_cases hy0 : y = 0
          · subst hy0
            go_wp2_with fail
            go_ret
            exact ⟨rfl, HBW.out⟩
          · have hyb : (y == 0) = false := by rw [beq_eq_false_iff_ne]; exact hy0
            have HPN : Hid (∀ (j : Nat), j < i + 1 → 0 < at0 (natF f) j → 0 < m.getD j 0) := fun j hj hp => by
              rcases Nat.lt_or_ge j i with h | h
              · exact HPR.out j h hp
              · obtain rfl : j = i := by omega
                rw [HY.out]
                have := HYB.out
                omega
            go_wp2_with fail
            go_roundw
            case rel => exact ⟨i + 1, by go_num, by omega, HBR, HPN⟩
            case measure => simp [intOf]; omega
        · have hxd : decide (x > 0) = false := decide_eq_false hx0
          have HPN : Hid (∀ (j : Nat), j < i + 1 → 0 < at0 (natF f) j → 0 < m.getD j 0) := fun j hj hp => by
            rcases Nat.lt_or_ge j i with h | h
            · exact HPR.out j h hp
            · obtain rfl : j = i := by omega
              rw [HX.out] at hp
              omega
          go_wp2_with fail
          go_roundw
          case rel => exact ⟨i + 1, by go_num, by omega, HBR, HPN⟩
          case measure => simp [intOf]; omega
      · have m1 : ¬ (i : Int) < (f.length : Int) := by omega
        have HPA : Hid (∀ s ∈ syms (natF f), 0 < m.getD s 0) := fun s hs => by
          have h1 := syms_mem.1 hs
          have h2 := at0_lt h1
          rw [natF_len] at h2
          exact HPR.out s (by omega) h1
        have HLL : Hid (l.length = f.length) := by have h := HFIN.out.len; rw [natF_len] at h; exact h
        have HFN : Hid (SAt 1 nI wr a (natF f)) := sat_nat (HF.out.below HBW.out) fun i h => (HBAD.out i h).1
        have HMN : Hid (SAt 1 nI wr b (natF m)) := sat_nat (HM.out.below HBW.out) fun i h => (HKR.out _ (List.getElem_mem h)).1
        have HLN : Hid (SAt 1 nI wr (some ⟨g2, 0, none⟩) l) := (sat_nC HROW4.out).below HBR.out
        have HB6 : Hid (∀ i, at0 (natF f) i ≤ 1048576) := at0_bnd fun i h => (HBAD.out i h).2
        have HB7 : Hid (∀ i, at0 (natF m) i ≤ 48) := at0_bnd fun i h => (HKR.out _ (List.getElem_mem h)).2
        have HT1 := Lib.hid fun u (hb : Below wr.heap.size wr u) => total_any a (some ⟨g2, 0, none⟩) ca f.length (natF f) l u (HFN.out.below hb) (HLN.out.below hb) (by rw [natF_len, HLL.out]) (by rw [natF_len]; exact b2) HB6.out HFIN.out.le
        have HT2 := Lib.hid fun u (hb : Below wr.heap.size wr u) => total_any a b ca cb (natF f) (natF m) u (HFN.out.below hb) (HMN.out.below hb) (by rw [natF_len, natF_len, HLEN.out]) (by rw [natF_len]; exact b2) HB6.out HB7.out
        rw [natF_len, HLL.out] at HT1
        rw [natF_len, natF_len] at HT2
        have HLE : Hid (tot (natF f) l ≤ tot (natF f) (natF m)) := HFIN.out.opt (natF m) (fun s _ => HB7.out s) (Nat.le_trans (kS_le_ks (by rw [natF_len, HLEN.out]) HPA.out) (by have h := HKS.out; omega)) (fun _ s hs => by
          have h := HPA.out s hs
          rw [at0_natD]
          omega)
        clear HFN HMN HLN
        obtain ⟨X, hX⟩ : ∃ X, tot (natF f) l = X := ⟨_, rfl⟩
        obtain ⟨Y, hY⟩ : ∃ Y, tot (natF f) (natF m) = Y := ⟨_, rfl⟩
        rw [hX] at HT1 HLE
        rw [hY] at HT2 HLE
        clear hX hY
        go_wp2_with fail
        refine (HT1.out _ (Below.refl _ _)).mono ?_
        rintro e w5 ⟨rfl, hb5⟩
        have HB5 := Lib.hid hb5
        clear hb5
        go_wp2_with fail
        refine (HT2.out _ HB5.out).mono ?_
        rintro e w6 ⟨rfl, hb6⟩
        have HB9 := Lib.hid (Below.step (Below.step HBW.out HB5.out) hb6)
        clear hb6
        have hxy : (X : Int) ≤ (Y : Int) := by have := HLE.out; omega
        go_wp2_with fail
        go_ret
        exact ⟨by simp [hxy], HB9.out⟩
  · have f1 : ((m.length : Int) != (f.length : Int)) = true := by simpa using (fun h => hlen (by omega) : ¬ (m.length : Int) = (f.length : Int))
    go_wp2_with fail
    go_ret
    exact ⟨by simp, HB4.out⟩
end Go.Proofs.Ytaipojclfpgaaaa
