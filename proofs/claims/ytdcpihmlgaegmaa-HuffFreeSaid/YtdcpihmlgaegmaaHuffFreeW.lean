/- The walk of HuffFree. -/
import Derived.Test.YtdcpihmlgaegmaaHuffCodes
import Derived.Test.YtdcpihmlgaegmaaMem
namespace Go.Proofs.Ytdcpihmlgaegmaa
open Go.RowKit Plain
namespace Plain
theorem ks_122 : ks [1, 2, 2] = 281474976710656 := by decide +kernel
theorem kr_122 : kr [1, 2, 2] = (281474976710656, 0) := by decide +kernel
theorem code_122 {cs : List Nat} (h : IsCode [1, 2, 2] cs) (_hz : ∀ t, t < 3 → ¬ 0 < ([1, 2, 2] : List Int).getD t 0 → cs.getD t 0 = 0) : cs = [0, 2, 3] := by
  refine code_one h (d := [0, 2, 3]) ⟨rfl, fun t ht h0 => ?_⟩ fun t ht h0 => ?_
  · have ht3 : t < 3 := ht
    match t, ht3 with
    | 0, _ => decide +kernel
    | 1, _ => decide +kernel
    | 2, _ => decide +kernel
  · have ht3 : t < 3 := ht
    match t, ht3 with
    | 0, _ => exact absurd (by decide) h0
    | 1, _ => exact absurd (by decide) h0
    | 2, _ => exact absurd (by decide) h0
end Plain
/-- a row of numbers read as a list of ints -/
theorem sat_row {w : World} {g : Nat} {t : TypeId} {cs : List Nat} (h : w.heap[g]? = some (.cells (nC cs) t (0, 0))) : SAt 1 iC w (some ⟨g, 0, none⟩) (cs.map fun n : Nat => (n : Int)) := by
  intro i hi
  have hi' : i < cs.length := by simpa using hi
  refine ⟨g, 0, rfl, lt_of_block h, fun j u hu => ?_⟩
  have hj : j = 0 := by
    rcases Nat.lt_or_ge j 1 with h | h
    · omega
    · rw [List.getElem?_eq_none (by rw [iC_length]; exact h)] at hu; cases hu
  subst hj
  rw [Nat.zero_add, Nat.mul_one, Nat.add_zero, cell_of_row _ _ _ _ _ _ h, nC_get cs i hi', ← hu]
  simp [iC, List.getD_eq_getElem?_getD, List.getElem?_eq_getElem hi']
/-- the literal [1, 2, 2] -/
theorem sat_lit3 (w : World) (x y z : Int) (t : TypeId) : SAt 1 iC (w.alloc (.cells #[.int .i64 x, .int .i64 y, .int .i64 z] t)) (some ⟨w.heap.size, 0, none⟩) [x, y, z] := by
  intro i hi
  refine ⟨w.heap.size, 0, rfl, by simp, fun j u hu => ?_⟩
  rw [cell_of_row _ _ _ _ _ _ (heap_alloc_new w _)]
  have hi3 : i < 3 := hi
  have hj : j = 0 := by
    rcases Nat.lt_or_ge j 1 with h | h
    · omega
    · rw [List.getElem?_eq_none (by rw [iC_length]; exact h)] at hu; cases hu
  subst hj
  rw [← hu]
  match i, hi3 with
  | 0, _ => rfl
  | 1, _ => rfl
  | 2, _ => rfl
set_option maxRecDepth 100000 in
set_option maxHeartbeats 4000000 in
theorem huffFree_any (a : Option Addr) (cap : Nat) (l : List Int) (w : World) (h : SAt 1 iC w a l) (hl : l.length ≤ 9223372036854775807) :
    Calls Try.prog 3 #[.slice a l.length cap] w fun e w' => e = .returned (.bool true) ∧ Below w.heap.size w w' := by
  have HS := Lib.hid h
  have HC1 := Lib.hid fun wx (hx : SAt 1 iC wx (some ⟨w.heap.size, 0, none⟩) [1, 2, 2]) => codes_any (some ⟨w.heap.size, 0, none⟩) 3 [1, 2, 2] wx hx (by decide)
  have HL1 := Lib.hid (sat_lit3 w 1 2 2 3)
  have HB0 := Lib.hid (Below.alloc (Below.refl w.heap.size w) (Nat.le_refl _) (.cells #[.int .i64 1, .int .i64 2, .int .i64 2] 3))
  have HE := Lib.hid fun wx (b c : Option Addr) (hx : SAt 1 iC wx b [0, 2, 3]) (hy : SAt 1 iC wx c [0, 2, 3]) => eqInt_any b c 3 3 [0, 2, 3] [0, 2, 3] wx hx hy (by decide) (by decide)
  have HK := Lib.hid fun wx (hx : SAt 1 iC wx a l) => kraft_any a cap l wx hx hl
  have HC := Lib.hid fun wx (hx : SAt 1 iC wx a l) => codes_any a cap l wx hx hl
  simp only [decide_true] at HE
  clear h
  go_enter Try.func3, Try.ntmps3
  go_wp2_with fail
  refine (HC1.out _ HL1.out).mono ?_
  rintro e w1 ⟨hb1, hend⟩
  rcases hend with ⟨hk, _⟩ | ⟨_, hk, _⟩ | ⟨_, _, g, cs, rfl, hg, hg0, hrow, hcode, hz⟩
  · rw [kr_122] at hk; cases hk
  · rw [ks_122] at hk; omega
  obtain rfl := code_122 hcode hz
  have hsat := Lib.hid (sat_row hrow)
  have HB1 := Lib.hid (Below.step HB0.out hb1)
  have HL2 := Lib.hid (sat_lit3 w1 0 2 3 3)
  have HBA := Lib.hid (Below.alloc (Below.refl w1.heap.size w1) (Nat.le_refl _) (.cells #[.int .i64 0, .int .i64 2, .int .i64 3] 3))
  clear hb1 hg hg0 hrow hcode hz
  go_wp2_with fail
  refine (HE.out _ _ _ (hsat.out.below HBA.out) HL2.out).mono ?_
  rintro e w2 ⟨rfl, hb2⟩
  have HB2 := Lib.hid (Below.step (Below.step HB1.out HBA.out) hb2)
  clear hb2
  go_wp2_with fail
  refine (HK.out _ (HS.out.below HB2.out)).mono ?_
  rintro e w3 ⟨rfl, hb3⟩
  have HB3 := Lib.hid (Below.step HB2.out hb3)
  clear hb3
  go_wp2_with fail
  refine (HC.out _ (HS.out.below HB3.out)).mono ?_
  rintro e w4 ⟨hb4, hend⟩
  have HB4 := Lib.hid (Below.step HB3.out hb4)
  clear hb4
  rcases hend with ⟨hk, rfl⟩ | ⟨hk, hbig, rfl⟩ | ⟨hk, hsm, g2, cs, rfl, hg2, hg0, hrow, hcode, hz⟩
  · rw [hk]
    clear hk
    go_wp2_with fail
    go_ret
    exact ⟨rfl, HB4.out⟩
  · rw [hk]
    have n1 : ¬ (ks l : Int) ≤ 281474976710656 := by omega
    generalize ks l = K at *
    clear hk hbig
    go_wp2_with fail
    go_ret
    exact ⟨rfl, HB4.out⟩
  · rw [hk]
    have n1 : (ks l : Int) ≤ 281474976710656 := by omega
    have hbd : ∀ n ∈ l, 0 ≤ n ∧ n ≤ 48 := by
      rcases kr_cases l with h | ⟨_, _, _, h⟩
      · rw [h] at hk; exact absurd (show (1 : Nat) = 0 from congrArg Prod.snd hk) (by decide)
      · exact h
    have HBD := Lib.hid hbd
    have HSH : Hid (∀ i, i < l.length → 0 < l.getD i 0 → cs.getD i 0 / 2 ^ (l.getD i 0).toNat = 0) := fun i hi h0 => code_short hcode (fun n hn => (hbd n hn).2) (Nat.le_trans hsm (Nat.le_of_eq (by decide +kernel))) hi h0
    have HFR : Hid (∀ i j, i < l.length → j < l.length → i ≠ j → 0 < l.getD i 0 → l.getD i 0 ≤ l.getD j 0 → cs.getD j 0 / 2 ^ (l.getD j 0 - l.getD i 0).toNat ≠ cs.getD i 0) := fun i j hi hj hne h0 hle => code_free hcode (fun n hn => (hbd n hn).2) hi hj hne h0 hle
    have HCL := Lib.hid hcode.1
    have HROW := Lib.hid hrow
    generalize ks l = K at *
    clear hk hsm hbd hcode hz hrow hg2 hg0
    go_wp2_with fail
    have hcl := HCL.out
    have HBW := Lib.hid (Below.refl w4.heap.size w4)
    go_loopw [71] (fun iv wr => ∃ i : Nat, iv = .int .i64 (i : Int) ∧ i ≤ l.length ∧ Below w4.heap.size w4 wr) (fun iv _ => l.length - (intOf iv).toNat)
    case atStart => exact ⟨0, rfl, by omega, HBW.out⟩
    case round =>
      obtain ⟨i, rfl, hi, hbr⟩ := hrel
      have HBR := Lib.hid hbr
      clear HBW hbr
      have HSR := Lib.hid (HS.out.below (Below.step HB4.out HBR.out))
      have HRW := Lib.hid ((HBR.out.block g2 (lt_of_block HROW.out)).trans HROW.out)
      by_cases hlt : i < l.length
      · have m1 : (i : Int) < (l.length : Int) := by omega
        obtain ⟨ga, off, rfl, hga, hr⟩ := HSR.out.int i hlt
        have hbd := HBD.out _ (List.getElem_mem hlt)
        have HGD := Lib.hid (getD_get hlt)
        have HS1 := Lib.hid (HSH.out i hlt)
        have HF1 := Lib.hid fun j hj hne => HFR.out i j hlt hj hne
        rw [HGD.out] at HS1 HF1
        generalize l[i] = n at *
        have c0 := cell_of_row wr g2 i _ _ _ HRW.out
        rw [nC_get cs i (by omega)] at c0
        obtain ⟨ci, hci⟩ : ∃ ci, ci = cs.getD i 0 := ⟨_, rfl⟩
        rw [← hci] at c0 HS1 HF1
        have HCI := Lib.hid hci
        clear hci hga
        have hc0 : ¬ (ci : Int) < 0 := by omega
        have hc1 : (0 : Int) ≤ (ci : Int) := by omega
        have hsh : 0 < n → ((ci : Int) / 2 ^ n.toNat != 0) = false := fun h0 => by
          have := HS1.out h0
          have e : ((ci : Int) / 2 ^ n.toNat) = ((ci / 2 ^ n.toNat : Nat) : Int) := by simp
          rw [e, this]
          rfl
        obtain ⟨hb0, hb48⟩ := hbd
        by_cases hn0 : 0 < n
        · have hsh2 := hsh hn0
          clear hsh
          go_wp2_with fail
          go_loopw [96] (fun jv wr => ∃ j : Nat, jv = .int .i64 (j : Int) ∧ j ≤ l.length ∧ Below w4.heap.size w4 wr) (fun jv _ => l.length - (intOf jv).toNat)
          case atStart => exact ⟨0, rfl, by omega, HBR.out⟩
          case round =>
            obtain ⟨j, rfl, hj, hbq⟩ := hrel
            have HBQ := Lib.hid hbq
            clear hbq
            clear c0 hr
            by_cases hjl : j < l.length
            · have m2 : (j : Int) < (l.length : Int) := by omega
              obtain ⟨ga', off', he', hga', hrj⟩ := (HS.out.below (Below.step HB4.out HBQ.out)).int j hjl
              injection he' with he'
              injection he' with he1 he2 _
              subst he1 he2
              have HRQ := Lib.hid ((HBQ.out.block g2 (lt_of_block HROW.out)).trans HROW.out)
              have c0 := cell_of_row wr g2 i _ _ _ HRQ.out
              rw [nC_get cs i (by omega)] at c0
              have c1 := cell_of_row wr g2 j _ _ _ HRQ.out
              rw [nC_get cs j (by omega)] at c1
              rw [← HCI.out] at c0
              have HGJ := Lib.hid (getD_get hjl)
              have hbdj := HBD.out _ (List.getElem_mem hjl)
              have HF2 := Lib.hid (HF1.out j hjl)
              rw [HGJ.out] at HF2
              generalize l[j] = m at *
              obtain ⟨cj, hcj⟩ : ∃ cj, cj = cs.getD j 0 := ⟨_, rfl⟩
              rw [← hcj] at c1 HF2
              clear hcj hga'
              obtain ⟨hj0, hj48⟩ := hbdj
              by_cases hij : i = j
              · have k1 : ((i : Int) != (j : Int)) = false := by simp [hij]
                clear hij
                go_wp2_with fail
                go_quiet (fail)
                go_wp2_with fail
                go_roundw
                case rel => exact ⟨j + 1, by go_num, by omega, below_dn HBQ.out _⟩
                case measure => simp [intOf]; omega
              · have k1 : ((i : Int) != (j : Int)) = true := by simp; omega
                by_cases hnm : n ≤ m
                · have hc2 : (0 : Int) ≤ (cj : Int) := by omega
                  have w1' : IntKind.i64.wrap (m - n) = m - n := wraps_i64 _ (by omega) (by omega)
                  have w2' : (0 : Int) ≤ m - n := by omega
                  have w3' : n ≤ m := hnm
                  have k2 : (((cj : Int) / 2 ^ (m - n).toNat) == (ci : Int)) = false := by
                    have := HF2.out hij hn0 hnm
                    have e : ((cj : Int) / 2 ^ (m - n).toNat) = ((cj / 2 ^ (m - n).toNat : Nat) : Int) := by simp
                    rw [e, beq_eq_false_iff_ne]
                    omega
                  clear hij
                  go_wp2_with fail
                  go_quiet (fail)
                  go_wp2_with fail
                  go_roundw
                  case rel => exact ⟨j + 1, by go_num, by omega, below_dn HBQ.out _⟩
                  case measure => simp [intOf]; omega
                · have hd : decide (n ≤ m) = false := by simpa using hnm
                  clear hij
                  go_wp2_with fail
                  go_quiet (fail)
                  go_wp2_with fail
                  go_roundw
                  case rel => exact ⟨j + 1, by go_num, by omega, below_dn HBQ.out _⟩
                  case measure => simp [intOf]; omega
            · have m2 : ¬ (j : Int) < (l.length : Int) := by omega
              go_wp2_with fail
              go_roundw
              case rel => exact ⟨i + 1, by go_num, by omega, HBQ.out⟩
              case measure => simp [intOf]; omega
        · clear hsh
          go_wp2_with fail
          go_loopw [96] (fun jv wr => ∃ j : Nat, jv = .int .i64 (j : Int) ∧ j ≤ l.length ∧ Below w4.heap.size w4 wr) (fun jv _ => l.length - (intOf jv).toNat)
          case atStart => exact ⟨0, rfl, by omega, HBR.out⟩
          case round =>
            obtain ⟨j, rfl, hj, hbq⟩ := hrel
            have HBQ := Lib.hid hbq
            clear hbq
            clear c0 hr
            by_cases hjl : j < l.length
            · have m2 : (j : Int) < (l.length : Int) := by omega
              obtain ⟨ga', off', he', hga', hrj⟩ := (HS.out.below (Below.step HB4.out HBQ.out)).int j hjl
              injection he' with he'
              injection he' with he1 he2 _
              subst he1 he2
              have HRQ := Lib.hid ((HBQ.out.block g2 (lt_of_block HROW.out)).trans HROW.out)
              have c0 := cell_of_row wr g2 i _ _ _ HRQ.out
              rw [nC_get cs i (by omega)] at c0
              have c1 := cell_of_row wr g2 j _ _ _ HRQ.out
              rw [nC_get cs j (by omega)] at c1
              rw [← HCI.out] at c0
              have HGJ := Lib.hid (getD_get hjl)
              have hbdj := HBD.out _ (List.getElem_mem hjl)
              have HF2 := Lib.hid (HF1.out j hjl)
              rw [HGJ.out] at HF2
              generalize l[j] = m at *
              obtain ⟨cj, hcj⟩ : ∃ cj, cj = cs.getD j 0 := ⟨_, rfl⟩
              rw [← hcj] at c1 HF2
              clear hcj hga'
              obtain ⟨hj0, hj48⟩ := hbdj
              by_cases hij : i = j
              · have k1 : ((i : Int) != (j : Int)) = false := by simp [hij]
                clear hij
                go_wp2_with fail
                go_quiet (fail)
                go_wp2_with fail
                go_roundw
                case rel => exact ⟨j + 1, by go_num, by omega, below_dn HBQ.out _⟩
                case measure => simp [intOf]; omega
              · have k1 : ((i : Int) != (j : Int)) = true := by simp; omega
                have hd : decide (0 < n) = false := by simpa using hn0
                clear hij
                go_wp2_with fail
                go_quiet (fail)
                go_wp2_with fail
                go_roundw
                case rel => exact ⟨j + 1, by go_num, by omega, below_dn HBQ.out _⟩
                case measure => simp [intOf]; omega
            · have m2 : ¬ (j : Int) < (l.length : Int) := by omega
              go_wp2_with fail
              go_roundw
              case rel => exact ⟨i + 1, by go_num, by omega, HBQ.out⟩
              case measure => simp [intOf]; omega
      · have m1 : ¬ (i : Int) < (l.length : Int) := by omega
        go_wp2_with fail
        go_ret
        exact ⟨rfl, Below.step HB4.out HBR.out⟩
end Go.Proofs.Ytdcpihmlgaegmaa
