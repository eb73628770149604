/- The walk of SweepColours. -/
import Derived.Test.YtgoocmocdimnoaaSweepVar
import Derived.Test.YtgoocmocdimnoaaBools
namespace Go.Proofs.Ytgoocmocdimnoaa
open Go.RowKit Plain Go.ChangeShapes Go.WideShapes Go.ChangeAt
set_option linter.unusedVariables false
def whiteB (ts : List Thg) (k : Int) : Bool := match ts[k.toNat]? with
  | some t => t.2.1 == 0
  | none => false
set_option maxRecDepth 100000 in
theorem white_any (ta : Option Addr) (tc : Nat) (rows : List TRow) (b : Option Addr) (m rc : Nat) (bz : Bool) (k : Int) (B : Nat) (w : World) (h : SAt 3 tcC w ta rows) (hB : w.heap[B]? = some (.cells #[.slice ta rows.length tc, .slice b m rc, .bool bz] 41 (0, 0))) (h0 : 0 ≤ k) (h1 : k < rows.length) :
    Calls Try.prog 22 #[.int .i64 k, .pointer (some ⟨B, 0, none⟩)] w fun e w' => e = .returned (.bool (whiteB (tK rows) k)) ∧ Below w.heap.size w w' := by
  obtain ⟨kn, rfl⟩ := Int.eq_ofNat_of_zero_le h0
  have hkn : kn < rows.length := by omega
  have c0 := cell_of_row w B 0 _ _ _ hB
  simp only [List.getElem?_toArray, List.getElem?_cons_zero] at c0
  have HW : Hid (whiteB (tK rows) (kn : Int) = (rows[kn].2.2.2.1 == 0)) := by show _ = _; unfold whiteB; rw [Int.toNat_natCast, tK_get rows kn hkn]
  obtain ⟨g, off, rfl, _, _, x1, _⟩ := h.thg kn hkn _ rfl
  generalize rows[kn] = r at *
  clear h hB hkn
  by_cases hc : r.2.2.2.1 = 0
  · rw [hc] at x1
    have HE : Hid (whiteB (tK rows) (kn : Int) = true) := by show _ = _; rw [HW.out, hc]; rfl
    go_enter Try.func22, Try.ntmps22
    go_wp2_with fail
    go_ret
    rw [HE.out]
    exact ⟨rfl, Below.refl _ _⟩
  · have hc2 : (r.2.2.2.1 == 0) = false := by simpa using hc
    have HE : Hid (whiteB (tK rows) (kn : Int) = false) := by show _ = _; rw [HW.out, hc2]
    go_enter Try.func22, Try.ntmps22
    go_wp2_with fail
    go_ret
    rw [HE.out]
    exact ⟨rfl, Below.refl _ _⟩
set_option maxRecDepth 100000 in
theorem indexWhite_any (p : Int → Bool) (B : Nat) (a : Option Addr) (cap : Nat) (l : List Int) (w : World) (hp : ∀ n ∈ l, ∀ wx, Below w.heap.size w wx → Calls Try.prog 22 #[.int .i64 n, .pointer (some ⟨B, 0, none⟩)] wx fun e w' => e = .returned (.bool (p n)) ∧ Below wx.heap.size wx w') (h : SAt 1 iC w a l) (hl : l.length ≤ 9223372036854775807) :
    Calls Try.prog 42 #[.slice a l.length cap, .func (Fn.func 22) #[] #[.pointer (some ⟨B, 0, none⟩)]] w (Idx p l w) := by
  have HP := Lib.hid hp
  have HS := Lib.hid h
  clear hp h
  go_enter Try.func42, Try.ntmps42
  go_wp2_with fail
  go_loopw [8] (fun iv wr => ∃ i : Nat, i ≤ l.length ∧ iv = .int .i64 (i : Int) ∧ Below w.heap.size w wr ∧ ∀ x ∈ l.take i, p x = false) (fun iv _ => l.length - (intOf iv).toNat)
  case atStart => exact ⟨0, by omega, rfl, Below.refl _ _, by simp⟩
  case round =>
    obtain ⟨i, hi, rfl, hbr, hall⟩ := hrel
    have HBR := Lib.hid hbr
    have HALL := Lib.hid hall
    clear hbr hall
    by_cases hlt : i < l.length
    · have m1 : (i : Int) < (l.length : Int) := by omega
      obtain ⟨g, off, rfl, hg, hr⟩ := (HS.out.below HBR.out).int i hlt
      have HMEM : Hid (l[i] ∈ l) := List.getElem_mem hlt
      have HST : Hid (p l[i] = false → ∀ x ∈ l.take (i + 1), p x = false) := fun h x hx => by
        rw [List.take_succ_eq_append_getElem hlt] at hx
        rcases List.mem_append.1 hx with hx | hx
        · exact HALL.out x hx
        · simp only [List.mem_singleton] at hx; rw [hx]; exact h
      generalize l[i] = t at *
      have HPT := Lib.hid (HP.out t HMEM.out wr HBR.out)
      clear hg
      cases hq : p t with
      | true =>
        rw [hq] at HPT
        have HQ := Lib.hid hq
        clear hq
        go_wp2_with fail
        refine HPT.out.mono ?_
        rintro e w' ⟨rfl, hb'⟩
        have HB' := Lib.hid (Below.step HBR.out hb')
        clear hb'
        go_wp2_with fail
        go_ret
        exact ⟨(i : Int), rfl, HB'.out, by omega, by omega, .inr ⟨by omega, t, HMEM.out, HQ.out⟩⟩
      | false =>
        rw [hq] at HPT
        have HQ := Lib.hid (HST.out hq)
        clear hq
        go_wp2_with fail
        refine HPT.out.mono ?_
        rintro e w' ⟨rfl, hb'⟩
        have HB' := Lib.hid (Below.step HBR.out hb')
        clear hb'
        go_wp2_with fail
        go_roundw
        case rel => exact ⟨i + 1, by omega, by go_num, HB'.out, HQ.out⟩
        case measure => simp [intOf]; omega
    · have m1 : ¬ (i : Int) < (l.length : Int) := by omega
      have HE : Hid (∀ x ∈ l, p x = false) := by
        have h := HALL.out
        rwa [List.take_of_length_le (by omega)] at h
      go_wp2_with fail
      go_ret
      exact ⟨-1, rfl, HBR.out, by omega, by omega, .inl ⟨rfl, HE.out⟩⟩
theorem containsWhite_any (p : Int → Bool) (B : Nat) (a : Option Addr) (cap : Nat) (l : List Int) (w : World) (hp : ∀ n ∈ l, ∀ wx, Below w.heap.size w wx → Calls Try.prog 22 #[.int .i64 n, .pointer (some ⟨B, 0, none⟩)] wx fun e w' => e = .returned (.bool (p n)) ∧ Below wx.heap.size wx w') (h : SAt 1 iC w a l) (hl : l.length ≤ 9223372036854775807) :
    Calls Try.prog 21 #[.slice a l.length cap, .func (Fn.func 22) #[] #[.pointer (some ⟨B, 0, none⟩)]] w fun e w' => e = .returned (.bool (l.any p)) ∧ Below w.heap.size w w' := by
  have HI := Lib.hid (indexWhite_any p B a cap l w hp h hl)
  clear hp h
  go_enter Try.func21, Try.ntmps21
  go_wp2_with fail
  refine HI.out.mono ?_
  rintro e w' ⟨r, rfl, hb, h1, h2, hr⟩
  rcases hr with ⟨rfl, hr⟩ | ⟨h0, x, hx, hr⟩
  · have HR : Hid (l.any p = false) := by show _ = _; rw [List.any_eq_false]; intro x hx; simp [hr x hx]
    clear hr
    go_wp2_with fail
    go_ret
    exact ⟨by rw [HR.out]; rfl, hb⟩
  · have HR : Hid (l.any p = true) := List.any_eq_true.2 ⟨x, hx, hr⟩
    clear hr
    go_wp2_with fail
    go_ret
    exact ⟨by rw [HR.out]; rfl, hb⟩
set_option maxRecDepth 100000 in
set_option maxHeartbeats 4000000 in
theorem sweepColours_any (a : Option Addr) (cap : Nat) (l : List Ac) (w : World) (hs : SAt 3 acC w a l) (hl : l.length ≤ 9223372036854775807) :
    Calls Try.prog 6 #[.slice a l.length cap] w fun e w' => e = .returned (.bool true) ∧ Below w.heap.size w w' := by
  have HI3 : Hid (∀ a b c : Value, (Try.prog.info? 41).map (·.size) = some (#[a, b, c] : Array Value).size) := fun a b c => by show _ = _; kernel_rfl
  have HON3 : Hid (∀ (a b : Option Addr) (n m c d : Nat) (z : Bool), (#[.slice a n c, .slice b m d, .bool z] : Array Value).all (·.oneCell') = true) := fun a b n m c d z => by simp [Value.oneCell']
  have HS := Lib.hid hs
  clear hs
  go_enter Try.func6, Try.ntmps6
  go_wp2_with fail
  refine (swept_any w).mono ?_
  rintro e w1 ⟨rfl, hb⟩
  have HB1 : Hid (Below w.heap.size w (w1.alloc (.cells #[.slice none 0 0, .slice none 0 0, .bool false] 41))) := hb.alloc hb.size _
  have HV0 : Hid (HVar (w1.alloc (.cells #[.slice none 0 0, .slice none 0 0, .bool false] 41)) w1.heap.size ([], [], false)) := HVar.zero (heap_alloc_new w1 _)
  have HVW : Hid (w.heap.size ≤ w1.heap.size) := hb.size
  clear hb
  go_wp2_with fail
  obtain ⟨VB, hVB⟩ : ∃ VB, w1.heap.size = VB := ⟨_, rfl⟩
  rw [hVB]
  rw [hVB] at HV0 HVW
  generalize w1.alloc (.cells #[.slice none 0 0, .slice none 0 0, .bool false] 41) = w2 at *
  clear hVB
  go_loopw [17] (fun iv wr => ∃ (i : Nat) (h : Hp), i ≤ l.length ∧ iv = .int .i64 (i : Int) ∧ Below w.heap.size w wr ∧ HVar wr VB h ∧ Inv h) (fun iv _ => l.length - (intOf iv).toNat)
  case atStart => exact ⟨0, _, by omega, rfl, HB1.out, HV0.out, inv_zero⟩
  case round =>
    obtain ⟨i, h, hi, rfl, hbr, hvr, hinv⟩ := hrel
    have HBR := Lib.hid hbr
    have HVR := Lib.hid hvr
    have HINV := Lib.hid hinv
    clear hbr hvr hinv HB1 HV0
    by_cases hlt : i < l.length
    · have m1 : (i : Int) < (l.length : Int) := by omega
      obtain ⟨g, off, rfl, _, hr⟩ := (HS.out.below HBR.out) i hlt
      have c0 := hr 0 _ rfl
      have c1 := hr 1 _ rfl
      have c2 := hr 2 _ rfl
      generalize l[i] = x at *
      obtain ⟨xk, xf, xt⟩ := x
      simp only [Nat.add_zero] at c0 c1 c2
      obtain ⟨ta, tc, rows, ra, rc, hrow, h1, h2, h3, h4, h5⟩ := HVR.out
      obtain ⟨ts, rs, bz⟩ := h
      simp only at hrow h3 h4 h5
      subst h5
      have hbA : Below wr.heap.size wr (wr.alloc (.cells #[.int .i64 xk, .int .i64 xf, .int .i64 xt] 43)) := (Below.refl _ _).alloc (Nat.le_refl _) _
      have HBA := Lib.hid hbA
      have HROW := Lib.hid ((hbA.block _ (lt_of_block hrow)).trans hrow)
      have HXR := Lib.hid (heap_alloc_new wr (.cells #[.int .i64 xk, .int .i64 xf, .int .i64 xt] 43))
      have HVL : Hid (VB < wr.heap.size) := lt_of_block hrow
      have HTA := Lib.hid (h1.below hbA)
      have HRT := Lib.hid (h3.below hbA)
      have HBRA := Lib.hid (HBR.out.trans (hbA.mono HBR.out.size))
      have d0 := cell_of_row _ VB 0 _ _ _ HROW.out
      have d1 := cell_of_row _ VB 1 _ _ _ HROW.out
      have d2 := cell_of_row _ VB 2 _ _ _ HROW.out
      simp only [List.getElem?_toArray, List.getElem?_cons_zero, List.getElem?_cons_succ] at d0 d1 d2
      clear hrow hbA h1 h3 hr
      go_wp2_with fail
      clear c0 c1 c2
      obtain ⟨XB, hXB⟩ : ∃ XB, wr.heap.size = XB := ⟨_, rfl⟩
      rw [hXB] at HXR HVL
      rw [hXB]
      generalize wr.alloc (.cells #[.int .i64 xk, .int .i64 xf, .int .i64 xt] 43) = wa at *
      have HDO := Lib.hid (do_any ta tc rows ra rc rs bz xk xf xt wa HTA.out h2 HRT.out h4)
      refine HDO.out.mono ?_
      rintro e w4 ⟨hb4, hres⟩
      have HB4 := Lib.hid (HBRA.out.trans (hb4.mono HBRA.out.size))
      have HROW4 := Lib.hid ((hb4.block _ (lt_of_block HROW.out)).trans HROW.out)
      have HTA4 := Lib.hid (HTA.out.below hb4)
      have HRT4 := Lib.hid (HRT.out.below hb4)
      have HV4 : Hid (HVar w4 VB (tK rows, rs, bz)) := ⟨ta, tc, rows, ra, rc, HROW4.out, HTA4.out, h2, HRT4.out, h4, rfl⟩
      have HVLA : Hid (VB < wa.heap.size) := lt_of_block HROW.out
      clear hb4 d0 d1 d2
      rw [doF_inv HINV.out] at hres
      cases hst : stepF (tK rows, rs, bz) (xk, xf, xt) with
      | none =>
        rw [hst] at hres
        obtain ⟨c, ⟨hc0, hc20⟩, rfl⟩ := hres
        have f1 : ((c : Int) != 0) = true := by simp; omega
        have f2 : ((c : Int) == 0) = false := by simp; omega
        clear hst hc0
        have HBN : Hid (Below w.heap.size w (w4.alloc (.cells #[.slice none 0 0, .slice none 0 0, .bool false] 41))) := HB4.out.alloc HB4.out.size _
        have HVN : Hid (HVar (w4.alloc (.cells #[.slice none 0 0, .slice none 0 0, .bool false] 41)) VB (tK rows, rs, bz)) := HV4.out.below ((Below.refl _ _).alloc (Nat.le_refl _) _)
        go_wp2_with fail
        go_roundw
        case rel => exact ⟨i + 1, _, by omega, by go_num, HBN.out, HVN.out, HINV.out⟩
        case measure => simp [intOf]; omega
      | some gg =>
        rw [hst] at hres
        obtain ⟨H, ta2, tc2, rows2, ra2, rc2, rs2, bz2, hoh, hg, rfl⟩ := hres
        subst hg
        have HSI := Lib.hid (step_inv HINV.out hst)
        have HSTP := Lib.hid hst
        have HOH : Hid (OH wa.heap.size H ta2 tc2 rows2 ra2 rc2 rs2 bz2 (w4.alloc (.cells #[.slice ta2 rows2.length tc2, .slice ra2 rs2.length rc2, .bool bz2] 41))) := hoh.below ((Below.refl _ _).alloc (Nat.le_refl _) _)
        have HGR := Lib.hid (heap_alloc_new w4 (.cells #[.slice ta2 rows2.length tc2, .slice ra2 rs2.length rc2, .bool bz2] 41))
        have HBN : Hid (Below w.heap.size w (w4.alloc (.cells #[.slice ta2 rows2.length tc2, .slice ra2 rs2.length rc2, .bool bz2] 41))) := HB4.out.alloc HB4.out.size _
        have HROW5 := Lib.hid ((Below.heap_alloc w4 (.cells #[.slice ta2 rows2.length tc2, .slice ra2 rs2.length rc2, .bool bz2] 41) VB (lt_of_block HROW4.out)).trans HROW4.out)
        have hr40 : rows2.length ≤ 40 := by have := HSI.out.1.1.1; simp only [tK_length] at this; exact this
        have HGV : Hid (∃ GB, w4.heap.size = GB) := ⟨_, rfl⟩
        clear hst hoh
        have HRR : Hid (World.there (w4.alloc (.cells #[.slice ta2 rows2.length tc2, .slice ra2 rs2.length rc2, .bool bz2] 41)) VB 0 (#[.slice ta2 rows2.length tc2, .slice ra2 rs2.length rc2, .bool bz2] : Array Value).size) := (by have := there_rowS HROW5.out; exact this)
        have HVF6 : Hid (HVar ((w4.alloc (.cells #[.slice ta2 rows2.length tc2, .slice ra2 rs2.length rc2, .bool bz2] 41)).setCells VB 0 [.slice ta2 rows2.length tc2, .slice ra2 rs2.length rc2, .bool bz2]) VB (tK rows2, rs2, bz2)) := HOH.out.var HROW5.out rfl HVLA.out
        have HBF6 : Hid (Below w.heap.size w ((w4.alloc (.cells #[.slice ta2 rows2.length tc2, .slice ra2 rs2.length rc2, .bool bz2] 41)).setCells VB 0 [.slice ta2 rows2.length tc2, .slice ra2 rs2.length rc2, .bool bz2])) := below_setCells HVW.out [.slice ta2 rows2.length tc2, .slice ra2 rs2.length rc2, .bool bz2] 0 HBN.out
        obtain ⟨ta3, tc3, rows3, ra3, rc3, hrow3, q1, q2, q3, q4, q5⟩ := HVF6.out
        simp only at hrow3 q3 q4 q5
        have HQR := Lib.hid hrow3
        have HQ1 := Lib.hid q1
        have HQ3 := Lib.hid q3
        have hr3 : rows3.length = rows2.length := by rw [← tK_length, q5, tK_length]
        have HR3 := Lib.hid hr3
        have HQ5 := Lib.hid q5
        clear q1 q3 hrow3 q5 hr3
        have d0 := cell_of_row _ VB 0 _ _ _ HQR.out
        have d1 := cell_of_row _ VB 1 _ _ _ HQR.out
        have d2 := cell_of_row _ VB 2 _ _ _ HQR.out
        simp only [List.getElem?_toArray, List.getElem?_cons_zero, List.getElem?_cons_succ] at d0 d1 d2
        cases bz2 with
        | false =>
          go_wp2_with (with_reducible refine wpList_store_mid rfl 41 (.tmp 3) (.tmp 29) rfl VB 0 #[.slice ta2 rows2.length tc2, .slice ra2 rs2.length rc2, .bool false] rfl rfl HRR.out (HI3.out _ _ _) (HON3.out _ _ _ _ _ _ _) ?_)
          go_roundw
          case rel => exact ⟨i + 1, _, by omega, by go_num, HBF6.out, HVF6.out, HSI.out.1⟩
          case measure => simp [intOf]; omega
        | true =>
          have HMK := Lib.hid (HSI.out.1.2 rfl)
          have hr64 : rs2.length ≤ 64 := HSI.out.1.1.2.1
          go_wp2_with (with_reducible refine wpList_store_mid rfl 41 (.tmp 3) (.tmp 29) rfl VB 0 #[.slice ta2 rows2.length tc2, .slice ra2 rs2.length rc2, .bool true] rfl rfl HRR.out (HI3.out _ _ _) (HON3.out _ _ _ _ _ _ _) ?_)
          generalize (w4.alloc (.cells #[.slice ta2 rows2.length tc2, .slice ra2 rs2.length rc2, .bool true] 41)).setCells VB 0 [.slice ta2 rows2.length tc2, .slice ra2 rs2.length rc2, .bool true] = w6 at *
          go_loopw [36] (fun jv wq => ∃ j : Nat, j ≤ rs2.length ∧ jv = .int .i64 (j : Int) ∧ wq = w6) (fun jv _ => rs2.length - (intOf jv).toNat)
          case atStart => exact ⟨0, by omega, rfl, rfl⟩
          case round =>
            obtain ⟨j, hj, rfl, rfl⟩ := hrel
            by_cases hlt2 : j < rs2.length
            · have m2 : (j : Int) < (rs2.length : Int) := by omega
              obtain ⟨g4, off4, rfl, _, hrc⟩ := HQ3.out.int j hlt2
              have hmem : rs2[j] ∈ rs2 := List.getElem_mem hlt2
              generalize rs2[j] = k at *
              obtain ⟨hk0, t, ht, _⟩ := HSI.out.1.1.2.2.2 k hmem
              have hdk := HMK.out.1 k hmem t ht
              obtain ⟨kn, rfl⟩ := Int.eq_ofNat_of_zero_le hk0
              replace ht : (tK rows2)[kn]? = some t := by rw [Int.toNat_natCast] at ht; exact ht
              rw [← HQ5.out] at ht
              have hk3 : kn < rows3.length := by rw [← tK_length]; exact (List.getElem?_eq_some_iff.1 ht).1
              rw [tK_get rows3 kn hk3] at ht
              injection ht with ht
              obtain ⟨g5, off5, rfl, _, _, z1, _⟩ := HQ1.out.1.thg kn hk3 _ rfl
              rw [ht] at z1
              have hdb : (t.2.1 == 0) = false := by simpa using hdk
              have m3 : (kn : Int) < (rows2.length : Int) := by have := HR3.out; omega
              have m3' : (kn : Int) < (rows3.length : Int) := by omega
              have m4 : (0 : Int) ≤ (kn : Int) := Int.natCast_nonneg _
              clear ht hmem hk0
              go_wp2_with fail
              go_roundw
              case rel => exact ⟨j + 1, by omega, by go_num, by first | rfl | trivial⟩
              case measure => simp [intOf]; omega
            · have m2 : ¬ (j : Int) < (rs2.length : Int) := by omega
              obtain ⟨wo, rfl⟩ : ∃ wo : World, wo = wr := ⟨_, rfl⟩
              go_wp2_with fail
              go_loopw [51] (fun jv wq => ∃ j : Nat, j ≤ rows3.length ∧ jv = .int .i64 (j : Int) ∧ Below wo.heap.size wo wq) (fun jv _ => rows3.length - (intOf jv).toNat)
              case atStart => exact ⟨0, by omega, rfl, Below.refl _ _⟩
              case round =>
                obtain ⟨j2, hj2, rfl, hbq⟩ := hrel
                have HBQ := Lib.hid hbq
                have HTQ := Lib.hid (HQ1.out.below hbq)
                have HRQ := Lib.hid ((hbq.block _ (lt_of_block HQR.out)).trans HQR.out)
                clear hbq d0 d1 d2
                by_cases hlt3 : j2 < rows3.length
                · have m5 : (j2 : Int) < (rows3.length : Int) := by omega
                  have m5b : (j2 : Int) < (rows2.length : Int) := by have := HR3.out; omega
                  have m6 : (0 : Int) ≤ (j2 : Int) := Int.natCast_nonneg _
                  have htq := tK_get rows3 j2 hlt3
                  obtain ⟨g6, off6, rfl, _, y0, y1, y2⟩ := HTQ.out.1.thg j2 hlt3 _ rfl
                  have HKS := Lib.hid (HTQ.out.2 rows3[j2] (List.getElem_mem hlt3))
                  generalize rows3[j2] = r at *
                  obtain ⟨ka, kc, kids, colr, fr⟩ := r
                  simp only at y0 y1 y2 htq HKS
                  rw [HQ5.out] at htq
                  have hba : Below wr.heap.size wr (wr.alloc (.cells #[.slice ka kids.length kc, .int .i64 colr, .bool fr] 47)) := (Below.refl _ _).alloc (Nat.le_refl _) _
                  have HBQ2 := Lib.hid (HBQ.out.trans (hba.mono HBQ.out.size))
                  by_cases hbk : colr = 2
                  · subst hbk
                    have hokt := HSI.out.1.1.2.2.1 _ (List.mem_of_getElem? htq)
                    have HANY : Hid ((kids.any fun k => whiteB (tK rows3) k) = false) := by
                      show _ = _
                      rw [List.any_eq_false]
                      intro k hk
                      have hd := HMK.out.2 j2 _ htq rfl k hk
                      unfold whiteB
                      rw [HQ5.out]
                      cases hq : (tK rows2)[k.toNat]? with
                      | none => simp
                      | some t => simpa using hd t hq
                    have HCW := Lib.hid (containsWhite_any (fun k => whiteB (tK rows3) k) VB ka kc kids _ (fun n hn wx hx => white_any _ tc3 rows3 ra3 rs2.length rc3 true n VB wx ((HTQ.out.below hba).below hx).1 ((hx.block _ (lt_of_block ((hba.block _ (lt_of_block HRQ.out)).trans HRQ.out))).trans ((hba.block _ (lt_of_block HRQ.out)).trans HRQ.out)) (hokt.2.2.2.2 n hn).1 (by
                      obtain ⟨h0, t, ht, _⟩ := hokt.2.2.2.2 n hn
                      have := (List.getElem?_eq_some_iff.1 ht).1
                      simp only [tK_length] at this
                      have := HR3.out
                      omega)) (HKS.out.1.below hba) HKS.out.2)
                    rw [HANY.out] at HCW
                    clear hokt htq hba
                    go_wp2_with fail
                    refine HCW.out.mono ?_
                    rintro e w8 ⟨rfl, hb8⟩
                    have HB8 := Lib.hid (HBQ2.out.trans (hb8.mono HBQ2.out.size))
                    clear hb8
                    go_wp2_with fail
                    go_roundw
                    case rel => exact ⟨j2 + 1, by omega, by go_num, HB8.out⟩
                    case measure => simp [intOf]; omega
                  · have hb2 : (colr == 2) = false := by simpa using hbk
                    clear htq hba
                    go_wp2_with fail
                    go_roundw
                    case rel => exact ⟨j2 + 1, by omega, by go_num, HBQ2.out⟩
                    case measure => simp [intOf]; omega
                · have m5 : ¬ (j2 : Int) < (rows3.length : Int) := by omega
                  have m5b : ¬ (j2 : Int) < (rows2.length : Int) := by have := HR3.out; omega
                  have HVE := Lib.hid (HVF6.out.below HBQ.out)
                  have HBE := Lib.hid (HBF6.out.trans (HBQ.out.mono HBF6.out.size))
                  go_wp2_with fail
                  go_roundw
                  case rel => exact ⟨i + 1, _, by omega, by go_num, HBE.out, HVE.out, HSI.out.1⟩
                  case measure => simp [intOf]; omega
    · have m1 : ¬ (i : Int) < (l.length : Int) := by omega
      go_wp2_with fail
      go_ret
      exact ⟨rfl, HBR.out⟩
end Go.Proofs.Ytgoocmocdimnoaa
