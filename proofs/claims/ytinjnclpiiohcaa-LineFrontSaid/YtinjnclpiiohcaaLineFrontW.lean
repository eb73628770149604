/- The walk of lumkeep.LineFront. -/
import Derived.Test.YtinjnclpiiohcaaLineTools
import Derived.Test.YtinjnclpiiohcaaLineOpen
namespace Go.Proofs.Ytinjnclpiiohcaa
open Go.RowKit Plain
set_option linter.unusedVariables false
set_option linter.unusedSimpArgs false
theorem LInv.hasAny {T : List ByteArray} {had : List Bool} {b : Nat} {got : List ByteArray} {held : List PkT} (h : LInv T had b got held) {i : Nat} (hi : had[i]? = some true) (hg : ¬ i < got.length) (x : ByteArray) (hl : i < T.length) (hx : T[i] = x) : HasAny i x held := by
  rcases h.rcv i hi with h1 | ⟨q, hq, e⟩
  · omega
  · refine ⟨q, hq, e, ?_⟩
    have h2 := (h.hld q hq).2.2
    rw [e, Int.toNat_natCast, List.getElem?_eq_getElem hl, hx] at h2
    exact (Option.some.inj h2).symm
set_option maxRecDepth 100000 in
set_option maxHeartbeats 4000000 in
theorem lineFront_at (g0 o0 : Nat) (sa : Option Addr) (tc sc : Nat) (T : List ByteArray) (xs : List Int) (W : World) (hT : SAt 1 stC W (some ⟨g0, o0, none⟩) T) (hS : SAt 1 scC W sa xs) (nT : T.length ≤ 9223372036854775807) (nc : T.length ≤ tc) (ntc : tc ≤ 9223372036854775807) (nS : xs.length ≤ 9223372036854775807) (hI : ∀ x ∈ xs, I64 x)  :
    Calls Try.prog 4 #[.slice (some ⟨g0, o0, none⟩) T.length tc, .slice sa xs.length sc] W fun e w' => e = .returned (.bool true) ∧ Below W.heap.size W w' := by
  have HS := Lib.hid hT
  have HX := Lib.hid hS
  have HI := Lib.hid hI
  have HBA := Lib.hid ((Below.refl W.heap.size W).alloc (Nat.le_refl _) (.cells #[.slice (some ⟨g0, o0, none⟩) T.length tc] 22))
  have HRA : Hid ((W.alloc (.cells #[.slice (some ⟨g0, o0, none⟩) T.length tc] 22)).heap[W.heap.size]? = some (.cells #[.slice (some ⟨g0, o0, none⟩) T.length tc] 22 (0, 0))) := heap_alloc_new W _
  clear hT hS hI
  go_enter Try.func4, Try.ntmps4
  go_wp2_with fail
  refine (lined_any _).mono ?_
  rintro e w2 ⟨rfl, hb2⟩
  have HB2 := Lib.hid (Below.step HBA.out hb2)
  have HR2 := Lib.hid ((hb2.block _ (lt_of_block HRA.out)).trans HRA.out)
  clear hb2
  have c0 := cell_of_row _ _ 0 _ _ _ HR2.out
  simp only [List.getElem?_toArray, List.getElem?_cons_zero] at c0
  go_wp2_with fail
  refine (short_any (some ⟨g0, o0, none⟩) tc T w2 (HS.out.below HB2.out) nT).mono ?_
  rintro e w3 ⟨⟨b, rfl, hb⟩, hb3⟩
  have HB3 := Lib.hid (Below.step HB2.out hb3)
  have HR3 := Lib.hid ((hb3.block _ (lt_of_block HR2.out)).trans HR2.out)
  have HSH := Lib.hid hb
  clear hb3 hb c0
  cases b with
  | false =>
    go_wp2_with fail
    refine (lined_any _).mono ?_
    rintro e w4 ⟨rfl, hb4⟩
    have HB4 := Lib.hid (Below.step HB3.out hb4)
    clear hb4
    go_wp2_with fail
    go_ret
    exact ⟨rfl, HB4.out⟩
  | true =>
    have HT := Lib.hid (HSH.out.1 rfl)
    clear HSH
    by_cases hxl : (xs.length : Int) > 200
    · have hd : decide ((xs.length : Int) > 200) = true := decide_eq_true hxl
      go_wp2_with fail
      refine (lined_any _).mono ?_
      rintro e w4 ⟨rfl, hb4⟩
      have HB4 := Lib.hid (Below.step HB3.out hb4)
      clear hb4
      go_wp2_with fail
      go_ret
      exact ⟨rfl, HB4.out⟩
    have hd : decide ((xs.length : Int) > 200) = false := decide_eq_false hxl
    have hxl2 : (xs.length : Int) ≤ 200 := by omega
    have c0 := cell_of_row _ _ 0 _ _ _ HR3.out
    simp only [List.getElem?_toArray, List.getElem?_cons_zero] at c0
    go_wp2_with fail
    refine (begun_any (some ⟨g0, o0, none⟩) tc T w3 (HS.out.below HB3.out) HT.out).mono ?_
    rintro e w4 ⟨hb4, wb, ha, hc, rfl, hw4⟩
    have HW4 := Lib.hid hw4
    have HB4 := Lib.hid (Below.step HB3.out hb4)
    have HR4 := Lib.hid ((hb4.block _ (lt_of_block HR3.out)).trans HR3.out)
    have HL3 : Hid (W.heap.size < w3.heap.size) := lt_of_block HR3.out
    have HZ4 := Lib.hid hb4.size
    clear hw4 hb4 c0
    go_wp2_with fail
    go_loopw [28] (fun iv wr => ∃ (j : Nat) (s : LSt ByteArray) (ta : Option Addr) (tk : Nat) (ha : Option Addr) (hc : Nat) (ga : Option Addr) (gc : Nat) (la : Option Addr) (lc : Nat) (na : Option Addr) (nn : Nat), j ≤ xs.length ∧ iv = .int .i64 (j : Int) ∧ Hid (Below w3.heap.size w4 wr) ∧ Hid (s.Ok T) ∧ Hid (s.net.length ≤ 8 * j) ∧ Hid (WSt w3.heap.size wb T s ta tk ha hc ga gc la lc na nn wr)) (fun iv _ => xs.length - (intOf iv).toNat)
    case atStart => exact ⟨0, LSt.start T, _, _, _, _, _, _, _, _, _, _, by omega, rfl, Lib.hid (Below.refl _ _), Lib.hid (LSt.start_ok T), Lib.hid (Nat.le_refl 0), HW4⟩
    case round =>
      obtain ⟨j, s, ta, tk, ha2, hc2, ga, gc, la, lc, na, nn, hj, rfl, HBR, HOK, HNL, HWS⟩ := hrel
      have m0 : (0 : Int) ≤ (j : Int) := Int.natCast_nonneg _
      have HBW := Lib.hid (Below.trans HB4.out (HBR.out.mono (Nat.le_of_lt HL3.out)))
      by_cases hjl : j < xs.length
      · have m1 : (j : Int) < (xs.length : Int) := by omega
        obtain ⟨x, hx⟩ : ∃ x, xs[j] = x := ⟨_, rfl⟩
        obtain ⟨g, off, hsa, hg, c1⟩ := SAt.cell1 (fun n => .int .i64 n) (fun _ => rfl) (HX.out.below HBW.out) j hjl x hx
        subst hsa
        have HIX : Hid (I64 x) := HI.out x (by rw [← hx]; exact List.getElem_mem _)
        clear hx hg
        go_wp2_with fail
        refine (step_any _ wb T x HIX.out.1 HIX.out.2 _ rfl s _ _ _ _ _ _ _ _ _ _ wr HWS.out HOK.out HT.out (by have := HNL.out; omega)).mono ?_
        rintro e w5 ⟨rfl, hb5, s5, ta5, tk5, ha5, hc5, ga5, gc5, la5, lc5, na5, nn5, hm5, hw5⟩
        have HO5 := Lib.hid (hm5.ok HOK.out)
        have HW5 := Lib.hid hw5
        have HB5 := Lib.hid (HBR.out.trans hb5)
        have HBW5 := Lib.hid (Below.trans HB4.out (HB5.out.mono (Nat.le_of_lt HL3.out)))
        have HR5 := Lib.hid ((HB5.out.block _ HL3.out).trans HR4.out)
        clear hm5 hw5 hb5 c1 HBW HOK HWS HBR HIX
        have c0 := cell_of_row _ _ 0 _ _ _ HR5.out
        simp only [List.getElem?_toArray, List.getElem?_cons_zero] at c0
        have r0 := cell_of_row _ _ 0 _ _ _ HW5.out.row
        have r1 := cell_of_row _ _ 1 _ _ _ HW5.out.row
        have r2 := cell_of_row _ _ 2 _ _ _ HW5.out.row
        have r3 := cell_of_row _ _ 3 _ _ _ HW5.out.row
        have r4 := cell_of_row _ _ 4 _ _ _ HW5.out.row
        have r5 := cell_of_row _ _ 5 _ _ _ HW5.out.row
        have r6 := cell_of_row _ _ 6 _ _ _ HW5.out.row
        simp only [List.getElem?_toArray, List.getElem?_cons_succ, List.getElem?_cons_zero] at r0 r1 r2 r3 r4 r5 r6
        have hgl := HO5.out.1.1.gle
        have hbl := HO5.out.1.1.base_le
        have HLT5 : Hid (s5.had.length = T.length) := HO5.out.1.1.len
        have HHL5 : Hid (s5.held.length ≤ 7) := HO5.out.1.1.held_le
        have HGT : Hid (s5.got = T.take s5.got.length) := HO5.out.1.1.beg
        have a1 : decide ((s5.got.length : Int) > (T.length : Int)) = false := decide_eq_false (by omega)
        have a2 : decide ((s5.b : Int) > (s5.got.length : Int)) = false := decide_eq_false (by omega)
        have a3 : (0 : Int) ≤ (s5.got.length : Int) := Int.natCast_nonneg _
        have a4 : (s5.got.length : Int) ≤ (T.length : Int) := by omega
        have a5 : (s5.got.length : Int) ≤ (tc : Int) := by omega
        have HEQ : Hid (∀ a2 c2 n, (s5.got ≠ [] → a2 = (some ⟨g0, o0, none⟩)) → Calls Try.prog 27 #[.slice ga5 s5.got.length gc5, .slice a2 s5.got.length c2] (w5.drewN n) fun e w' => e = .returned (.bool true) ∧ ∃ q, w' = (w5.drewN n).drewN q) := fun a2 c2 n h => by
          have hln : (T.take s5.got.length).length = s5.got.length := by rw [List.length_take]; omega
          have hsa : SAt 1 stC (w5.drewN n) a2 (T.take s5.got.length) := by
            intro i hi
            have hne : s5.got ≠ [] := fun e => by rw [e] at hi; simp at hi
            rw [h hne]
            rw [hln] at hi
            obtain ⟨g, off, e, hg, hr⟩ := HS.out.below (below_dn HBW5.out n) i (by omega)
            refine ⟨g, off, e, hg, fun j u hu => hr j u ?_⟩
            rw [List.getElem_take] at hu
            exact hu
          have hq := eqS_any ga5 a2 gc5 c2 s5.got (T.take s5.got.length) (w5.drewN n) (HW5.out.g.1.below (below_dn (Below.refl _ _) n)) hsa (by omega) (by rw [hln]; omega)
          rw [hln] at hq
          refine hq.mono ?_
          rintro e w' ⟨rfl, hw⟩
          exact ⟨by rw [decide_eq_true HGT.out], hw⟩
        go_wp2_with fail
        go_quiet ((go_at_call 27; exact Calls.quiet_of (HEQ.out _ _ _ (fun _ => rfl))))
        have HW6 := Lib.hid (HW5.out.below (below_dn (Below.refl _ _) nq))
        have HB6 := Lib.hid (below_dn HB5.out nq)
        have HBW6 := Lib.hid (below_dn HBW5.out nq)
        have HR6 : Hid ((w5.drewN nq).heap[W.heap.size]? = some (.cells #[.slice (some ⟨g0, o0, none⟩) T.length tc] 22 (0, 0))) := HR5.out
        have HZ6 : Hid (w3.heap.size ≤ (w5.drewN nq).heap.size) := Nat.le_trans HZ4.out HB6.out.size
        have z1 : decide (T.length < s5.got.length) = false := decide_eq_false (by omega)
        have z2 : decide (s5.got.length < s5.b) = false := decide_eq_false (by omega)
        simp only [z1, z2, Bool.or_false]
        clear z1 z2
        clear HEQ HW5 HB5 HBW5 HR5 c0 r0 r1 r2 r3 r4 r5 r6 a1 a2 a3 a4 a5
        generalize w5.drewN nq = w6 at *
        have r1 := cell_of_row _ _ 1 _ _ _ HW6.out.row
        simp only [List.getElem?_toArray, List.getElem?_cons_succ, List.getElem?_cons_zero] at r1
        go_wp2_with fail
        go_loopw [78] (fun iv wr => ∃ i : Nat, i ≤ s5.had.length ∧ iv = .int .i64 (i : Int) ∧ Hid (Below w6.heap.size w6 wr)) (fun iv _ => s5.had.length - (intOf iv).toNat)
        case atStart => exact ⟨0, by omega, rfl, Lib.hid (Below.refl _ _)⟩
        case round =>
          obtain ⟨i, hi, rfl, HBI⟩ := hrel
          have n0 : (0 : Int) ≤ (i : Int) := Int.natCast_nonneg _
          have hh60 : s5.had.length ≤ 60 := by have h1 := HLT5.out; have h2 := HT.out.1; omega
          by_cases hil : i < s5.had.length
          · have n1 : (i : Int) < (s5.had.length : Int) := by omega
            obtain ⟨y, hy⟩ : ∃ y, s5.had[i] = y := ⟨_, rfl⟩
            obtain ⟨gh, oh, hha, hgh, ch⟩ := SAt.cell1 (fun b => .bool b) (fun _ => rfl) (HW6.out.h.1.below HBI.out) i hil y hy
            subst hha
            have HY := Lib.hid hy
            have HBJ := Lib.hid (HBI.out.alloc HBI.out.size (.cells #[.int .i64 (i : Int)] 3))
            have HIR : Hid ((wr.alloc (.cells #[.int .i64 (i : Int)] 3)).heap[wr.heap.size]? = some (.cells #[.int .i64 (i : Int)] 3 (0, 0))) := heap_alloc_new wr _
            have HWJ := Lib.hid (HW6.out.below HBJ.out)
            have q0 := cell_of_row _ _ 0 _ _ _ HIR.out
            have r4 := cell_of_row _ _ 4 _ _ _ HWJ.out.row
            simp only [List.getElem?_toArray, List.getElem?_cons_succ, List.getElem?_cons_zero] at q0 r4
            clear hy hgh
            cases y with
            | false =>
              go_wp2_with fail
              go_roundw
              case rel => exact ⟨i + 1, by omega, by go_num, HBJ⟩
              case measure => simp [intOf]; omega
            | true =>
              by_cases hge : (s5.got.length : Int) ≤ (i : Int)
              · have hd2 : decide ((i : Int) ≥ (s5.got.length : Int)) = true := decide_eq_true hge
                have HCG : Hid (Caught wr.heap.size W.heap.size i T (some ⟨g0, o0, none⟩) tc (wr.alloc (.cells #[.int .i64 (i : Int)] 3))) :=
                  ⟨HIR.out, (HBJ.out.block _ (lt_of_block HR6.out)).trans HR6.out, HS.out.below (Below.trans HBW6.out (HBJ.out.mono HBW6.out.size))⟩
                have hiT : i < T.length := by have := HLT5.out; omega
                have HAN : Hid (HasAny i T[i] s5.held) := LInv.hasAny HO5.out.1.1 (by rw [List.getElem?_eq_getElem hil, HY.out]) (by omega) _ hiT rfl
                have HCN := Lib.hid (containsK_any la5 lc5 s5.held wr.heap.size W.heap.size i T (some ⟨g0, o0, none⟩) tc T[i] (wr.alloc (.cells #[.int .i64 (i : Int)] 3)) HWJ.out.l.1 (by have := HHL5.out; omega) HCG.out hiT rfl nT HAN.out)
                clear HCG HAN hiT
                go_wp2_with fail
                refine HCN.out.mono ?_
                rintro e w9 ⟨rfl, hb9⟩
                have HB9 := Lib.hid (Below.step HBJ.out hb9)
                clear hb9
                go_wp2_with fail
                go_roundw
                case rel => exact ⟨i + 1, by omega, by go_num, HB9⟩
                case measure => simp [intOf]; omega
              · have hd2 : decide ((i : Int) ≥ (s5.got.length : Int)) = false := decide_eq_false (by omega)
                go_wp2_with fail
                go_roundw
                case rel => exact ⟨i + 1, by omega, by go_num, HBJ⟩
                case measure => simp [intOf]; omega
          · have n1 : ¬ (i : Int) < (s5.had.length : Int) := by omega
            have HBE := Lib.hid (Below.trans HB6.out (HBI.out.mono HZ6.out))
            have HWE := Lib.hid (HW6.out.below HBI.out)
            have HNE : Hid (s5.net.length ≤ 8 * (j + 1)) := by have h1 := HO5.out.2; have h2 := HNL.out; show _ ≤ _; omega
            have HOE := Lib.hid HO5.out.1
            go_wp2_with fail
            go_roundw
            case rel => exact ⟨j + 1, s5, _, _, _, _, _, _, _, _, _, _, by omega, by go_num, HBE, HOE, HNE, HWE⟩
            case measure => simp [intOf]; omega
      · have m1 : ¬ (j : Int) < (xs.length : Int) := by omega
        go_wp2_with fail
        go_ret
        exact ⟨rfl, HBW.out⟩
set_option maxRecDepth 100000 in
set_option maxHeartbeats 4000000 in
theorem lineFront_none  (sa : Option Addr) (tc sc : Nat) (T : List ByteArray) (xs : List Int) (W : World) (hT : SAt 1 stC W (none : Option Addr) T) (hS : SAt 1 scC W sa xs) (nT : T.length ≤ 9223372036854775807) (nc : T.length ≤ tc) (ntc : tc ≤ 9223372036854775807) (nS : xs.length ≤ 9223372036854775807) (hI : ∀ x ∈ xs, I64 x) (hE : T.length = 0) :
    Calls Try.prog 4 #[.slice (none : Option Addr) T.length tc, .slice sa xs.length sc] W fun e w' => e = .returned (.bool true) ∧ Below W.heap.size W w' := by
  have HE : Hid (T.length = 0) := hE
  clear hE
  have HS := Lib.hid hT
  have HX := Lib.hid hS
  have HI := Lib.hid hI
  have HBA := Lib.hid ((Below.refl W.heap.size W).alloc (Nat.le_refl _) (.cells #[.slice (none : Option Addr) T.length tc] 22))
  have HRA : Hid ((W.alloc (.cells #[.slice (none : Option Addr) T.length tc] 22)).heap[W.heap.size]? = some (.cells #[.slice (none : Option Addr) T.length tc] 22 (0, 0))) := heap_alloc_new W _
  clear hT hS hI
  go_enter Try.func4, Try.ntmps4
  go_wp2_with fail
  refine (lined_any _).mono ?_
  rintro e w2 ⟨rfl, hb2⟩
  have HB2 := Lib.hid (Below.step HBA.out hb2)
  have HR2 := Lib.hid ((hb2.block _ (lt_of_block HRA.out)).trans HRA.out)
  clear hb2
  have c0 := cell_of_row _ _ 0 _ _ _ HR2.out
  simp only [List.getElem?_toArray, List.getElem?_cons_zero] at c0
  go_wp2_with fail
  refine (short_any (none : Option Addr) tc T w2 (HS.out.below HB2.out) nT).mono ?_
  rintro e w3 ⟨⟨b, rfl, hb⟩, hb3⟩
  have HB3 := Lib.hid (Below.step HB2.out hb3)
  have HR3 := Lib.hid ((hb3.block _ (lt_of_block HR2.out)).trans HR2.out)
  have HSH := Lib.hid hb
  clear hb3 hb c0
  cases b with
  | false =>
    go_wp2_with fail
    refine (lined_any _).mono ?_
    rintro e w4 ⟨rfl, hb4⟩
    have HB4 := Lib.hid (Below.step HB3.out hb4)
    clear hb4
    go_wp2_with fail
    go_ret
    exact ⟨rfl, HB4.out⟩
  | true =>
    have HT := Lib.hid (HSH.out.1 rfl)
    clear HSH
    by_cases hxl : (xs.length : Int) > 200
    · have hd : decide ((xs.length : Int) > 200) = true := decide_eq_true hxl
      go_wp2_with fail
      refine (lined_any _).mono ?_
      rintro e w4 ⟨rfl, hb4⟩
      have HB4 := Lib.hid (Below.step HB3.out hb4)
      clear hb4
      go_wp2_with fail
      go_ret
      exact ⟨rfl, HB4.out⟩
    have hd : decide ((xs.length : Int) > 200) = false := decide_eq_false hxl
    have hxl2 : (xs.length : Int) ≤ 200 := by omega
    have c0 := cell_of_row _ _ 0 _ _ _ HR3.out
    simp only [List.getElem?_toArray, List.getElem?_cons_zero] at c0
    go_wp2_with fail
    refine (begun_any (none : Option Addr) tc T w3 (HS.out.below HB3.out) HT.out).mono ?_
    rintro e w4 ⟨hb4, wb, ha, hc, rfl, hw4⟩
    have HW4 := Lib.hid hw4
    have HB4 := Lib.hid (Below.step HB3.out hb4)
    have HR4 := Lib.hid ((hb4.block _ (lt_of_block HR3.out)).trans HR3.out)
    have HL3 : Hid (W.heap.size < w3.heap.size) := lt_of_block HR3.out
    have HZ4 := Lib.hid hb4.size
    clear hw4 hb4 c0
    go_wp2_with fail
    go_loopw [28] (fun iv wr => ∃ (j : Nat) (s : LSt ByteArray) (ta : Option Addr) (tk : Nat) (ha : Option Addr) (hc : Nat) (ga : Option Addr) (gc : Nat) (la : Option Addr) (lc : Nat) (na : Option Addr) (nn : Nat), j ≤ xs.length ∧ iv = .int .i64 (j : Int) ∧ Hid (Below w3.heap.size w4 wr) ∧ Hid (s.Ok T) ∧ Hid (s.net.length ≤ 8 * j) ∧ Hid (WSt w3.heap.size wb T s ta tk ha hc ga gc la lc na nn wr)) (fun iv _ => xs.length - (intOf iv).toNat)
    case atStart => exact ⟨0, LSt.start T, _, _, _, _, _, _, _, _, _, _, by omega, rfl, Lib.hid (Below.refl _ _), Lib.hid (LSt.start_ok T), Lib.hid (Nat.le_refl 0), HW4⟩
    case round =>
      obtain ⟨j, s, ta, tk, ha2, hc2, ga, gc, la, lc, na, nn, hj, rfl, HBR, HOK, HNL, HWS⟩ := hrel
      have m0 : (0 : Int) ≤ (j : Int) := Int.natCast_nonneg _
      have HBW := Lib.hid (Below.trans HB4.out (HBR.out.mono (Nat.le_of_lt HL3.out)))
      by_cases hjl : j < xs.length
      · have m1 : (j : Int) < (xs.length : Int) := by omega
        obtain ⟨x, hx⟩ : ∃ x, xs[j] = x := ⟨_, rfl⟩
        obtain ⟨g, off, hsa, hg, c1⟩ := SAt.cell1 (fun n => .int .i64 n) (fun _ => rfl) (HX.out.below HBW.out) j hjl x hx
        subst hsa
        have HIX : Hid (I64 x) := HI.out x (by rw [← hx]; exact List.getElem_mem _)
        clear hx hg
        go_wp2_with fail
        refine (step_any _ wb T x HIX.out.1 HIX.out.2 _ rfl s _ _ _ _ _ _ _ _ _ _ wr HWS.out HOK.out HT.out (by have := HNL.out; omega)).mono ?_
        rintro e w5 ⟨rfl, hb5, s5, ta5, tk5, ha5, hc5, ga5, gc5, la5, lc5, na5, nn5, hm5, hw5⟩
        have HO5 := Lib.hid (hm5.ok HOK.out)
        have HW5 := Lib.hid hw5
        have HB5 := Lib.hid (HBR.out.trans hb5)
        have HBW5 := Lib.hid (Below.trans HB4.out (HB5.out.mono (Nat.le_of_lt HL3.out)))
        have HR5 := Lib.hid ((HB5.out.block _ HL3.out).trans HR4.out)
        clear hm5 hw5 hb5 c1 HBW HOK HWS HBR HIX
        have c0 := cell_of_row _ _ 0 _ _ _ HR5.out
        simp only [List.getElem?_toArray, List.getElem?_cons_zero] at c0
        have r0 := cell_of_row _ _ 0 _ _ _ HW5.out.row
        have r1 := cell_of_row _ _ 1 _ _ _ HW5.out.row
        have r2 := cell_of_row _ _ 2 _ _ _ HW5.out.row
        have r3 := cell_of_row _ _ 3 _ _ _ HW5.out.row
        have r4 := cell_of_row _ _ 4 _ _ _ HW5.out.row
        have r5 := cell_of_row _ _ 5 _ _ _ HW5.out.row
        have r6 := cell_of_row _ _ 6 _ _ _ HW5.out.row
        simp only [List.getElem?_toArray, List.getElem?_cons_succ, List.getElem?_cons_zero] at r0 r1 r2 r3 r4 r5 r6
        have hgl := HO5.out.1.1.gle
        have hbl := HO5.out.1.1.base_le
        have HLT5 : Hid (s5.had.length = T.length) := HO5.out.1.1.len
        have HHL5 : Hid (s5.held.length ≤ 7) := HO5.out.1.1.held_le
        have HGT : Hid (s5.got = T.take s5.got.length) := HO5.out.1.1.beg
        have a1 : decide ((s5.got.length : Int) > (T.length : Int)) = false := decide_eq_false (by omega)
        have a2 : decide ((s5.b : Int) > (s5.got.length : Int)) = false := decide_eq_false (by omega)
        have a3 : (0 : Int) ≤ (s5.got.length : Int) := Int.natCast_nonneg _
        have a4 : (s5.got.length : Int) ≤ (T.length : Int) := by omega
        have a5 : (s5.got.length : Int) ≤ (tc : Int) := by omega
        have HEQ : Hid (∀ a2 c2 n, (s5.got ≠ [] → a2 = (none : Option Addr)) → Calls Try.prog 27 #[.slice ga5 s5.got.length gc5, .slice a2 s5.got.length c2] (w5.drewN n) fun e w' => e = .returned (.bool true) ∧ ∃ q, w' = (w5.drewN n).drewN q) := fun a2 c2 n h => by
          have hln : (T.take s5.got.length).length = s5.got.length := by rw [List.length_take]; omega
          have hsa : SAt 1 stC (w5.drewN n) a2 (T.take s5.got.length) := by
            intro i hi
            have hne : s5.got ≠ [] := fun e => by rw [e] at hi; simp at hi
            rw [h hne]
            rw [hln] at hi
            obtain ⟨g, off, e, hg, hr⟩ := HS.out.below (below_dn HBW5.out n) i (by omega)
            refine ⟨g, off, e, hg, fun j u hu => hr j u ?_⟩
            rw [List.getElem_take] at hu
            exact hu
          have hq := eqS_any ga5 a2 gc5 c2 s5.got (T.take s5.got.length) (w5.drewN n) (HW5.out.g.1.below (below_dn (Below.refl _ _) n)) hsa (by omega) (by rw [hln]; omega)
          rw [hln] at hq
          refine hq.mono ?_
          rintro e w' ⟨rfl, hw⟩
          exact ⟨by rw [decide_eq_true HGT.out], hw⟩
        go_wp2_with fail
        go_quiet ((go_at_call 27; exact Calls.quiet_of (HEQ.out _ _ _ (fun h => absurd (List.eq_nil_of_length_eq_zero (Nat.le_zero.1 (Nat.le_trans hgl (Nat.le_of_eq HE.out)))) h))))
        have HW6 := Lib.hid (HW5.out.below (below_dn (Below.refl _ _) nq))
        have HB6 := Lib.hid (below_dn HB5.out nq)
        have HBW6 := Lib.hid (below_dn HBW5.out nq)
        have HR6 : Hid ((w5.drewN nq).heap[W.heap.size]? = some (.cells #[.slice (none : Option Addr) T.length tc] 22 (0, 0))) := HR5.out
        have HZ6 : Hid (w3.heap.size ≤ (w5.drewN nq).heap.size) := Nat.le_trans HZ4.out HB6.out.size
        have z1 : decide (T.length < s5.got.length) = false := decide_eq_false (by omega)
        have z2 : decide (s5.got.length < s5.b) = false := decide_eq_false (by omega)
        simp only [z1, z2, Bool.or_false]
        clear z1 z2
        clear HEQ HW5 HB5 HBW5 HR5 c0 r0 r1 r2 r3 r4 r5 r6 a1 a2 a3 a4 a5
        generalize w5.drewN nq = w6 at *
        have r1 := cell_of_row _ _ 1 _ _ _ HW6.out.row
        simp only [List.getElem?_toArray, List.getElem?_cons_succ, List.getElem?_cons_zero] at r1
        go_wp2_with fail
        go_loopw [78] (fun iv wr => ∃ i : Nat, i ≤ s5.had.length ∧ iv = .int .i64 (i : Int) ∧ Hid (Below w6.heap.size w6 wr)) (fun iv _ => s5.had.length - (intOf iv).toNat)
        case atStart => exact ⟨0, by omega, rfl, Lib.hid (Below.refl _ _)⟩
        case round =>
          obtain ⟨i, hi, rfl, HBI⟩ := hrel
          have n0 : (0 : Int) ≤ (i : Int) := Int.natCast_nonneg _
          have hh60 : s5.had.length ≤ 60 := by have h1 := HLT5.out; have h2 := HT.out.1; omega
          by_cases hil : i < s5.had.length
          · have n1 : (i : Int) < (s5.had.length : Int) := by omega
            obtain ⟨y, hy⟩ : ∃ y, s5.had[i] = y := ⟨_, rfl⟩
            obtain ⟨gh, oh, hha, hgh, ch⟩ := SAt.cell1 (fun b => .bool b) (fun _ => rfl) (HW6.out.h.1.below HBI.out) i hil y hy
            subst hha
            have HY := Lib.hid hy
            have HBJ := Lib.hid (HBI.out.alloc HBI.out.size (.cells #[.int .i64 (i : Int)] 3))
            have HIR : Hid ((wr.alloc (.cells #[.int .i64 (i : Int)] 3)).heap[wr.heap.size]? = some (.cells #[.int .i64 (i : Int)] 3 (0, 0))) := heap_alloc_new wr _
            have HWJ := Lib.hid (HW6.out.below HBJ.out)
            have q0 := cell_of_row _ _ 0 _ _ _ HIR.out
            have r4 := cell_of_row _ _ 4 _ _ _ HWJ.out.row
            simp only [List.getElem?_toArray, List.getElem?_cons_succ, List.getElem?_cons_zero] at q0 r4
            clear hy hgh
            cases y with
            | false =>
              go_wp2_with fail
              go_roundw
              case rel => exact ⟨i + 1, by omega, by go_num, HBJ⟩
              case measure => simp [intOf]; omega
            | true =>
              by_cases hge : (s5.got.length : Int) ≤ (i : Int)
              · have hd2 : decide ((i : Int) ≥ (s5.got.length : Int)) = true := decide_eq_true hge
                have HCG : Hid (Caught wr.heap.size W.heap.size i T (none : Option Addr) tc (wr.alloc (.cells #[.int .i64 (i : Int)] 3))) :=
                  ⟨HIR.out, (HBJ.out.block _ (lt_of_block HR6.out)).trans HR6.out, HS.out.below (Below.trans HBW6.out (HBJ.out.mono HBW6.out.size))⟩
                have hiT : i < T.length := by have := HLT5.out; omega
                have HAN : Hid (HasAny i T[i] s5.held) := LInv.hasAny HO5.out.1.1 (by rw [List.getElem?_eq_getElem hil, HY.out]) (by omega) _ hiT rfl
                have HCN := Lib.hid (containsK_any la5 lc5 s5.held wr.heap.size W.heap.size i T (none : Option Addr) tc T[i] (wr.alloc (.cells #[.int .i64 (i : Int)] 3)) HWJ.out.l.1 (by have := HHL5.out; omega) HCG.out hiT rfl nT HAN.out)
                clear HCG HAN hiT
                go_wp2_with fail
                refine HCN.out.mono ?_
                rintro e w9 ⟨rfl, hb9⟩
                have HB9 := Lib.hid (Below.step HBJ.out hb9)
                clear hb9
                go_wp2_with fail
                go_roundw
                case rel => exact ⟨i + 1, by omega, by go_num, HB9⟩
                case measure => simp [intOf]; omega
              · have hd2 : decide ((i : Int) ≥ (s5.got.length : Int)) = false := decide_eq_false (by omega)
                go_wp2_with fail
                go_roundw
                case rel => exact ⟨i + 1, by omega, by go_num, HBJ⟩
                case measure => simp [intOf]; omega
          · have n1 : ¬ (i : Int) < (s5.had.length : Int) := by omega
            have HBE := Lib.hid (Below.trans HB6.out (HBI.out.mono HZ6.out))
            have HWE := Lib.hid (HW6.out.below HBI.out)
            have HNE : Hid (s5.net.length ≤ 8 * (j + 1)) := by have h1 := HO5.out.2; have h2 := HNL.out; show _ ≤ _; omega
            have HOE := Lib.hid HO5.out.1
            go_wp2_with fail
            go_roundw
            case rel => exact ⟨j + 1, s5, _, _, _, _, _, _, _, _, _, _, by omega, by go_num, HBE, HOE, HNE, HWE⟩
            case measure => simp [intOf]; omega
      · have m1 : ¬ (j : Int) < (xs.length : Int) := by omega
        go_wp2_with fail
        go_ret
        exact ⟨rfl, HBW.out⟩
set_option maxRecDepth 100000 in
set_option maxHeartbeats 4000000 in
theorem lineFront_empty (ad : Addr) (sa : Option Addr) (tc sc : Nat) (T : List ByteArray) (xs : List Int) (W : World) (hT : SAt 1 stC W (some ad) T) (hS : SAt 1 scC W sa xs) (nT : T.length ≤ 9223372036854775807) (nc : T.length ≤ tc) (ntc : tc ≤ 9223372036854775807) (nS : xs.length ≤ 9223372036854775807) (hI : ∀ x ∈ xs, I64 x) (hE : T.length = 0) :
    Calls Try.prog 4 #[.slice (some ad) T.length tc, .slice sa xs.length sc] W fun e w' => e = .returned (.bool true) ∧ Below W.heap.size W w' := by
  have HE : Hid (T.length = 0) := hE
  clear hE
  have HS := Lib.hid hT
  have HX := Lib.hid hS
  have HI := Lib.hid hI
  have HBA := Lib.hid ((Below.refl W.heap.size W).alloc (Nat.le_refl _) (.cells #[.slice (some ad) T.length tc] 22))
  have HRA : Hid ((W.alloc (.cells #[.slice (some ad) T.length tc] 22)).heap[W.heap.size]? = some (.cells #[.slice (some ad) T.length tc] 22 (0, 0))) := heap_alloc_new W _
  clear hT hS hI
  go_enter Try.func4, Try.ntmps4
  go_wp2_with fail
  refine (lined_any _).mono ?_
  rintro e w2 ⟨rfl, hb2⟩
  have HB2 := Lib.hid (Below.step HBA.out hb2)
  have HR2 := Lib.hid ((hb2.block _ (lt_of_block HRA.out)).trans HRA.out)
  clear hb2
  have c0 := cell_of_row _ _ 0 _ _ _ HR2.out
  simp only [List.getElem?_toArray, List.getElem?_cons_zero] at c0
  go_wp2_with fail
  refine (short_any (some ad) tc T w2 (HS.out.below HB2.out) nT).mono ?_
  rintro e w3 ⟨⟨b, rfl, hb⟩, hb3⟩
  have HB3 := Lib.hid (Below.step HB2.out hb3)
  have HR3 := Lib.hid ((hb3.block _ (lt_of_block HR2.out)).trans HR2.out)
  have HSH := Lib.hid hb
  clear hb3 hb c0
  cases b with
  | false =>
    go_wp2_with fail
    refine (lined_any _).mono ?_
    rintro e w4 ⟨rfl, hb4⟩
    have HB4 := Lib.hid (Below.step HB3.out hb4)
    clear hb4
    go_wp2_with fail
    go_ret
    exact ⟨rfl, HB4.out⟩
  | true =>
    have HT := Lib.hid (HSH.out.1 rfl)
    clear HSH
    by_cases hxl : (xs.length : Int) > 200
    · have hd : decide ((xs.length : Int) > 200) = true := decide_eq_true hxl
      go_wp2_with fail
      refine (lined_any _).mono ?_
      rintro e w4 ⟨rfl, hb4⟩
      have HB4 := Lib.hid (Below.step HB3.out hb4)
      clear hb4
      go_wp2_with fail
      go_ret
      exact ⟨rfl, HB4.out⟩
    have hd : decide ((xs.length : Int) > 200) = false := decide_eq_false hxl
    have hxl2 : (xs.length : Int) ≤ 200 := by omega
    have c0 := cell_of_row _ _ 0 _ _ _ HR3.out
    simp only [List.getElem?_toArray, List.getElem?_cons_zero] at c0
    go_wp2_with fail
    refine (begun_any (some ad) tc T w3 (HS.out.below HB3.out) HT.out).mono ?_
    rintro e w4 ⟨hb4, wb, ha, hc, rfl, hw4⟩
    have HW4 := Lib.hid hw4
    have HB4 := Lib.hid (Below.step HB3.out hb4)
    have HR4 := Lib.hid ((hb4.block _ (lt_of_block HR3.out)).trans HR3.out)
    have HL3 : Hid (W.heap.size < w3.heap.size) := lt_of_block HR3.out
    have HZ4 := Lib.hid hb4.size
    clear hw4 hb4 c0
    go_wp2_with fail
    go_loopw [28] (fun iv wr => ∃ (j : Nat) (s : LSt ByteArray) (ta : Option Addr) (tk : Nat) (ha : Option Addr) (hc : Nat) (ga : Option Addr) (gc : Nat) (la : Option Addr) (lc : Nat) (na : Option Addr) (nn : Nat), j ≤ xs.length ∧ iv = .int .i64 (j : Int) ∧ Hid (Below w3.heap.size w4 wr) ∧ Hid (s.Ok T) ∧ Hid (s.net.length ≤ 8 * j) ∧ Hid (WSt w3.heap.size wb T s ta tk ha hc ga gc la lc na nn wr)) (fun iv _ => xs.length - (intOf iv).toNat)
    case atStart => exact ⟨0, LSt.start T, _, _, _, _, _, _, _, _, _, _, by omega, rfl, Lib.hid (Below.refl _ _), Lib.hid (LSt.start_ok T), Lib.hid (Nat.le_refl 0), HW4⟩
    case round =>
      obtain ⟨j, s, ta, tk, ha2, hc2, ga, gc, la, lc, na, nn, hj, rfl, HBR, HOK, HNL, HWS⟩ := hrel
      have m0 : (0 : Int) ≤ (j : Int) := Int.natCast_nonneg _
      have HBW := Lib.hid (Below.trans HB4.out (HBR.out.mono (Nat.le_of_lt HL3.out)))
      by_cases hjl : j < xs.length
      · have m1 : (j : Int) < (xs.length : Int) := by omega
        obtain ⟨x, hx⟩ : ∃ x, xs[j] = x := ⟨_, rfl⟩
        obtain ⟨g, off, hsa, hg, c1⟩ := SAt.cell1 (fun n => .int .i64 n) (fun _ => rfl) (HX.out.below HBW.out) j hjl x hx
        subst hsa
        have HIX : Hid (I64 x) := HI.out x (by rw [← hx]; exact List.getElem_mem _)
        clear hx hg
        go_wp2_with fail
        refine (step_any _ wb T x HIX.out.1 HIX.out.2 _ rfl s _ _ _ _ _ _ _ _ _ _ wr HWS.out HOK.out HT.out (by have := HNL.out; omega)).mono ?_
        rintro e w5 ⟨rfl, hb5, s5, ta5, tk5, ha5, hc5, ga5, gc5, la5, lc5, na5, nn5, hm5, hw5⟩
        have HO5 := Lib.hid (hm5.ok HOK.out)
        have HW5 := Lib.hid hw5
        have HB5 := Lib.hid (HBR.out.trans hb5)
        have HBW5 := Lib.hid (Below.trans HB4.out (HB5.out.mono (Nat.le_of_lt HL3.out)))
        have HR5 := Lib.hid ((HB5.out.block _ HL3.out).trans HR4.out)
        clear hm5 hw5 hb5 c1 HBW HOK HWS HBR HIX
        have c0 := cell_of_row _ _ 0 _ _ _ HR5.out
        simp only [List.getElem?_toArray, List.getElem?_cons_zero] at c0
        have r0 := cell_of_row _ _ 0 _ _ _ HW5.out.row
        have r1 := cell_of_row _ _ 1 _ _ _ HW5.out.row
        have r2 := cell_of_row _ _ 2 _ _ _ HW5.out.row
        have r3 := cell_of_row _ _ 3 _ _ _ HW5.out.row
        have r4 := cell_of_row _ _ 4 _ _ _ HW5.out.row
        have r5 := cell_of_row _ _ 5 _ _ _ HW5.out.row
        have r6 := cell_of_row _ _ 6 _ _ _ HW5.out.row
        simp only [List.getElem?_toArray, List.getElem?_cons_succ, List.getElem?_cons_zero] at r0 r1 r2 r3 r4 r5 r6
        have hgl := HO5.out.1.1.gle
        have hbl := HO5.out.1.1.base_le
        have HLT5 : Hid (s5.had.length = T.length) := HO5.out.1.1.len
        have HHL5 : Hid (s5.held.length ≤ 7) := HO5.out.1.1.held_le
        have HGT : Hid (s5.got = T.take s5.got.length) := HO5.out.1.1.beg
        have a1 : decide ((s5.got.length : Int) > (T.length : Int)) = false := decide_eq_false (by omega)
        have a2 : decide ((s5.b : Int) > (s5.got.length : Int)) = false := decide_eq_false (by omega)
        have a3 : (0 : Int) ≤ (s5.got.length : Int) := Int.natCast_nonneg _
        have a4 : (s5.got.length : Int) ≤ (T.length : Int) := by omega
        have a5 : (s5.got.length : Int) ≤ (tc : Int) := by omega
        have HEQ : Hid (∀ a2 c2 n, (s5.got ≠ [] → a2 = (some ad)) → Calls Try.prog 27 #[.slice ga5 s5.got.length gc5, .slice a2 s5.got.length c2] (w5.drewN n) fun e w' => e = .returned (.bool true) ∧ ∃ q, w' = (w5.drewN n).drewN q) := fun a2 c2 n h => by
          have hln : (T.take s5.got.length).length = s5.got.length := by rw [List.length_take]; omega
          have hsa : SAt 1 stC (w5.drewN n) a2 (T.take s5.got.length) := by
            intro i hi
            have hne : s5.got ≠ [] := fun e => by rw [e] at hi; simp at hi
            rw [h hne]
            rw [hln] at hi
            obtain ⟨g, off, e, hg, hr⟩ := HS.out.below (below_dn HBW5.out n) i (by omega)
            refine ⟨g, off, e, hg, fun j u hu => hr j u ?_⟩
            rw [List.getElem_take] at hu
            exact hu
          have hq := eqS_any ga5 a2 gc5 c2 s5.got (T.take s5.got.length) (w5.drewN n) (HW5.out.g.1.below (below_dn (Below.refl _ _) n)) hsa (by omega) (by rw [hln]; omega)
          rw [hln] at hq
          refine hq.mono ?_
          rintro e w' ⟨rfl, hw⟩
          exact ⟨by rw [decide_eq_true HGT.out], hw⟩
        go_wp2_with fail
        go_quiet ((go_at_call 27; exact Calls.quiet_of (HEQ.out _ _ _ (fun h => absurd (List.eq_nil_of_length_eq_zero (Nat.le_zero.1 (Nat.le_trans hgl (Nat.le_of_eq HE.out)))) h))))
        have HW6 := Lib.hid (HW5.out.below (below_dn (Below.refl _ _) nq))
        have HB6 := Lib.hid (below_dn HB5.out nq)
        have HBW6 := Lib.hid (below_dn HBW5.out nq)
        have HR6 : Hid ((w5.drewN nq).heap[W.heap.size]? = some (.cells #[.slice (some ad) T.length tc] 22 (0, 0))) := HR5.out
        have HZ6 : Hid (w3.heap.size ≤ (w5.drewN nq).heap.size) := Nat.le_trans HZ4.out HB6.out.size
        have z1 : decide (T.length < s5.got.length) = false := decide_eq_false (by omega)
        have z2 : decide (s5.got.length < s5.b) = false := decide_eq_false (by omega)
        simp only [z1, z2, Bool.or_false]
        clear z1 z2
        clear HEQ HW5 HB5 HBW5 HR5 c0 r0 r1 r2 r3 r4 r5 r6 a1 a2 a3 a4 a5
        generalize w5.drewN nq = w6 at *
        have r1 := cell_of_row _ _ 1 _ _ _ HW6.out.row
        simp only [List.getElem?_toArray, List.getElem?_cons_succ, List.getElem?_cons_zero] at r1
        go_wp2_with fail
        go_loopw [78] (fun iv wr => ∃ i : Nat, i ≤ s5.had.length ∧ iv = .int .i64 (i : Int) ∧ Hid (Below w6.heap.size w6 wr)) (fun iv _ => s5.had.length - (intOf iv).toNat)
        case atStart => exact ⟨0, by omega, rfl, Lib.hid (Below.refl _ _)⟩
        case round =>
          obtain ⟨i, hi, rfl, HBI⟩ := hrel
          have n0 : (0 : Int) ≤ (i : Int) := Int.natCast_nonneg _
          have hh60 : s5.had.length ≤ 60 := by have h1 := HLT5.out; have h2 := HT.out.1; omega
          by_cases hil : i < s5.had.length
          · have n1 : (i : Int) < (s5.had.length : Int) := by omega
            obtain ⟨y, hy⟩ : ∃ y, s5.had[i] = y := ⟨_, rfl⟩
            obtain ⟨gh, oh, hha, hgh, ch⟩ := SAt.cell1 (fun b => .bool b) (fun _ => rfl) (HW6.out.h.1.below HBI.out) i hil y hy
            subst hha
            have HY := Lib.hid hy
            have HBJ := Lib.hid (HBI.out.alloc HBI.out.size (.cells #[.int .i64 (i : Int)] 3))
            have HIR : Hid ((wr.alloc (.cells #[.int .i64 (i : Int)] 3)).heap[wr.heap.size]? = some (.cells #[.int .i64 (i : Int)] 3 (0, 0))) := heap_alloc_new wr _
            have HWJ := Lib.hid (HW6.out.below HBJ.out)
            have q0 := cell_of_row _ _ 0 _ _ _ HIR.out
            have r4 := cell_of_row _ _ 4 _ _ _ HWJ.out.row
            simp only [List.getElem?_toArray, List.getElem?_cons_succ, List.getElem?_cons_zero] at q0 r4
            clear hy hgh
            cases y with
            | false =>
              go_wp2_with fail
              go_roundw
              case rel => exact ⟨i + 1, by omega, by go_num, HBJ⟩
              case measure => simp [intOf]; omega
            | true =>
              by_cases hge : (s5.got.length : Int) ≤ (i : Int)
              · have hd2 : decide ((i : Int) ≥ (s5.got.length : Int)) = true := decide_eq_true hge
                have HCG : Hid (Caught wr.heap.size W.heap.size i T (some ad) tc (wr.alloc (.cells #[.int .i64 (i : Int)] 3))) :=
                  ⟨HIR.out, (HBJ.out.block _ (lt_of_block HR6.out)).trans HR6.out, HS.out.below (Below.trans HBW6.out (HBJ.out.mono HBW6.out.size))⟩
                have hiT : i < T.length := by have := HLT5.out; omega
                have HAN : Hid (HasAny i T[i] s5.held) := LInv.hasAny HO5.out.1.1 (by rw [List.getElem?_eq_getElem hil, HY.out]) (by omega) _ hiT rfl
                have HCN := Lib.hid (containsK_any la5 lc5 s5.held wr.heap.size W.heap.size i T (some ad) tc T[i] (wr.alloc (.cells #[.int .i64 (i : Int)] 3)) HWJ.out.l.1 (by have := HHL5.out; omega) HCG.out hiT rfl nT HAN.out)
                clear HCG HAN hiT
                go_wp2_with fail
                refine HCN.out.mono ?_
                rintro e w9 ⟨rfl, hb9⟩
                have HB9 := Lib.hid (Below.step HBJ.out hb9)
                clear hb9
                go_wp2_with fail
                go_roundw
                case rel => exact ⟨i + 1, by omega, by go_num, HB9⟩
                case measure => simp [intOf]; omega
              · have hd2 : decide ((i : Int) ≥ (s5.got.length : Int)) = false := decide_eq_false (by omega)
                go_wp2_with fail
                go_roundw
                case rel => exact ⟨i + 1, by omega, by go_num, HBJ⟩
                case measure => simp [intOf]; omega
          · have n1 : ¬ (i : Int) < (s5.had.length : Int) := by omega
            have HBE := Lib.hid (Below.trans HB6.out (HBI.out.mono HZ6.out))
            have HWE := Lib.hid (HW6.out.below HBI.out)
            have HNE : Hid (s5.net.length ≤ 8 * (j + 1)) := by have h1 := HO5.out.2; have h2 := HNL.out; show _ ≤ _; omega
            have HOE := Lib.hid HO5.out.1
            go_wp2_with fail
            go_roundw
            case rel => exact ⟨j + 1, s5, _, _, _, _, _, _, _, _, _, _, by omega, by go_num, HBE, HOE, HNE, HWE⟩
            case measure => simp [intOf]; omega
      · have m1 : ¬ (j : Int) < (xs.length : Int) := by omega
        go_wp2_with fail
        go_ret
        exact ⟨rfl, HBW.out⟩
theorem lineFront_any (ta sa : Option Addr) (tc sc : Nat) (T : List ByteArray) (xs : List Int) (W : World) (hT : SAt 1 stC W ta T) (hS : SAt 1 scC W sa xs) (nT : T.length ≤ 9223372036854775807) (nc : T.length ≤ tc) (ntc : tc ≤ 9223372036854775807) (nS : xs.length ≤ 9223372036854775807) (hI : ∀ x ∈ xs, I64 x) :
    Calls Try.prog 4 #[.slice ta T.length tc, .slice sa xs.length sc] W fun e w' => e = .returned (.bool true) ∧ Below W.heap.size W w' := by
  cases ta with
  | none =>
    have hE : T.length = 0 := by
      cases T with
      | nil => rfl
      | cons y l => obtain ⟨g, off, e, _⟩ := hT 0 (by simp); cases e
    exact lineFront_none sa tc sc T xs W hT hS nT nc ntc nS hI hE
  | some ad =>
    by_cases hE : T.length = 0
    · exact lineFront_empty ad sa tc sc T xs W hT hS nT nc ntc nS hI hE
    · obtain ⟨g, off, e, _⟩ := hT 0 (by omega)
      injection e with e
      subst e
      exact lineFront_at g off sa tc sc T xs W hT hS nT nc ntc nS hI
end Go.Proofs.Ytinjnclpiiohcaa
