/- The walk of lumkeep.LineAll. -/
import Derived.Test.YtinjnclpiiohcaaLineTools
import Derived.Test.YtinjnclpiiohcaaLineOpen
namespace Go.Proofs.Ytinjnclpiiohcaa
open Go.RowKit Plain
set_option linter.unusedVariables false
set_option linter.unusedSimpArgs false
theorem WSt.clear {B0 wb tc hc gc lc nc : Nat} {T : List ByteArray} {s : LSt ByteArray} {ta ha ga la na : Option Addr} {u : World} (h : WSt B0 wb T s ta tc ha hc ga gc la lc na nc u) : WSt B0 wb T ⟨s.had, s.b, s.got, s.held, []⟩ ta tc ha hc ga gc la lc none 0 (u.setCell ⟨wb, 5, none⟩ (.slice none 0 0)) :=
  h.net (net := []) (nc' := 0) (World.grownBy.refl u _) (fun nd e => by cases e) (World.ownsRow_nil _ _ _ _)
theorem RR.small {e : ByteArray} {T : List ByteArray} {h0 : List Bool} {b0 j : Nat} {out : List PkT} {s : LSt ByteArray} (h : RR e T h0 b0 out j s) : s.net.length ≤ 2 * out.length := by
  rw [h.net, List.length_append, List.length_map, List.length_take]
  omega
set_option maxRecDepth 100000 in
set_option maxHeartbeats 4000000 in
theorem lineAll_any (ta0 sa : Option Addr) (tc sc : Nat) (T : List ByteArray) (xs : List Int) (W : World) (hT : SAt 1 stC W ta0 T) (hS : SAt 1 scC W sa xs) (nT : T.length ≤ 9223372036854775807) (nS : xs.length ≤ 9223372036854775807) (hI : ∀ x ∈ xs, I64 x) :
    Calls Try.prog 5 #[.slice ta0 T.length tc, .slice sa xs.length sc] W fun e w' => e = .returned (.bool true) ∧ Below W.heap.size W w' := by
  have HS := Lib.hid hT
  have HX := Lib.hid hS
  have HI := Lib.hid hI
  clear hT hS hI
  go_enter Try.func5, Try.ntmps5
  go_wp2_with fail
  refine (lined_any _).mono ?_
  rintro e w2 ⟨rfl, hb2⟩
  have HB2 := Lib.hid hb2
  clear hb2
  go_wp2_with fail
  refine (short_any ta0 tc T w2 (HS.out.below HB2.out) nT).mono ?_
  rintro e w3 ⟨⟨b, rfl, hb⟩, hb3⟩
  have HB3 := Lib.hid (Below.step HB2.out hb3)
  have HSH := Lib.hid hb
  clear hb3 hb
  cases b with
  | false =>
    go_wp2_with fail
    refine (lined_any _).mono ?_
    rintro e w4 ⟨rfl, hb4⟩
    have HB4 := Lib.hid (Below.step HB3.out hb4)
    clear hb4
    go_wp2_with fail
    go_ret
    exact ⟨rfl, HB4.out⟩
  | true =>
    have HT := Lib.hid (HSH.out.1 rfl)
    clear HSH
    by_cases hxl : (xs.length : Int) > 200
    · have hd : decide ((xs.length : Int) > 200) = true := decide_eq_true hxl
      go_wp2_with fail
      refine (lined_any _).mono ?_
      rintro e w4 ⟨rfl, hb4⟩
      have HB4 := Lib.hid (Below.step HB3.out hb4)
      clear hb4
      go_wp2_with fail
      go_ret
      exact ⟨rfl, HB4.out⟩
    have hd : decide ((xs.length : Int) > 200) = false := decide_eq_false hxl
    have hxl2 : (xs.length : Int) ≤ 200 := by omega
    go_wp2_with fail
    refine (begun_any ta0 tc T w3 (HS.out.below HB3.out) HT.out).mono ?_
    rintro e w4 ⟨hb4, wb, ha, hc, rfl, hw4⟩
    have HW4 := Lib.hid hw4
    have HB4 := Lib.hid (Below.step HB3.out hb4)
    have HL3 : Hid (W.heap.size ≤ w3.heap.size) := HB3.out.size
    have HZ4 := Lib.hid hb4.size
    clear hw4 hb4
    go_wp2_with fail
    go_loopw [26] (fun iv wr => ∃ (j : Nat) (s : LSt ByteArray) (ta : Option Addr) (tk : Nat) (ha : Option Addr) (hc : Nat) (ga : Option Addr) (gc : Nat) (la : Option Addr) (lc : Nat) (na : Option Addr) (nn : Nat), j ≤ xs.length ∧ iv = .int .i64 (j : Int) ∧ Hid (Below w3.heap.size w4 wr) ∧ Hid (s.Ok T) ∧ Hid (s.net.length ≤ 8 * j) ∧ Hid (WSt w3.heap.size wb T s ta tk ha hc ga gc la lc na nn wr)) (fun iv _ => xs.length - (intOf iv).toNat)
    case atStart => exact ⟨0, LSt.start T, _, _, _, _, _, _, _, _, _, _, by omega, rfl, Lib.hid (Below.refl _ _), Lib.hid (LSt.start_ok T), Lib.hid (Nat.le_refl 0), HW4⟩
    case round =>
      obtain ⟨j, s, ta, tk, ha2, hc2, ga, gc, la, lc, na, nn, hj, rfl, HBR, HOK, HNL, HWS⟩ := hrel
      have m0 : (0 : Int) ≤ (j : Int) := Int.natCast_nonneg _
      have HBW := Lib.hid (Below.trans HB4.out (HBR.out.mono HL3.out))
      by_cases hjl : j < xs.length
      · have m1 : (j : Int) < (xs.length : Int) := by omega
        obtain ⟨x, hx⟩ : ∃ x, xs[j] = x := ⟨_, rfl⟩
        obtain ⟨g, off, hsa, hg, c1⟩ := SAt.cell1 (fun n => .int .i64 n) (fun _ => rfl) (HX.out.below HBW.out) j hjl x hx
        subst hsa
        have HIX : Hid (I64 x) := HI.out x (by rw [← hx]; exact List.getElem_mem _)
        clear hx hg
        go_wp2_with fail
        refine (step_any _ wb T x HIX.out.1 HIX.out.2 _ rfl s _ _ _ _ _ _ _ _ _ _ wr HWS.out HOK.out HT.out (by have := HNL.out; omega)).mono ?_
        rintro e w5 ⟨rfl, hb5, s5, ta5, tk5, ha5, hc5, ga5, gc5, la5, lc5, na5, nn5, hm5, hw5⟩
        have HO5 := Lib.hid (hm5.ok HOK.out)
        have HW5 := Lib.hid hw5
        have HB5 := Lib.hid (HBR.out.trans hb5)
        have HNE : Hid (s5.net.length ≤ 8 * (j + 1)) := by have h1 := HO5.out.2; have h2 := HNL.out; show _ ≤ _; omega
        have HOE := Lib.hid HO5.out.1
        clear hm5 hw5 hb5 c1
        go_wp2_with fail
        go_roundw
        case rel => exact ⟨j + 1, s5, _, _, _, _, _, _, _, _, _, _, by omega, by go_num, HB5, HOE, HNE, HW5⟩
        case measure => simp [intOf]; omega
      · have m1 : ¬ (j : Int) < (xs.length : Int) := by omega
        have hTl : T.length ≤ 60 := HT.out.1
        obtain ⟨N, hN⟩ : ∃ N : Nat, N = (T.length + 7) / 8 := ⟨_, rfl⟩
        have hN2 : ((T.length : Int) + 7).tdiv 8 = (N : Int) := by rw [hN]; norm_cast
        have hN8 : N ≤ 8 := by omega
        have HN := Lib.hid hN
        clear hN HNL HX HI
        obtain ⟨wo, rfl⟩ : ∃ wo : World, wo = wr := ⟨_, rfl⟩
        have HWS0 : Hid (Below w3.heap.size wo wo) := Lib.hid (Below.refl _ _)
        go_wp2_with fail
        go_loopw [38] (fun iv wr => ∃ (r : Nat) (s : LSt ByteArray) (ta : Option Addr) (tk : Nat) (ha : Option Addr) (hc : Nat) (ga : Option Addr) (gc : Nat) (la : Option Addr) (lc : Nat) (na : Option Addr) (nn : Nat), r ≤ N ∧ iv = .int .i64 (r : Int) ∧ Hid (Below w3.heap.size w4 wr) ∧ Hid (s.Ok T) ∧ Hid (min (8 * r) T.length ≤ s.b) ∧ Hid (WSt w3.heap.size wb T s ta tk ha hc ga gc la lc na nn wr)) (fun iv _ => N - (intOf iv).toNat)
        case atStart => exact ⟨0, s, _, _, _, _, _, _, _, _, _, _, by omega, rfl, HBR, HOK, Lib.hid (by omega), HWS⟩
        case round =>
          clear HBW HBR HOK HWS m1 m0
          obtain ⟨r, s0, ta, tk, ha3, hc3, ga, gc, la, lc, na, nn, hr, rfl, HBR, HOK, HMN, HWS⟩ := hrel
          have n0 : (0 : Int) ≤ (r : Int) := Int.natCast_nonneg _
          have HBW := Lib.hid (Below.trans HB4.out (HBR.out.mono HL3.out))
          by_cases hrN : r < N
          · have n1 : (r : Int) < (N : Int) := by omega
            have HWC := Lib.hid HWS.out.clear
            have HBC := Lib.hid (below_setCells HWS.out.base [.slice none 0 0] 5 HBR.out)
            have r5 := cell_of_row _ _ 5 _ _ _ HWS.out.row
            have f5 := frozen_of_row _ _ 5 _ _ HWS.out.row
            simp only [List.getElem?_toArray, List.getElem?_cons_succ, List.getElem?_cons_zero] at r5
            go_wp2_with fail
            refine (step_any _ wb T 0 (by decide) (by decide) 0 rfl ⟨s0.had, s0.b, s0.got, s0.held, []⟩ _ _ _ _ _ _ _ _ _ _ _ HWC.out ⟨HOK.out.1, fun p hp => absurd hp (List.not_mem_nil)⟩ HT.out (Nat.zero_le _)).mono ?_
            rintro e w5 ⟨rfl, hb5, s5, ta5, tk5, ha5, hc5, ga5, gc5, la5, lc5, na5, nn5, hm5, hw5⟩
            obtain ⟨out, hsent, hrr⟩ := RR.start (s := s0) HOK.out hm5
            have HSE := Lib.hid hsent
            have HR5 := Lib.hid hrr
            have HW5 := Lib.hid hw5
            have HB5 := Lib.hid (HBC.out.trans hb5)
            have ho8 : out.length ≤ 8 := hsent.2.2
            have HH0 : Hid (s0.had.length = T.length) := HOK.out.1.len
            clear hm5 hw5 hb5 r5 f5 hsent hrr HWC HBC HWS HBW
            obtain ⟨wo2, rfl⟩ : ∃ wo2 : World, wo2 = wr := ⟨_, rfl⟩
            go_wp2_with fail
            go_loopw [8] (fun iv wr => ∃ (i : Nat) (s : LSt ByteArray) (ta : Option Addr) (tk : Nat) (ha : Option Addr) (hc : Nat) (ga : Option Addr) (gc : Nat) (la : Option Addr) (lc : Nat) (na : Option Addr) (nn : Nat), iv = .int .i64 (i : Int) ∧ Hid (Below w3.heap.size w4 wr) ∧ Hid (RR ⟨#[]⟩ T s0.had s0.b out i s) ∧ Hid (WSt w3.heap.size wb T s ta tk ha hc ga gc la lc na nn wr)) (fun iv _ => 2 * out.length - (intOf iv).toNat)
            case atStart => exact ⟨0, s5, _, _, _, _, _, _, _, _, _, _, rfl, HB5, HR5, HW5⟩
            case round =>
              clear HB5 HR5 HW5
              obtain ⟨i, s2, ta, tk, ha3, hc3, ga, gc, la, lc, na, nn, rfl, HBR2, HRR, HWS⟩ := hrel
              have i0 : (0 : Int) ≤ (i : Int) := Int.natCast_nonneg _
              have hsm := RR.small HRR.out
              have hle := HRR.out.le
              have r5 := cell_of_row _ _ 5 _ _ _ HWS.out.row
              simp only [List.getElem?_toArray, List.getElem?_cons_succ, List.getElem?_cons_zero] at r5
              by_cases hil : i < s2.net.length
              · have i1 : (i : Int) < (s2.net.length : Int) := by omega
                obtain ⟨p, hp⟩ : ∃ p, s2.net[i] = p := ⟨_, rfl⟩
                obtain ⟨pk, pq, px⟩ := p
                obtain ⟨g, off, hna, hg, c0, c1, c2⟩ := SAt.packet (sat_own1 pkC_length HWS.out.own) i hil (pk, pq, px) hp
                subst hna
                simp only at c0 c1 c2
                have HPE : Hid (s2.net[i] = (pk, pq, px)) := hp
                have HIL := Lib.hid hil
                clear hp hg
                go_wp2_with fail
                refine (arrives_any _ wb T (pk, pq, px) s2 _ _ _ _ _ _ _ _ _ _ _ HWS.out HRR.out.ok.1 HT.out (by omega)).mono ?_
                rintro e w6 ⟨rfl, hb6, s6, ta6, tk6, ha6, hc6, ga6, gc6, la6, lc6, na6, nn6, harr, hw6⟩
                have HRN : Hid (RR ⟨#[]⟩ T s0.had s0.b out (i + 1) s6) := HRR.out.next (by omega) HSE.out HIL.out (Eq.mpr (congrArg (fun z => Arr (⟨#[]⟩ : ByteArray) z s2 s6) HPE.out) harr)
                have HW6 := Lib.hid hw6
                have HB6 := Lib.hid (HBR2.out.trans hb6)
                clear harr hw6 hb6 c0 c1 c2 r5
                go_wp2_with fail
                go_roundw
                case rel => exact ⟨i + 1, s6, _, _, _, _, _, _, _, _, _, _, by go_num, HB6, HRN, HW6⟩
                case measure => simp [intOf]; omega
              · have i1 : ¬ (i : Int) < (s2.net.length : Int) := by omega
                have HMX : Hid (min (8 * (r + 1)) T.length ≤ s2.b) := by
                  have h1 := HMN.out
                  have h2 := HRR.out.base
                  have h3 := HRR.out.fin HH0.out HSE.out hil
                  show _ ≤ _
                  omega
                have HOX := Lib.hid HRR.out.ok
                go_wp2_with fail
                go_roundw
                case rel => exact ⟨r + 1, s2, _, _, _, _, _, _, _, _, _, _, by omega, by go_num, HBR2, HOX, HMX, HWS⟩
                case measure => simp [intOf]; omega
          · have n1 : ¬ (r : Int) < (N : Int) := by omega
            have hbT : s0.b = T.length := by
              have h1 := HMN.out
              have h2 := HOK.out.1.adv.2.1
              have h3 := HOK.out.1.len
              have h4 := HN.out
              omega
            have HGT : Hid (s0.got = T) := HOK.out.1.whole hbT
            have hbi : ((s0.b : Int) == (T.length : Int)) = true := by rw [hbT]; simp
            have HEQ := Lib.hid (eqS_any ga ta0 gc tc s0.got T wr HWS.out.g.1 (HS.out.below HBW.out) (by rw [HGT.out]; exact nT) nT)
            have hd2 : decide (s0.got = T) = true := decide_eq_true HGT.out
            rw [hd2] at HEQ
            have r2 := cell_of_row _ _ 2 _ _ _ HWS.out.row
            have r3 := cell_of_row _ _ 3 _ _ _ HWS.out.row
            have r6 := cell_of_row _ _ 6 _ _ _ HWS.out.row
            simp only [List.getElem?_toArray, List.getElem?_cons_succ, List.getElem?_cons_zero] at r2 r3 r6
            clear hbT hd2
            go_wp2_with fail
            refine HEQ.out.mono ?_
            rintro e w9 ⟨rfl, nq, rfl⟩
            go_wp2_with fail
            go_ret
            exact ⟨rfl, below_dn HBW.out nq⟩
end Go.Proofs.Ytinjnclpiiohcaa
