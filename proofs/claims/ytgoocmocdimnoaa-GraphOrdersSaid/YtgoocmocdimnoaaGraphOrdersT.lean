/- The walk of GraphOrders, its whole. -/
import Derived.Test.YtgoocmocdimnoaaGraphOrdersW
namespace Go.Proofs.Ytgoocmocdimnoaa
open Go.RowKit Plain Go.Maps
/-- is there a cycle through one of the first things? -/
def Cyc (ks : List (List Int)) (i : Nat) : Prop := ∃ j, j < i ∧ Rch ks (ks.getD j []) j
theorem Cyc.succ {ks : List (List Int)} {i : Nat} : Cyc ks (i + 1) ↔ Cyc ks i ∨ Rch ks (ks.getD i []) i := by
  constructor
  · rintro ⟨j, hj, h⟩
    by_cases e : j = i
    · subst e; exact .inr h
    · exact .inl ⟨j, by omega, h⟩
  · rintro (⟨j, hj, h⟩ | h)
    · exact ⟨j, by omega, h⟩
    · exact ⟨i, by omega, h⟩
def IsCyc (ks : List (List Int)) (i : Nat) (v : Value) : Prop := ∃ cy : Bool, v = .bool cy ∧ (cy = true ↔ Cyc ks i)
set_option maxRecDepth 100000 in
set_option maxHeartbeats 2000000 in
theorem graphOrders_any (a : Option Addr) (cap : Nat) (rows : List GRow) (w : World) (h : GAt w a rows) (hl : rows.length ≤ 9223372036854775807) :
    Calls Try.prog 4 #[.slice a rows.length cap] w fun e w' => e = .returned (.bool true) ∧ Below w.heap.size w w' := by
  have HG := Lib.hid h
  have HLN := Lib.hid (gK_length rows)
  have HCH := Lib.hid chained_any
  clear h
  go_enter Try.func4, Try.ntmps4
  go_wp2_with fail
  refine (order_r a cap rows w HG.out hl).mono ?_
  rintro e w1 ⟨v, ec, rfl, hor, hb1⟩
  have HOR := Lib.hid hor
  have B1 := Lib.hid hb1
  clear hor hb1
  go_wp2_with fail
  refine (HCH.out w1).mono ?_
  rintro e w2 ⟨rfl, hb2⟩
  have HB12 := Lib.hid hb2
  have B2 := Lib.hid (Below.step B1.out hb2)
  clear hb2
  go_wp2_with fail
  refine (gcheck_any a cap rows w2 (HG.out.below B2.out) hl).mono ?_
  rintro e w3 ⟨c, rfl, _, hc0, hb3⟩
  have B3 := Lib.hid (Below.step B2.out hb3)
  have HB13 := Lib.hid (Below.step HB12.out hb3)
  clear hb3 HB12
  rcases HOR.out with ⟨hng, rfl⟩ | ⟨hg, hor⟩
  · have hcn : c ≠ 0 := fun h => hng (hc0.1 h)
    have f1 : (((c : Nat) : Int) != 0) = true := by simpa using hcn
    clear hc0 hng hcn
    go_wp2_with fail
    refine (HCH.out w3).mono ?_
    rintro e w4 ⟨rfl, hb4⟩
    have B4 := Lib.hid (Below.step B3.out hb4)
    clear hb4
    go_wp2_with fail
    go_ret
    exact ⟨rfl, B4.out⟩
  · obtain rfl : c = 0 := hc0.2 hg
    have HOK := Lib.hid hg
    have HOR1 := Lib.hid (hor.below HB13.out)
    have hn200 : rows.length ≤ 200 := by have := hg.1; rwa [HLN.out] at this
    clear hc0 hg hor HB13 HOR
    go_wp2_with fail
    go_loopw [5, 37] (fun cv iv wr => ∃ i : Nat, i ≤ rows.length ∧ iv = .int .i64 (i : Int) ∧ IsCyc (gK rows) i cv ∧ Below w3.heap.size w3 wr) (fun _ iv _ => rows.length - (intOf iv).toNat)
    case atStart => exact ⟨0, by omega, rfl, ⟨false, rfl, by simp [Cyc]⟩, Below.refl _ _⟩
    case round =>
      obtain ⟨i, hi, rfl, ⟨cy, rfl, hcy⟩, hbr⟩ := hrel
      have HBR := Lib.hid hbr
      have HCY := Lib.hid hcy
      clear hbr hcy
      by_cases hlt : i < rows.length
      · have m1 : (i : Int) < (rows.length : Int) := by omega
        obtain ⟨g2, off2, rfl, hg2, hr2, hsr, hrl3⟩ := ((HG.out.below B3.out).below HBR.out).row i hlt
        have HKD := Lib.hid (gK_getD rows i hlt)
        have hrok : Rok (gK rows) ((gK rows).getD i []) := HOK.out.row i
        rw [HKD.out] at hrok
        have HSR := Lib.hid hsr
        have HROK := Lib.hid hrok
        generalize rows[i] = r at *
        obtain ⟨ra, rc, row⟩ := r
        have hr3 : wr.cell? ⟨g2, off2 + i, none⟩ = some (.slice ra row.length rc) := hr2
        clear hr2 hg2 hsr hrok
        go_wp2_with fail
        refine (reach_rl (some ⟨g2, off2, none⟩) ra cap rc rows row wr ((HG.out.below B3.out).below HBR.out) HSR.out hl hrl3).mono ?_
        rintro e w4 ⟨v4, c4, rfl, h4, hb4⟩
        rcases h4 with h | ⟨_, _, rfl, g4, s, rfl, _, hs4, hsp4⟩
        · exact absurd ⟨HOK.out, HROK.out⟩ h.1
        rw [HLN.out]
        have B4 := Lib.hid (Below.step HBR.out hb4)
        have k4 := hs4.bool0 i (by rw [hsp4.1, HLN.out]; exact hlt)
        have HSP : Hid (s.getD i false = true ↔ Rch (gK rows) ((gK rows).getD i []) i) := by rw [HKD.out]; exact hsp4.2 i
        clear hb4 hs4 hsp4 hrl3
        cases cy with
        | true =>
          have HN : Hid (IsCyc (gK rows) (i + 1) (.bool true)) := ⟨true, rfl, by rw [Cyc.succ, ← HCY.out]; simp⟩
          go_wp2_with fail
          go_roundw
          case rel => exact ⟨i + 1, by omega, by go_num, HN.out, B4.out⟩
          case measure => simp [intOf]; omega
        | false =>
          have HN : Hid (IsCyc (gK rows) (i + 1) (.bool (s.getD i false))) := ⟨_, rfl, by rw [Cyc.succ, ← HCY.out, HSP.out]; simp⟩
          generalize s.getD i false = si at *
          cases si with
          | true =>
            go_wp2_with fail
            go_roundw
            case rel => exact ⟨i + 1, by omega, by go_num, HN.out, B4.out⟩
            case measure => simp [intOf]; omega
          | false =>
            go_wp2_with fail
            go_roundw
            case rel => exact ⟨i + 1, by omega, by go_num, HN.out, B4.out⟩
            case measure => simp [intOf]; omega
      · have m1 : ¬ (i : Int) < (rows.length : Int) := by omega
        obtain rfl : i = rows.length := by omega
        rcases HOR1.out with ⟨hno, rfl, rfl⟩ | ⟨l, la, lc, htold, rfl, rfl, hsl⟩
        · obtain rfl : cy = true := HCY.out.2 (by have := cycle_none HOK.out hno; rw [HLN.out] at this; exact this)
          clear hno
          go_wp2_with fail
          go_ret
          exact ⟨rfl, Below.step B3.out HBR.out⟩
        · obtain rfl : cy = false := by
            cases cy with
            | false => rfl
            | true =>
              obtain ⟨j, hj, h⟩ := HCY.out.1 rfl
              exact absurd h (told_no_cycle htold j (by rw [HLN.out]; exact hj))
          have HT := Lib.hid htold
          have HSL := Lib.hid hsl
          have hll : l.length = rows.length := by rw [htold.2.1, HLN.out]
          have hmm := @run_makeMap Try.prog
          clear htold hsl
          obtain ⟨wo, rfl⟩ : ∃ wo : World, wo = wr := ⟨_, rfl⟩
          have HOM := Lib.hid (World.ownsMap_made (H := Unit) wo Try.prog 3 (plainElem Try.prog 3))
          have HBM := Lib.hid (Below.alloc HBR.out HBR.out.size (.map #[] 0))
          go_wp2_with fail
          have HLL := Lib.hid hll
          clear hll
          go_loopw [77] (fun iv wr => ∃ m : Nat, m ≤ rows.length ∧ iv = .int .i64 (m : Int) ∧ wr.ownsMap Try.prog 3 (plainElem Try.prog 3) wo.heap.size m (MD l m) ∧ Below w3.heap.size w3 wr) (fun iv _ => rows.length - (intOf iv).toNat)
          case atStart => exact ⟨0, by omega, rfl, HOM.out, HBM.out⟩
          case round =>
            obtain ⟨m, hm, rfl, hom, hbm⟩ := hrel
            have HM := Lib.hid hom
            have HBX := Lib.hid hbm
            clear hom hbm HOM HBM
            by_cases hml : m < rows.length
            · have m2 : (m : Int) < (rows.length : Int) := by omega
              obtain ⟨g, off, rfl, hcm⟩ := sat_nat (HSL.out.below HBX.out) m (by have := HLL.out; omega)
              have hlm := HT.out.2.2.2.2 m (by have := HLL.out; omega)
              rw [HLN.out] at hlm
              have HST : Hid (MD l (m + 1) = (MD l m).put (.int .i64 ((l.getD m 0 : Nat) : Int)) (.lit (.int .i64 ((m : Int) + 1)))) := rfl
              generalize l.getD m 0 = im at *
              have HKEY := Lib.hid (keyOf_int_mk Try.underlying3 (wf_small im (by omega)))
              have HVAL := Lib.hid (plainElem_int (H := Unit) Try.underlying3 (wf_small1 m (by omega)))
              have D1 : Hid (m < maxLen) := by show _ < _; unfold maxLen; omega
              go_wp2_with (at_mapUpdate; refine wpList_mapUpdate_own _ rfl _ _ _ 34 rfl 3 3 law_int Try.underlying34 (plainElem Try.prog 3) wo.heap.size m (MD l m) rfl HM.out D1.out _ _ (.int .i64 (im : Int)) rfl rfl HKEY.out (.lit (.int .i64 ((m : Int) + 1))) [] HVAL.out ?_)
              intro w5 hom5 hgrow5
              have HM5 : Hid (w5.ownsMap Try.prog 3 (plainElem Try.prog 3) wo.heap.size (m + 1) (MD l (m + 1))) := by rw [HST.out]; exact hom5
              have B5 := Lib.hid (HBX.out.grown hgrow5 HBX.out.size (fun j hj => by cases hj; exact HBR.out.size))
              clear hom5 hgrow5
              go_wp2_with fail
              go_roundw
              case rel => exact ⟨m + 1, by omega, by go_num, HM5.out, B5.out⟩
              case measure => simp [intOf]; omega
            · have m2 : ¬ (m : Int) < (rows.length : Int) := by omega
              obtain rfl : m = rows.length := by omega
              have HM2 : Hid (wr.ownsMap Try.prog 3 (plainElem Try.prog 3) wo.heap.size rows.length (MD l l.length)) := by rw [HLL.out]; exact HM.out
              have hlen : ∀ ty : TypeId, (Builtin.len_ #[34] ty #[.map (some wo.heap.size)]).run Try.prog wr = .ok (.int .i64 (rows.length : Int)) wr := fun ty => by rw [← HLL.out]; exact len_MD HT.out.1 HM2.out ty
              have HLOOK : Hid (∀ p k : Nat, p < l.length → l.getD p 0 = k → (Instr.lookup 34 (.map (some wo.heap.size)) (.int .i64 (k : Int)) false).run Try.prog wr = .ok (.int .i64 ((p : Int) + 1)) wr) := fun p k hp hk => look_MD HT.out.1 HM2.out p hp k hk (by
                have := HT.out.2.2.2.2 p hp
                rw [HLN.out] at this
                omega)
              go_wp2_with fail
              obtain ⟨wm, rfl⟩ : ∃ wm : World, wm = wr := ⟨_, rfl⟩
              go_loopw [89] (fun iv wr => ∃ i : Nat, i ≤ rows.length ∧ iv = .int .i64 (i : Int) ∧ wr = wm) (fun iv _ => rows.length - (intOf iv).toNat)
              case atStart => exact ⟨0, by omega, rfl, rfl⟩
              case round =>
                obtain ⟨i, hi, rfl, hww⟩ := hrel
                subst hww
                by_cases hlt : i < rows.length
                · have m1 : (i : Int) < (rows.length : Int) := by omega
                  obtain ⟨g2, off2, rfl, hg2, hr2, hsr, hrl3⟩ := ((HG.out.below B3.out).below HBX.out).row i hlt
                  have HKD := Lib.hid (gK_getD rows i hlt)
                  have HSR := Lib.hid hsr
                  generalize rows[i] = r at *
                  obtain ⟨ra, rc, row⟩ := r
                  have hr3 : wr.cell? ⟨g2, off2 + i, none⟩ = some (.slice ra row.length rc) := hr2
                  obtain ⟨p, hp, hpe⟩ := HT.out.2.2.1 i (by rw [HLN.out]; exact hlt)
                  have lk1 := HLOOK.out p i hp hpe
                  have HBF : Hid (∀ k ∈ row, ∃ q, q < p ∧ l.getD q 0 = k.toNat) := by
                    have := HT.out.2.2.2.1 p hp
                    rw [hpe, HKD.out] at this
                    exact this
                  have HRB : Hid (∀ k ∈ row, 0 ≤ k) := fun k hk => ((HOK.out.row i).2 k (by rw [HKD.out]; exact hk)).1
                  have HP := Lib.hid hp
                  clear hr2 hg2 hsr hpe hp
                  obtain ⟨wn, rfl⟩ : ∃ wn : World, wn = wr := ⟨_, rfl⟩
                  go_wp2_with fail
                  go_loopw [96] (fun jv wr => ∃ j : Nat, j ≤ row.length ∧ jv = .int .i64 (j : Int) ∧ wr = wn) (fun jv _ => row.length - (intOf jv).toNat)
                  case atStart => exact ⟨0, by omega, rfl, rfl⟩
                  case round =>
                    obtain ⟨j, hj, rfl, hww⟩ := hrel
                    subst hww
                    by_cases hjl : j < row.length
                    · have m3 : (j : Int) < (row.length : Int) := by omega
                      obtain ⟨g3, off3, rfl, hg3, hr4⟩ := HSR.out.int j hjl
                      have hk0 := HRB.out _ (List.getElem_mem hjl)
                      obtain ⟨q, hq, hqe⟩ := HBF.out _ (List.getElem_mem hjl)
                      generalize row[j] = kk at *
                      obtain ⟨kn, rfl⟩ := Int.eq_ofNat_of_zero_le hk0
                      rw [Int.toNat_natCast] at hqe
                      have lk2 := HLOOK.out q kn (by have := HP.out; omega) hqe
                      have n1 : ((q : Int) + 1 == 0) = false := beq_eq_false_iff_ne.2 (by omega)
                      have n2 : decide ((p : Int) + 1 ≤ (q : Int) + 1) = false := decide_eq_false (by omega)
                      have n3 : decide ((q : Int) + 1 ≥ (p : Int) + 1) = false := decide_eq_false (by omega)
                      have n4 : ¬ (p : Int) + 1 ≤ (q : Int) + 1 := by omega
                      clear hg3 hqe
                      go_wp2_with fail
                      go_roundw
                      case rel => exact ⟨j + 1, by omega, by go_num, by first | rfl | trivial⟩
                      case measure => simp [intOf]; omega
                    · have m3 : ¬ (j : Int) < (row.length : Int) := by omega
                      go_wp2_with fail
                      go_roundw
                      case rel => exact ⟨i + 1, by omega, by go_num, by first | rfl | trivial⟩
                      case measure => simp [intOf]; omega
                · have m1 : ¬ (i : Int) < (rows.length : Int) := by omega
                  go_wp2_with fail
                  go_ret
                  exact ⟨rfl, Below.step B3.out HBX.out⟩
end Go.Proofs.Ytgoocmocdimnoaa
