/- The walk of GraphJoins. -/
import Derived.Test.YtgoocmocdimnoaaGraphOpen
namespace Go.Proofs.Ytgoocmocdimnoaa
open Go.RowKit Plain
namespace Plain
theorem Rok.one {ks : List (List Int)} {i : Nat} (h : i < ks.length) : Rok ks [(i : Int)] := ⟨by simp, fun k hk => by simp only [List.mem_singleton] at hk; subst hk; exact ⟨by omega, by exact_mod_cast h⟩⟩
theorem gspec_append {ks : List (List Int)} {a b : List Int} {l m both : List Bool} (hl : GSpec ks a l) (hm : GSpec ks b m) (hb : GSpec ks (a ++ b) both) (i : Nat) : both.getD i false = (l.getD i false || m.getD i false) := by
  rw [Bool.eq_iff_iff, hb.2 i, Rch.append, Bool.or_eq_true, hl.2 i, hm.2 i]
theorem gspec_one {ks : List (List Int)} {a : List Int} {l p : List Bool} {i : Nat} (hl : GSpec ks a l) (hp : GSpec ks [(i : Int)] p) (hi : l.getD i false = true) (k : Nat) (hk : p.getD k false = true) : l.getD k false = true :=
  (hl.2 k).2 (Rch.one ((hl.2 i).1 hi) ((hp.2 k).1 hk))
end Plain
theorem SAt.bool0 {w : World} {g : Nat} {l : List Bool} (h : SAt 1 bC w (some ⟨g, 0, none⟩) l) (i : Nat) (hi : i < l.length) : w.cell? ⟨g, i, none⟩ = some (.bool (l.getD i false)) := by
  obtain ⟨g', off, e, _, hr⟩ := h.bool i hi
  injection e with e
  injection e with e1 e2 _
  subst e1 e2
  rw [Nat.zero_add] at hr
  rw [hr, List.getD_eq_getElem?_getD, List.getElem?_eq_getElem hi]
  rfl
set_option maxRecDepth 100000 in
set_option maxHeartbeats 2000000 in
theorem graphJoins_any (a b c : Option Addr) (cap cb cc : Nat) (rows : List GRow) (ra rb : List Int) (w : World) (h : GAt w a rows) (hra : SAt 1 iC w b ra) (hrb : SAt 1 iC w c rb) (hl : rows.length ≤ 1048576) (hla : ra.length ≤ 1048576) (hlb : rb.length ≤ 1048576) :
    Calls Try.prog 5 #[.slice a rows.length cap, .slice b ra.length cb, .slice c rb.length cc] w fun e w' => e = .returned (.bool true) ∧ Below w.heap.size w w' := by
  obtain ⟨i0, hi0, hz0, hz1, hz2⟩ := info_parts info_int
  have HG := Lib.hid h
  have HA := Lib.hid hra
  have HB := Lib.hid hrb
  have HR := Lib.hid fun rs x cx wx (hx : GAt wx a rows) (hy : SAt 1 iC wx x rs) (hz : rs.length ≤ 9223372036854775807) => reach_rl a x cap cx rows rs wx hx hy (by omega) hz
  have HCL := Lib.hid fun wx (hx : SAt 1 iC wx b ra) => clone_any b cb ra wx hx (by omega)
  have HCH := Lib.hid chained_any
  have HLN := Lib.hid (gK_length rows)
  clear h hra hrb
  go_enter Try.func5, Try.ntmps5
  go_wp2_with fail
  refine (HR.out ra b cb w HG.out HA.out (by omega)).mono ?_
  rintro e w1 ⟨v1, c1, rfl, h1, hb1⟩
  have R1 := Lib.hid h1
  have B1 := Lib.hid hb1
  clear h1 hb1
  go_wp2_with fail
  refine (HR.out rb c cc w1 (HG.out.below B1.out) (HB.out.below B1.out) (by omega)).mono ?_
  rintro e w2 ⟨v2, c2, rfl, h2, hb2⟩
  have R2 := Lib.hid h2
  have R1' := Lib.hid (R1.out.below hb2)
  have B2 := Lib.hid (Below.step B1.out hb2)
  clear h2 hb2 R1 B1
  go_wp2_with fail
  refine (HCL.out w2 (HA.out.below B2.out)).mono ?_
  rintro e w3 ⟨hb3, oa, oc, rfl, hown⟩
  have HOWN := Lib.hid hown
  have B23 := Lib.hid hb3
  have HS3 := Lib.hid ((HB.out.below B2.out).below hb3)
  clear hb3 hown
  have D3 : Hid (ra.length + rb.length ≤ maxLen) := by show _ ≤ _; unfold maxLen; omega
  have D4 : Hid ((ra.length + rb.length) * 8 ≤ 140737488355328) := by show _ ≤ _; omega
  have D5 : Hid (w2.heap.size ≤ w3.heap.size) := B23.out.size
  go_wp2_with (at_builtin; refine wpList_append_sat rfl _ _ 23 rfl w2.heap.size 3 i0 (.int .i64 0) 1 8 Try.underlying23 hi0 hz0 hz1 hz2 rfl (by decide) (.slice oa ra.length oc) ra.length (ra.flatMap iC) rfl HOWN.out c cc rb rfl HS3.out iC_length iC_one D3.out D4.out D5.out ?_)
  intro v' w4 hown' hgrow
  have B24 := Lib.hid (below_own B23.out hgrow B23.out.size HOWN.out (Nat.le_refl _))
  have B4 := Lib.hid (Below.step B2.out B24.out)
  obtain ⟨oa4, oc4, rfl⟩ := own_form hown'
  have HAB : Hid (SAt 1 iC w4 oa4 (ra ++ rb)) := by
    rw [← List.length_append, ← List.flatMap_append] at hown'
    obtain ⟨a', c', hv, _, _, hs⟩ := SAt.own (c := iC) hown' iC_length
    injection hv with e1 _ _
    subst e1
    exact hs
  have R1 := Lib.hid (R1'.out.below B24.out)
  have R2' := Lib.hid (R2.out.below B24.out)
  clear hown' hgrow R1' R2 B24 B23 D3 D4 D5 HOWN HS3 B2
  have HE : Hid (ra.length + rb.length = (ra ++ rb).length) := by show _ = _; rw [List.length_append]
  go_wp2_with fail
  rw [HE.out]
  refine (HR.out (ra ++ rb) oa4 oc4 w4 (HG.out.below B4.out) HAB.out (by rw [List.length_append]; omega)).mono ?_
  rintro e w5 ⟨v3, c3, rfl, h3, hb5⟩
  have R3 := Lib.hid h3
  have B5 := Lib.hid (Below.step B4.out hb5)
  have R4 := Lib.hid (R1.out.below hb5)
  have R5 := Lib.hid (R2'.out.below hb5)
  clear h3 hb5 R1 R2' HAB HE B4
  go_wp2_with fail
  refine (HCH.out w5).mono ?_
  rintro e w6 ⟨rfl, hb6⟩
  have B6 := Lib.hid (Below.step B5.out hb6)
  have S1 := Lib.hid (R4.out.below hb6)
  have S2 := Lib.hid (R5.out.below hb6)
  have S3 := Lib.hid (R3.out.below hb6)
  clear hb6 R3 R4 R5 B5
  by_cases h1 : c1 = 0
  · by_cases h2 : c2 = 0
    · by_cases h3 : c3 = 0
      · subst h1 h2 h3
        rcases S1.out with h | ⟨hg, hr1, _, g1, l, rfl, hg1, hs1, hsp1⟩
        · exact absurd rfl h.2.1
        rcases S2.out with h | ⟨_, hr2, _, g2, m, rfl, hg2, hs2, hsp2⟩
        · exact absurd rfl h.2.1
        rcases S3.out with h | ⟨_, hr3, _, g3, bo, rfl, hg3, hs3, hsp3⟩
        · exact absurd rfl h.2.1
        rw [HLN.out]
        have HGO := Lib.hid hg
        have L1 := Lib.hid hs1
        have L2 := Lib.hid hs2
        have L3 := Lib.hid hs3
        have P1 := Lib.hid hsp1
        have P2 := Lib.hid hsp2
        have P3 := Lib.hid hsp3
        clear hg hr1 hg1 hs1 hsp1 hr2 hg2 hs2 hsp2 hr3 hg3 hs3 hsp3 S1 S2 S3
        go_wp2_with fail
        go_loopw [74] (fun iv wr => ∃ i : Nat, i ≤ rows.length ∧ iv = .int .i64 (i : Int) ∧ Below w6.heap.size w6 wr) (fun iv _ => rows.length - (intOf iv).toNat)
        case atStart => exact ⟨0, by omega, rfl, Below.refl _ _⟩
        case round =>
          obtain ⟨i, hi, rfl, hbr⟩ := hrel
          have HBR := Lib.hid hbr
          clear hbr
          by_cases hlt : i < rows.length
          · have m1 : (i : Int) < (rows.length : Int) := by omega
            have k1 := (L1.out.below HBR.out).bool0 i (by rw [P1.out.1, HLN.out]; exact hlt)
            have k2 := (L2.out.below HBR.out).bool0 i (by rw [P2.out.1, HLN.out]; exact hlt)
            have k3 := (L3.out.below HBR.out).bool0 i (by rw [P3.out.1, HLN.out]; exact hlt)
            rw [gspec_append P1.out P2.out P3.out i] at k3
            cases hli : l.getD i false with
            | false =>
              rw [hli] at k1 k3
              clear hli
              generalize m.getD i false = mi at *
              cases mi
              · simp only [Bool.or_self] at k3
                go_wp2_with fail
                go_region
                go_wp2_with fail
                go_roundw
                case rel => exact ⟨i + 1, by omega, by go_num, HBR.out.drew⟩
                case measure => simp [intOf]; omega
              · simp only [Bool.false_or] at k3
                go_wp2_with fail
                go_region
                go_wp2_with fail
                go_roundw
                case rel => exact ⟨i + 1, by omega, by go_num, HBR.out.drew⟩
                case measure => simp [intOf]; omega
            | true =>
              rw [hli] at k1 k3
              have HLI := Lib.hid hli
              clear hli
              simp only [Bool.true_or] at k3
              have HS1 : Hid (SAt 1 iC (wr.drew.alloc (.cells #[.int .i64 (i : Int)] 3)) (some ⟨wr.heap.size, 0, none⟩) [(i : Int)]) := sat_row (heap_alloc_new wr.drew _) rfl iC_length
              have HBA := Lib.hid (Below.alloc (Below.drew HBR.out) HBR.out.size (.cells #[.int .i64 (i : Int)] 3))
              go_wp2_with fail
              go_region
              go_wp2_with fail
              refine (HR.out [(i : Int)] (some ⟨wr.heap.size, 0, none⟩) 1 (wr.drew.alloc (.cells #[.int .i64 (i : Int)] 3)) (HG.out.below (Below.step B6.out HBA.out)) HS1.out (by simp)).mono ?_
              rintro e w7 ⟨v4, c4, rfl, h4, hb7⟩
              rcases h4 with h | ⟨_, _, rfl, g4, p, rfl, _, hs4, hsp4⟩
              · exact absurd ⟨HGO.out, Rok.one (by rw [HLN.out]; exact hlt)⟩ h.1
              rw [HLN.out]
              have B7 := Lib.hid (Below.step HBA.out hb7)
              have L4 := Lib.hid hs4
              have P4 := Lib.hid hsp4
              clear hb7 hs4 hsp4 HS1 HBA k1 k2 k3
              go_wp2_with fail
              go_loopw [109] (fun kv wx => ∃ k : Nat, k ≤ rows.length ∧ kv = .int .i64 (k : Int) ∧ Below w7.heap.size w7 wx) (fun kv _ => rows.length - (intOf kv).toNat)
              case atStart => exact ⟨0, by omega, rfl, Below.refl _ _⟩
              case round =>
                obtain ⟨k, hk, rfl, hbx⟩ := hrel
                have HBX := Lib.hid hbx
                clear hbx
                by_cases hkl : k < rows.length
                · have m2 : (k : Int) < (rows.length : Int) := by omega
                  have k4 := (L4.out.below HBX.out).bool0 k (by rw [P4.out.1, HLN.out]; exact hkl)
                  have k5 := (L1.out.below (Below.step B7.out HBX.out)).bool0 k (by rw [P1.out.1, HLN.out]; exact hkl)
                  cases hp : p.getD k false with
                  | false =>
                    rw [hp] at k4
                    clear hp
                    go_wp2_with fail
                    go_roundw
                    case rel => exact ⟨k + 1, by omega, by go_num, HBX.out⟩
                    case measure => simp [intOf]; omega
                  | true =>
                    rw [hp] at k4
                    rw [gspec_one P1.out P4.out HLI.out k hp] at k5
                    clear hp
                    go_wp2_with fail
                    go_roundw
                    case rel => exact ⟨k + 1, by omega, by go_num, HBX.out⟩
                    case measure => simp [intOf]; omega
                · have m2 : ¬ (k : Int) < (rows.length : Int) := by omega
                  go_wp2_with fail
                  go_roundw
                  case rel => exact ⟨i + 1, by omega, by go_num, Below.step B7.out HBX.out⟩
                  case measure => simp [intOf]; omega
          · have m1 : ¬ (i : Int) < (rows.length : Int) := by omega
            go_wp2_with fail
            go_ret
            exact ⟨rfl, Below.step B6.out HBR.out⟩
      · have f1 : (((c3 : Nat) : Int) != 0) = true := by simpa using h3
        subst h1 h2
        clear h3
        go_wp2_with fail
        refine (HCH.out w6).mono ?_
        rintro e w7 ⟨rfl, hb7⟩
        have B7 := Lib.hid (Below.step B6.out hb7)
        clear hb7
        go_wp2_with fail
        go_ret
        exact ⟨rfl, B7.out⟩
    · have f1 : (((c2 : Nat) : Int) != 0) = true := by simpa using h2
      subst h1
      clear h2
      go_wp2_with fail
      refine (HCH.out w6).mono ?_
      rintro e w7 ⟨rfl, hb7⟩
      have B7 := Lib.hid (Below.step B6.out hb7)
      clear hb7
      go_wp2_with fail
      go_ret
      exact ⟨rfl, B7.out⟩
  · have f1 : (((c1 : Nat) : Int) != 0) = true := by simpa using h1
    clear h1
    go_wp2_with fail
    refine (HCH.out w6).mono ?_
    rintro e w7 ⟨rfl, hb7⟩
    have B7 := Lib.hid (Below.step B6.out hb7)
    clear hb7
    go_wp2_with fail
    go_ret
    exact ⟨rfl, B7.out⟩
end Go.Proofs.Ytgoocmocdimnoaa
