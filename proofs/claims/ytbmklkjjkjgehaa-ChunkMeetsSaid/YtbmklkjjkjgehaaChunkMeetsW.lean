/- ChunkMeets: its walk. -/
import Derived.Test.YtbmklkjjkjgehaaChunkMeetsP
import Derived.Deep.QuietTactic
import Derived.BigQuiet
namespace Go.Proofs.Ytbmklkjjkjgehaa
open Go.RowKit Plain Go.Maps
set_option maxRecDepth 100000 in
set_option maxHeartbeats 4000000 in
theorem chunkMeets_any (mn mx b : Int) (s1 s2 s3 : ByteArray) (w : World) (h1 : s1.size ≤ 140737488351232) (h2 : s2.size ≤ 140737488351232) (h3 : s3.size ≤ 140737488351232) :
    Calls Try.prog 6 #[.agg #[.int .i64 mn, .int .i64 mx, .int .i64 b], .string s1, .string s2, .string s3] w fun e w' => e = .returned (.bool true) ∧ Below w.heap.size w w' := by
  have HB0 := Lib.hid ((Below.refl w.heap.size w).alloc (Nat.le_refl _) (.cells #[.int .i64 mn, .int .i64 mx, .int .i64 b] 23))
  have hz13 : (s1 ++ s3).size = s1.size + s3.size := by simp
  have hz23 : (s2 ++ s3).size = s2.size + s3.size := by simp
  have HC1T := Lib.hid fun u => cut_any mn mx b (s1 ++ s3) u (by omega)
  have HC2T := Lib.hid fun u => cut_any mn mx b (s2 ++ s3) u (by omega)
  have HZ13 := Lib.hid hz13
  have HZ23 := Lib.hid hz23
  have hs13 : s1.size + s3.size ≤ 9223372036854775807 := by omega
  have hs23 : s2.size + s3.size ≤ 9223372036854775807 := by omega
  have n13 : (s1.size : Int) + (s3.size : Int) ≤ 9223372036854775807 := by omega
  have n23 : (s2.size : Int) + (s3.size : Int) ≤ 9223372036854775807 := by omega
  have HS50 := Lib.hid some50_any
  have HREP : Hid (∀ u, Calls Try.prog 25 #[.string ⟨#[97]⟩, .int .i64 50] u fun e w' => e = .returned (.string (rA 50)) ∧ Below u.heap.size u w') := fun u => repeat_any 50 (by decide) u
  clear hz13 hz23
  have HC0 : Hid (((w.alloc (.cells #[.int .i64 mn, .int .i64 mx, .int .i64 b] 23)).alloc (.cells #[.int .i64 16, .int .i64 20, .int .i64 12] 23)).heap[w.heap.size]? = some (.cells #[.int .i64 mn, .int .i64 mx, .int .i64 b] 23 (0, 0)) ∧ ((w.alloc (.cells #[.int .i64 mn, .int .i64 mx, .int .i64 b] 23)).alloc (.cells #[.int .i64 16, .int .i64 20, .int .i64 12] 23)).heap[w.heap.size + 1]? = some (.cells #[.int .i64 16, .int .i64 20, .int .i64 12] 23 (0, 0)) ∧ Below w.heap.size w ((w.alloc (.cells #[.int .i64 mn, .int .i64 mx, .int .i64 b] 23)).alloc (.cells #[.int .i64 16, .int .i64 20, .int .i64 12] 23))) := by
    refine ⟨(Below.heap_alloc _ _ _ (by simp)).trans (heap_alloc_new w _), ?_, HB0.out.alloc (by simp) _⟩
    have := heap_alloc_new (w.alloc (.cells #[.int .i64 mn, .int .i64 mx, .int .i64 b] 23)) (.cells #[.int .i64 16, .int .i64 20, .int .i64 12] 23)
    rw [World.size_alloc] at this
    exact this
  clear HB0
  go_enter Try.func6, Try.ntmps6
  go_wp2_with fail
  generalize (w.alloc (.cells #[.int .i64 mn, .int .i64 mx, .int .i64 b] 23)).alloc (.cells #[.int .i64 16, .int .i64 20, .int .i64 12] 23) = w0 at *
  obtain ⟨r0, r1, bl⟩ := HC0.out
  have hS : w0.drew.cell? ⟨w.heap.size + 1, 0, none⟩ = some (.int .i64 16) ∧ w0.drew.cell? ⟨w.heap.size + 1, 1, none⟩ = some (.int .i64 20) ∧ w0.drew.cell? ⟨w.heap.size + 1, 2, none⟩ = some (.int .i64 12) ∧ Below w0.heap.size w0 w0.drew :=
    ⟨cell_of_row w0 (w.heap.size + 1) 0 _ _ _ r1, cell_of_row w0 (w.heap.size + 1) 1 _ _ _ r1, cell_of_row w0 (w.heap.size + 1) 2 _ _ _ r1, (Below.refl _ _).drew⟩
  have hsz : w.heap.size + 1 < w0.heap.size := lt_of_block r1
  clear r0 r1 bl
  go_region_held3 (fun w' => w'.cell? ⟨w.heap.size + 1, 0, none⟩ = some (.int .i64 16) ∧ w'.cell? ⟨w.heap.size + 1, 1, none⟩ = some (.int .i64 20) ∧ w'.cell? ⟨w.heap.size + 1, 2, none⟩ = some (.int .i64 12) ∧ Below w0.heap.size w0 w') (first | exact hS | go_keep | (go_split_ands; exact keep3 hsz ⟨by assumption, by assumption, by assumption, by assumption⟩ hb)) (first | (go_at_call 25; (with_reducible refine (HREP.out _).mono ?_); rintro e w' ⟨rfl, hb⟩) | (go_at_call 11; (with_reducible refine (HS50.out _).mono ?_); rintro e w' ⟨a5, c5, rfl, _, hb⟩))
  go_split_ands
  have hbw : Below w0.heap.size w0 w' := by assumption
  obtain ⟨q0, q1, q2⟩ := HC0.out
  have B1 := Lib.hid (Below.step q2 hbw)
  have HC1 := (hbw.block _ (lt_of_block q0)).trans q0
  have c0 := cell_of_row w' w.heap.size 0 _ _ _ HC1
  have c1 := cell_of_row w' w.heap.size 1 _ _ _ HC1
  have c2 := cell_of_row w' w.heap.size 2 _ _ _ HC1
  simp only [List.getElem?_toArray, List.getElem?_cons_zero, List.getElem?_cons_succ] at c0 c1 c2
  have HR1 := Lib.hid HC1
  clear q0 q1 q2 HC0 hsz HC1 hbw HREP HS50
  go_wp2_with fail
  refine (HC1T.out _).mono ?_
  rintro e w2 (⟨cs, ca, cc, hok, h4, hcuts, hcl, rfl, hown, hb2⟩ | ⟨c, hc0, _, rfl, hb2⟩)
  · have B2 := Lib.hid (Below.step B1.out hb2)
    have HR2 := Lib.hid ((hb2.block _ (lt_of_block HR1.out)).trans HR1.out)
    obtain ⟨ca', cc', hv, hcap, hcap2, hsat⟩ := SAt.own hown sC_length
    cases hv
    have CS := Lib.hid hsat
    have HOK := Lib.hid hok
    have HCU := Lib.hid hcuts
    have c0 := cell_of_row w2 w.heap.size 0 _ _ _ HR2.out
    have c1 := cell_of_row w2 w.heap.size 1 _ _ _ HR2.out
    have c2 := cell_of_row w2 w.heap.size 2 _ _ _ HR2.out
    simp only [List.getElem?_toArray, List.getElem?_cons_zero, List.getElem?_cons_succ] at c0 c1 c2
    have hT1 : s1.size + s3.size ≤ 4096 := by rw [← HZ13.out]; exact h4
    clear hown hsat hok hcuts hb2 HC1T B1 HR1 h4
    go_wp2_with fail
    refine (HC2T.out _).mono ?_
    rintro e w3 (⟨ds, da, dc, _, h4, hcuts, hdl, rfl, hown, hb3⟩ | ⟨c, hc0, _, rfl, hb3⟩)
    · have B3 := Lib.hid (Below.step B2.out hb3)
      obtain ⟨da', dc', hv, hdap, hdap2, hsat⟩ := SAt.own hown sC_length
      cases hv
      have DS := Lib.hid hsat
      have CS3 := Lib.hid (CS.out.below hb3)
      have HDU := Lib.hid hcuts
      have hT2 : s2.size + s3.size ≤ 4096 := by rw [← HZ23.out]; exact h4
      have hcl2 : cs.length ≤ 4096 := by rw [HZ13.out] at hcl; omega
      have hdl2 : ds.length ≤ 4096 := by rw [HZ23.out] at hdl; omega
      have CP : Hid (∀ i (hi : i < cs.length), 1 ≤ cs[i].size) := pieces_pos (ruleI_ok HOK.out) HCU.out
      have DP : Hid (∀ i (hi : i < ds.length), 1 ≤ ds[i].size) := pieces_pos (ruleI_ok HOK.out) HDU.out
      have C0 : Hid (LF cs 0 = s1.size + s3.size) := by show _ = _; rw [map_flat_len HCU.out, strN_length, HZ13.out]
      have D0 : Hid (LF ds 0 = s2.size + s3.size) := by show _ = _; rw [map_flat_len HDU.out, strN_length, HZ23.out]
      have hmm := @run_makeMap Try.prog
      clear hown hsat hcuts hb3 HC2T B2 HR2 h4 c0 c1 c2 hcl hdl CS
      go_wp2_with fail
      have HM0 : Hid ((w3.alloc (.map #[] 0)).ownsMap Try.prog 3 (plainElem (H := Unit) Try.prog 3) w3.heap.size 0 (ML cs 0)) := World.ownsMap_made w3 _ _ _
      have BM0 := Lib.hid ((Below.refl w3.heap.size w3).alloc (Nat.le_refl _) (.map #[] 0))
      have hI0 : ((s1.size : Int) + (s3.size : Int)) = ((LF cs 0 : Nat) : Int) := by rw [C0.out]; omega
      have HI0 := Lib.hid hI0
      clear hI0
      go_loopw [17, 68] (fun lv iv wr => ∃ m : Nat, m ≤ cs.length ∧ iv = .int .i64 (m : Int) ∧ lv = .int .i64 ((LF cs m : Nat) : Int) ∧ wr.ownsMap Try.prog 3 (plainElem (H := Unit) Try.prog 3) w3.heap.size m (ML cs m) ∧ Below w3.heap.size w3 wr) (fun _ iv _ => cs.length - (intOf iv).toNat)
      case atStart => exact ⟨0, by omega, rfl, by rw [HI0.out], HM0.out, BM0.out⟩
      case round =>
        obtain ⟨m, hm, rfl, rfl, hom, hbx⟩ := hrel
        have HM := Lib.hid hom
        have HBX := Lib.hid hbx
        have hle := LF_le cs m
        rw [C0.out] at hle
        clear hom hbx HM0 BM0 HI0
        by_cases hlt : m < cs.length
        · have m1 : (m : Int) < (cs.length : Int) := by omega
          have m0 : (0 : Int) ≤ (m : Int) := Int.natCast_nonneg _
          have hcell := str_cell (CS3.out.below HBX.out) m hlt
          obtain ⟨g, off, rfl, hcell⟩ := hcell
          have hst := LF_step cs m hlt
          have HST : Hid (ML cs (m + 1) = (ML cs m).put (.int .i64 ((LF cs m : Nat) : Int)) (.lit (.int .i64 (m : Int)))) := rfl
          have HKEY := Lib.hid (keyOf_int_mk Try.underlying3 (wf_5000 (LF cs m) (by omega)))
          have HVAL := Lib.hid (plainElem_int (H := Unit) Try.underlying3 (wf_5000 m (by omega)))
          have D1 : Hid (m < maxLen) := by show _ < _; unfold maxLen; omega
          generalize hp : cs[m] = p at *
          clear hp
          have e1 : ((LF cs m : Nat) : Int) - (p.size : Int) = ((LF cs (m + 1) : Nat) : Int) := by omega
          have E1 := Lib.hid e1
          have q1 : p.size ≤ LF cs m := by omega
          generalize hL1 : LF cs m = L1 at *
          clear hst hL1 e1
          go_wp2_with (at_mapUpdate; refine wpList_mapUpdate_own _ rfl _ _ _ 51 rfl 3 3 law_int Try.underlying51 (plainElem Try.prog 3) w3.heap.size m (ML cs m) rfl HM.out D1.out _ _ (.int .i64 (L1 : Int)) rfl rfl HKEY.out (.lit (.int .i64 (m : Int))) [] HVAL.out ?_)
          intro w5 hom5 hgrow5
          have HM5 : Hid (w5.ownsMap Try.prog 3 (plainElem (H := Unit) Try.prog 3) w3.heap.size (m + 1) (ML cs (m + 1))) := by rw [HST.out]; exact hom5
          have B5 := Lib.hid (HBX.out.grown hgrow5 HBX.out.size (fun j hj => by cases hj; exact Nat.le_refl _))
          clear hom5 hgrow5
          go_wp2_with fail
          go_roundw
          case rel => exact ⟨m + 1, by omega, by go_num, by rw [← E1.out], HM5.out, B5.out⟩
          case measure => simp [intOf]; omega
        · obtain rfl : m = cs.length := by omega
          have m2 : ¬ (cs.length : Int) < (cs.length : Int) := by omega
          clear hle hlt
          go_wp2_with fail
          have HI1 : Hid (((s2.size : Int) + (s3.size : Int)) = ((LF ds 0 : Nat) : Int)) := by show _ = _; rw [D0.out]; omega
          go_loop [17, 88] (fun lv iv => ∃ m : Nat, m ≤ ds.length ∧ iv = .int .i64 (m : Int) ∧ lv = .int .i64 ((LF ds m : Nat) : Int)) (fun _ iv => ds.length - (intOf iv).toNat)
          case atStart => exact ⟨0, by omega, rfl, by rw [HI1.out]⟩
          case round =>
            obtain ⟨j, hj, rfl, rfl⟩ := hrel
            have hle := LF_le ds j
            rw [D0.out] at hle
            clear HI1
            by_cases hlt : j < ds.length
            · have m1 : (j : Int) < (ds.length : Int) := by omega
              have m0 : (0 : Int) ≤ (j : Int) := Int.natCast_nonneg _
              obtain ⟨g, off, rfl, hcell⟩ := str_cell (DS.out.below HBX.out) j hlt
              have hst := LF_step ds j hlt
              generalize hp : ds[j] = p at *
              clear hp
              have E1 : Hid (((LF ds j : Nat) : Int) - (p.size : Int) = ((LF ds (j + 1) : Nat) : Int)) := by show _ = _; omega
              have q1 : p.size ≤ LF ds j := by omega
              have HKEY := Lib.hid (keyOf_int_mk Try.underlying3 (wf_5000 (LF ds j) (by omega)))
              by_cases hx : ∃ i, i < cs.length ∧ LF cs i = LF ds j
              · obtain ⟨i, hi, hxi⟩ := hx
                have HHAS : Hid (Maps.has (ML cs cs.length) (.int .i64 ((LF ds j : Nat) : Int)) = true) := by show _ = _; rw [← hxi]; exact ML_has cs _ i hi
                have HAT : Hid (∀ z, (ML cs cs.length).atKey (.int .i64 ((LF ds j : Nat) : Int)) z = .lit (.int .i64 (i : Int))) := fun z => by rw [← hxi]; exact ML_at CP.out z _ (Nat.le_refl _) i hi
                by_cases hq : LF ds j ≤ s3.size
                · have HDE : Hid (cs.drop i = ds.drop j) := meet_eq HCU.out HDU.out i j hxi hq
                  have f2 : decide (((LF ds j : Nat) : Int) ≤ (s3.size : Int)) = true := decide_eq_true (by omega)
                  obtain ⟨g2, off2, rfl, _, _⟩ := CS3.out i hi
                  have HEQ : Hid (∀ n, Calls Try.prog 15 #[.slice (some ⟨g2, off2 + i, none⟩) (cs.length - i) (cc - i), .slice (some ⟨g, off + j, none⟩) (ds.length - j) (dc - j)] (wr.drewN n) fun e w' => e = .returned (.bool true) ∧ ∃ q, w' = (wr.drewN n).drewN q) := fun n => by
                    have s1' := (CS3.out.below HBX.out).tail i
                    have s2' := (DS.out.below HBX.out).tail j
                    rw [Nat.mul_one] at s1' s2'
                    have h := eqStr_any (some ⟨g2, off2 + i, none⟩) (some ⟨g, off + j, none⟩) (cc - i) (dc - j) (cs.drop i) (ds.drop j) (wr.drewN n) (s1'.below (below_dn (Below.refl _ _) n)) (s2'.below (below_dn (Below.refl _ _) n)) (by rw [List.length_drop]; omega) (by rw [List.length_drop]; omega)
                    rw [List.length_drop, List.length_drop, decide_eq_true HDE.out] at h
                    exact h
                  have k1 : (i : Int) ≤ (cs.length : Int) := by omega
                  have k2 : (i : Int) ≤ (cc : Int) := by omega
                  have k3 : i ≠ cc := by omega
                  have k4 : cc ≠ i := by omega
                  have k0 : (0 : Int) ≤ (i : Int) := Int.natCast_nonneg _
                  have l2 : (j : Int) ≤ (dc : Int) := by omega
                  have l3 : j ≠ dc := by omega
                  have l4 : dc ≠ j := by omega
                  have BF := Lib.hid (Below.step B3.out HBX.out)
                  generalize LF ds j = L1 at *
                  clear hxi hst hle
                  go_wp2_with (at_lookup; refine wpList_lookup_own_ok_int _ rfl _ _ 51 rfl 3 3 .i64 law_int Try.underlying51 Try.underlying3 (zero_int _) w3.heap.size cs.length (ML cs cs.length) rfl HM.out (.int .i64 (L1 : Int)) (.int .i64 (L1 : Int)) rfl HKEY.out ?_)
                  intro c hat _
                  rw [HAT.out] at hat
                  obtain rfl : (i : Int) = c := by injection hat with e; injection e
                  rw [HHAS.out]
                  clear hat
                  go_wp2_with fail
                  go_quiet ((go_at_call 15; exact Calls.quiet_of (HEQ.out _)))
                  go_wp2_with fail
                  go_ret
                  exact ⟨rfl, below_dn BF.out _⟩
                · have f2 : decide (((LF ds j : Nat) : Int) ≤ (s3.size : Int)) = false := decide_eq_false (by omega)
                  have f3 : decide (LF ds j ≤ s3.size) = false := decide_eq_false hq
                  generalize LF ds j = L1 at *
                  clear hxi hst hq
                  go_wp2_with (at_lookup; refine wpList_lookup_own_ok_int _ rfl _ _ 51 rfl 3 3 .i64 law_int Try.underlying51 Try.underlying3 (zero_int _) w3.heap.size cs.length (ML cs cs.length) rfl HM.out (.int .i64 (L1 : Int)) (.int .i64 (L1 : Int)) rfl HKEY.out ?_)
                  intro c _ _
                  rw [HHAS.out]
                  go_wp2_with fail
                  go_round
                  case rel => exact ⟨j + 1, by omega, by go_num, by rw [← E1.out]⟩
                  case measure => simp [intOf]; omega
              · have HHAS : Hid (Maps.has (ML cs cs.length) (.int .i64 ((LF ds j : Nat) : Int)) = false) := ML_none cs _ _ fun p hp e => hx ⟨p, hp, e⟩
                generalize LF ds j = L1 at *
                clear hst hx
                go_wp2_with (at_lookup; refine wpList_lookup_own_ok_int _ rfl _ _ 51 rfl 3 3 .i64 law_int Try.underlying51 Try.underlying3 (zero_int _) w3.heap.size cs.length (ML cs cs.length) rfl HM.out (.int .i64 (L1 : Int)) (.int .i64 (L1 : Int)) rfl HKEY.out ?_)
                intro c _ _
                rw [HHAS.out]
                go_wp2_with fail
                go_round
                case rel => exact ⟨j + 1, by omega, by go_num, by rw [← E1.out]⟩
                case measure => simp [intOf]; omega
            · have m2 : ¬ (j : Int) < (ds.length : Int) := by omega
              have BF := Lib.hid (Below.step B3.out HBX.out)
              go_wp2_with fail
              go_ret
              exact ⟨rfl, BF.out⟩
    · have B3 := Lib.hid (Below.step B2.out hb3)
      have f0 : ((c : Int) != 0) = true := by simpa using hc0
      clear hb3 c0 c1 c2 HR2 B2 HC2T
      go_wp2_with fail
      go_ret
      exact ⟨rfl, B3.out⟩
  · have B2 := Lib.hid (Below.step B1.out hb2)
    have f0 : ((c : Int) != 0) = true := by simpa using hc0
    have HR2 := Lib.hid ((hb2.block _ (lt_of_block HR1.out)).trans HR1.out)
    have c0 := cell_of_row w2 w.heap.size 0 _ _ _ HR2.out
    have c1 := cell_of_row w2 w.heap.size 1 _ _ _ HR2.out
    have c2 := cell_of_row w2 w.heap.size 2 _ _ _ HR2.out
    simp only [List.getElem?_toArray, List.getElem?_cons_zero, List.getElem?_cons_succ] at c0 c1 c2
    clear hb2 HR1 B1 HC1T
    go_wp2_with fail
    refine (HC2T.out _).mono ?_
    rintro e w3 (⟨ds, da, dc, _, _, _, _, rfl, _, hb3⟩ | ⟨c', _, _, rfl, hb3⟩)
    all_goals
      have B3 := Lib.hid (Below.step B2.out hb3)
      clear hb3 c0 c1 c2 HR2 B2 HC2T
      go_wp2_with fail
      go_ret
      exact ⟨rfl, B3.out⟩
end Go.Proofs.Ytbmklkjjkjgehaa
