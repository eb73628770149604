/- ChunkWhole: its walk. -/
import Derived.Test.YtbmklkjjkjgehaaChunkCut
import Derived.Test.YtbmklkjjkjgehaaStrCalls
namespace Go.Proofs.Ytbmklkjjkjgehaa
open Go.RowKit Plain
theorem fxd_abc {ps : List ByteArray} (h : Fxd 2 (strN ⟨#[97, 98, 99]⟩) (ps.map strN)) : ps.length = 2 := by
  have e : strN ⟨#[97, 98, 99]⟩ = [97, 98, 99] := by decide +kernel
  rw [e] at h
  generalize hq : ps.map strN = qs at h
  have hl : ps.length = qs.length := by rw [← hq, List.length_map]
  cases h with
  | cons h0 h1 =>
    cases h1 with
    | cons h2 h3 =>
      cases h3 with
      | nil => exact hl
      | cons h4 _ => simp at h4
set_option maxRecDepth 100000 in
set_option maxHeartbeats 4000000 in
theorem chunkWhole_any (mn mx b n : Int) (s : ByteArray) (w : World) (hs : s.size ≤ 9223372036854775807) :
    Calls Try.prog 3 #[.agg #[.int .i64 mn, .int .i64 mx, .int .i64 b], .int .i64 n, .string s] w fun e w' => e = .returned (.bool true) ∧ Below w.heap.size w w' := by
  have HB0 := Lib.hid ((Below.refl w.heap.size w).alloc (Nat.le_refl _) (.cells #[.int .i64 mn, .int .i64 mx, .int .i64 b] 23))
  have HC0 : Hid ((w.alloc (.cells #[.int .i64 mn, .int .i64 mx, .int .i64 b] 23)).heap[w.heap.size]? = some (.cells #[.int .i64 mn, .int .i64 mx, .int .i64 b] 23 (0, 0))) := heap_alloc_new w _
  have HF2 := Lib.hid fun u => fixed_any 2 ⟨#[97, 98, 99]⟩ u (by decide +kernel)
  have HFN := Lib.hid fun u => fixed_any n s u hs
  have HCUT := Lib.hid fun u => cut_any mn mx b s u hs
  go_enter Try.func3, Try.ntmps3
  go_wp2_with fail
  refine (HF2.out _).mono ?_
  rintro e w1 (⟨ps, pa, pc, d, hd2, hfx, _, _, _, rfl, _, hb1⟩ | ⟨c, hc0, hbad, rfl, hb1⟩)
  · obtain rfl : d = 2 := by omega
    have hl2 := fxd_abc hfx
    have f2 : ((ps.length : Int) != 2) = false := by simp; omega
    have B1 := Lib.hid (Below.step HB0.out hb1)
    have HC1 := Lib.hid ((hb1.block _ (lt_of_block HC0.out)).trans HC0.out)
    have c0 := cell_of_row w1 w.heap.size 0 _ _ _ HC1.out
    have c1 := cell_of_row w1 w.heap.size 1 _ _ _ HC1.out
    have c2 := cell_of_row w1 w.heap.size 2 _ _ _ HC1.out
    simp only [List.getElem?_toArray, List.getElem?_cons_zero, List.getElem?_cons_succ] at c0 c1 c2
    clear hb1 hfx hl2 hd2 HF2 HC0 HB0
    go_wp2_with fail
    refine (HCUT.out _).mono ?_
    rintro e w2 (⟨cs, ca, cc, hok, h4, hcuts, hcl, rfl, hown, hb2⟩ | ⟨c, hc0, _, rfl, hb2⟩)
    · have B2 := Lib.hid (Below.step B1.out hb2)
      have HC2 := Lib.hid ((hb2.block _ (lt_of_block HC1.out)).trans HC1.out)
      obtain ⟨ca', cc', hv, hcap, hcap2, hsat⟩ := SAt.own hown sC_length
      cases hv
      have CS := Lib.hid hsat
      have CBD : Hid (∀ (k : Nat) (hk : k < cs.length), 1 ≤ cs[k].size ∧ ((cs[k].size : Nat) : Int) ≤ mx ∧ (k + 1 < cs.length → mn ≤ ((cs[k].size : Nat) : Int))) := fun k hk => by
        have := Rule.Cuts.bounds (ruleI_ok hok) hcuts k (by rw [List.length_map]; exact hk)
        simp only [List.getElem_map, strN_length, List.length_map] at this
        obtain ⟨o1, o2, _⟩ := hok
        obtain ⟨t1, t2, t3⟩ := this
        have e1 : (ruleI mn mx b).mx = mx.toNat := rfl
        have e2 : (ruleI mn mx b).mn = mn.toNat := rfl
        rw [e1] at t2
        rw [e2] at t3
        exact ⟨t1, by omega, fun h => by have := t3 h; omega⟩
      have CJ : Hid (Calls Try.prog 12 #[.slice ca cs.length cc, .string ⟨#[]⟩] w2 fun e w' => e = .returned (.string s) ∧ Below w2.heap.size w2 w') := by
        have hfl2 : (cs.map strN).flatten = strN s := hcuts.join
        refine (join_any ca cc cs w2 CS.out (by omega) hcap (by rw [hfl2, strN_length]; omega)).mono fun e w' ⟨he, hw⟩ => ⟨?_, hw⟩
        rw [he, hfl2, strOf_strN]
      clear hown hb2 hsat hcuts hok B1 HC1 c0 c1 c2 HCUT
      go_wp2_with fail
      refine CJ.out.mono ?_
      rintro e w3 ⟨rfl, hb3⟩
      have BB := Lib.hid (Below.step B2.out hb3)
      have HC3 := (hb3.block _ (lt_of_block HC2.out)).trans HC2.out
      have c0 := cell_of_row w3 w.heap.size 0 _ _ _ HC3
      have c1 := cell_of_row w3 w.heap.size 1 _ _ _ HC3
      simp only [List.getElem?_toArray, List.getElem?_cons_zero, List.getElem?_cons_succ] at c0 c1
      have CS3 := Lib.hid (CS.out.below hb3)
      clear hb3 HC3 CS CJ HC2 B2
      go_wp2_with fail
      go_loop [42] (fun i => ∃ k : Nat, k ≤ cs.length ∧ i = .int .i64 k) (fun i => cs.length - (intOf i).toNat)
      case atStart => exact ⟨0, Nat.zero_le _, rfl⟩
      case round =>
        obtain ⟨k, hk, rfl⟩ := hrel
        by_cases hlt : k < cs.length
        · have kk : (k : Int) < (cs.length : Int) := by omega
          have k0 : (0 : Int) ≤ (k : Int) := Int.natCast_nonneg _
          obtain ⟨g, off, rfl, hcell⟩ := str_cell CS3.out k hlt
          obtain ⟨q1, q2, q3⟩ := CBD.out k hlt
          have q0 := isEmpty_false (s := cs[k]) (by omega)
          have q4 : decide (mx < ((cs[k].size : Nat) : Int)) = false := decide_eq_false (by omega)
          clear q2
          generalize cs[k] = p at *
          by_cases g1 : ((p.size : Nat) : Int) < mn
          · have g2 : decide (((p.size : Nat) : Int) < mn) = true := decide_eq_true g1
            have g3 : ¬ ((k : Int) < (cs.length : Int) - 1) := fun h => by have := q3 (by omega); omega
            clear q3
            go_wp2_with fail
            go_round
            case rel => exact ⟨k + 1, by omega, by go_num⟩
            case measure => simp [intOf]; omega
          · have g2 : decide (((p.size : Nat) : Int) < mn) = false := decide_eq_false g1
            clear q3
            go_wp2_with fail
            go_round
            case rel => exact ⟨k + 1, by omega, by go_num⟩
            case measure => simp [intOf]; omega
        · have m1 : ¬ (k : Int) < (cs.length : Int) := by omega
          clear CS3 CBD c0 c1
          go_wp2_with fail
          refine (HFN.out _).mono ?_
          rintro e wf (⟨fs, fa, fc, d, hd, hfx, hd1, hfl, h4, rfl, hown, hbf⟩ | ⟨c, hc0, _, rfl, hbf⟩)
          · have FB := Lib.hid (Below.step BB.out hbf)
            obtain ⟨fa', fc', hv, hcap, hcap2, hsat⟩ := SAt.own (w := wf) hown sC_length
            cases hv
            have FS := Lib.hid hsat
            have FBD : Hid (∀ (k : Nat) (hk : k < fs.length), 1 ≤ fs[k].size ∧ ((fs[k].size : Nat) : Int) ≤ n ∧ (k + 1 < fs.length → n ≤ ((fs[k].size : Nat) : Int))) := fun k hk => by
              have := Fxd.bounds hd1 hfx k (by rw [List.length_map]; exact hk)
              simp only [List.getElem_map, strN_length, List.length_map] at this
              exact ⟨this.1, by omega, fun h => by have := this.2.2 h; omega⟩
            have FJ : Hid (∀ u, Below wf.heap.size wf u → Calls Try.prog 12 #[.slice fa fs.length fc, .string ⟨#[]⟩] u fun e w' => e = .returned (.string s) ∧ Below u.heap.size u w') := fun u hu => by
              have hfl2 : (fs.map strN).flatten = strN s := hfx.join
              refine (join_any fa fc fs u (FS.out.below hu) (by omega) hcap (by rw [hfl2, strN_length]; omega)).mono fun e w' ⟨he, hw⟩ => ⟨?_, hw⟩
              rw [he, hfl2, strOf_strN]
            clear hown hbf hsat hfx BB HFN hd
            go_wp2_with fail
            go_loop [87] (fun i => ∃ k : Nat, k ≤ fs.length ∧ i = .int .i64 k) (fun i => fs.length - (intOf i).toNat)
            case atStart => exact ⟨0, Nat.zero_le _, rfl⟩
            case round =>
              obtain ⟨k, hk, rfl⟩ := hrel
              by_cases hlt : k < fs.length
              · have kk : (k : Int) < (fs.length : Int) := by omega
                have k0 : (0 : Int) ≤ (k : Int) := Int.natCast_nonneg _
                obtain ⟨g, off, rfl, hcell⟩ := str_cell FS.out k hlt
                obtain ⟨q1, q2, q3⟩ := FBD.out k hlt
                have q0 := isEmpty_false (s := fs[k]) (by omega)
                have q4 : decide (n < ((fs[k].size : Nat) : Int)) = false := decide_eq_false (by omega)
                clear q2
                generalize fs[k] = p at *
                by_cases g1 : ((p.size : Nat) : Int) < n
                · have g2 : decide (((p.size : Nat) : Int) < n) = true := decide_eq_true g1
                  have g3 : ¬ ((k : Int) < (fs.length : Int) - 1) := fun h => by have := q3 (by omega); omega
                  clear q3
                  go_wp2_with fail
                  go_round
                  case rel => exact ⟨k + 1, by omega, by go_num⟩
                  case measure => simp [intOf]; omega
                · have g2 : decide (((p.size : Nat) : Int) < n) = false := decide_eq_false g1
                  clear q3
                  go_wp2_with fail
                  go_round
                  case rel => exact ⟨k + 1, by omega, by go_num⟩
                  case measure => simp [intOf]; omega
              · have m1 : ¬ (k : Int) < (fs.length : Int) := by omega
                clear FS FBD
                go_wp2_with fail
                refine (FJ.out _ (Below.refl _ _)).mono ?_
                rintro e wj ⟨rfl, hbj⟩
                have BJ := Lib.hid (Below.step FB.out hbj)
                clear hbj
                go_wp2_with fail
                go_ret
                exact ⟨rfl, BJ.out⟩
          · have FB := Lib.hid (Below.step BB.out hbf)
            have f0 : ((c : Int) != 0) = true := by simpa using hc0
            clear hbf
            go_wp2_with fail
            go_ret
            exact ⟨rfl, FB.out⟩
    · have BB := Lib.hid (Below.step B1.out hb2)
      have f0 : ((c : Int) == 0) = false := beq_eq_false_iff_ne.2 (by omega)
      clear hb2 HC1 c0 c1 c2 B1
      go_wp2_with fail
      refine (HFN.out _).mono ?_
      rintro e wf (⟨fs, fa, fc, d, hd, hfx, hd1, hfl, h4, rfl, hown, hbf⟩ | ⟨c, hc0, _, rfl, hbf⟩)
      · have FB := Lib.hid (Below.step BB.out hbf)
        obtain ⟨fa', fc', hv, hcap, hcap2, hsat⟩ := SAt.own (w := wf) hown sC_length
        cases hv
        have FS := Lib.hid hsat
        have FBD : Hid (∀ (k : Nat) (hk : k < fs.length), 1 ≤ fs[k].size ∧ ((fs[k].size : Nat) : Int) ≤ n ∧ (k + 1 < fs.length → n ≤ ((fs[k].size : Nat) : Int))) := fun k hk => by
          have := Fxd.bounds hd1 hfx k (by rw [List.length_map]; exact hk)
          simp only [List.getElem_map, strN_length, List.length_map] at this
          exact ⟨this.1, by omega, fun h => by have := this.2.2 h; omega⟩
        have FJ : Hid (∀ u, Below wf.heap.size wf u → Calls Try.prog 12 #[.slice fa fs.length fc, .string ⟨#[]⟩] u fun e w' => e = .returned (.string s) ∧ Below u.heap.size u w') := fun u hu => by
          have hfl2 : (fs.map strN).flatten = strN s := hfx.join
          refine (join_any fa fc fs u (FS.out.below hu) (by omega) hcap (by rw [hfl2, strN_length]; omega)).mono fun e w' ⟨he, hw⟩ => ⟨?_, hw⟩
          rw [he, hfl2, strOf_strN]
        clear hown hbf hsat hfx BB HFN hd
        go_wp2_with fail
        go_loop [87] (fun i => ∃ k : Nat, k ≤ fs.length ∧ i = .int .i64 k) (fun i => fs.length - (intOf i).toNat)
        case atStart => exact ⟨0, Nat.zero_le _, rfl⟩
        case round =>
          obtain ⟨k, hk, rfl⟩ := hrel
          by_cases hlt : k < fs.length
          · have kk : (k : Int) < (fs.length : Int) := by omega
            have k0 : (0 : Int) ≤ (k : Int) := Int.natCast_nonneg _
            obtain ⟨g, off, rfl, hcell⟩ := str_cell FS.out k hlt
            obtain ⟨q1, q2, q3⟩ := FBD.out k hlt
            have q0 := isEmpty_false (s := fs[k]) (by omega)
            have q4 : decide (n < ((fs[k].size : Nat) : Int)) = false := decide_eq_false (by omega)
            clear q2
            generalize fs[k] = p at *
            by_cases g1 : ((p.size : Nat) : Int) < n
            · have g2 : decide (((p.size : Nat) : Int) < n) = true := decide_eq_true g1
              have g3 : ¬ ((k : Int) < (fs.length : Int) - 1) := fun h => by have := q3 (by omega); omega
              clear q3
              go_wp2_with fail
              go_round
              case rel => exact ⟨k + 1, by omega, by go_num⟩
              case measure => simp [intOf]; omega
            · have g2 : decide (((p.size : Nat) : Int) < n) = false := decide_eq_false g1
              clear q3
              go_wp2_with fail
              go_round
              case rel => exact ⟨k + 1, by omega, by go_num⟩
              case measure => simp [intOf]; omega
          · have m1 : ¬ (k : Int) < (fs.length : Int) := by omega
            clear FS FBD
            go_wp2_with fail
            refine (FJ.out _ (Below.refl _ _)).mono ?_
            rintro e wj ⟨rfl, hbj⟩
            have BJ := Lib.hid (Below.step FB.out hbj)
            clear hbj
            go_wp2_with fail
            go_ret
            exact ⟨rfl, BJ.out⟩
      · have FB := Lib.hid (Below.step BB.out hbf)
        have f0 : ((c : Int) != 0) = true := by simpa using hc0
        clear hbf
        go_wp2_with fail
        go_ret
        exact ⟨rfl, FB.out⟩
  · exfalso
    rcases hbad with h | h | h
    · omega
    · omega
    · exact absurd h (by decide +kernel)
end Go.Proofs.Ytbmklkjjkjgehaa
