/- Joined: NumW4. -/
import Derived.Test.YtpfmfigommmjiaaDoorToAJ
namespace Go.Proofs.YtpfmfigommmjiaaDoor
open Go.RowKit Plain
def GetIEnd (w0 : World) (s : ByteArray) (e : Ending) (w : World) : Prop :=
  e = .returned (.tuple #[.int .i64 (getI (strN s)).1, .int .i64 (((getI (strN s)).2.1 : Nat) : Int), .int .i64 (((getI (strN s)).2.2 : Nat) : Int)]) ∧ Below w0.heap.size w0 w
theorem below_q {w u : World} {n : Nat} (h : Below (w.drewN n).heap.size (w.drewN n) u) : Below w.heap.size w u := (below_dn (Below.refl w.heap.size w) n).trans h
set_option maxRecDepth 100000 in
set_option maxHeartbeats 8000000 in
theorem getInt_any (s : ByteArray) (w : World) (hs : s.size ≤ 9223372036854775806) : Calls Tryd.prog 60 #[.string s] w (GetIEnd w s) := by
  by_cases h0 : s.size = 0
  · have hr := str_nil_of' h0
    subst hr
    clear h0 hs
    go_enter Tryd.func60, Tryd.ntmps60
    go_wp2_with fail
    go_ret3
    exact ⟨rfl, Below.refl _ _⟩
  · have hp : 0 < s.size := by omega
    have f0 := isEmpty_false' h0
    have hcc := strN_cons s hp
    have hxl : ((strN s).drop 1).length = s.size - 1 := by rw [List.length_drop, strN_length]
    obtain ⟨x, hx⟩ : ∃ x, x = (strN s).drop 1 := ⟨_, rfl⟩
    rw [← hx] at hcc hxl
    obtain ⟨c, hc⟩ : ∃ c, c = (s[0]'hp).toNat := ⟨_, rfl⟩
    rw [← hc] at hcc
    have hpI : (0 : Int) < (s.size : Int) := by omega
    have hkk : (s[0]'hp).toNat = c := hc.symm
    have HC := Lib.hid hcc
    have HX := Lib.hid hx
    have hc256 : c < 256 := by rw [hc]; exact UInt8.toNat_lt _
    have w1' : IntKind.i64.wrap (c : Int) = (c : Int) := wraps_i64 _ (by omega) (by omega)
    have w1'' : IntKind.i64.wrap ((c : Int) - 128) = (c : Int) - 128 := IntWalk.i64_in _ (by omega)
    clear hc hcc hx h0
    by_cases hc128 : c < 128
    · have b1 : decide ((c : Int) < 128) = true := decide_eq_true (by omega)
      obtain ⟨k, hk⟩ : ∃ k, k = 127 - c := ⟨_, rfl⟩
      have w2 : (127 : Int) - (c : Int) = (k : Int) := by omega
      have w3 : IntKind.i64.wrap (127 - (c : Int)) = (k : Int) := by rw [w2]; exact wraps_i64 _ (by omega) (by omega)
      have k0 : (0 : Int) ≤ (k : Int) := Int.natCast_nonneg _
      have hk127 : k ≤ 127 := by omega
      have HGI : Hid (getI (strN s) = getI (c :: x)) := by show _ = _; rw [HC.out]
      have HKD := Lib.hid hk
      have HGK : Hid (getI (c :: x) = if 8 < k then (0, 0, 4) else if x.length < k then (0, 0, 3) else if (0 < k ∧ (flp (x.take k)).getD 0 0 = 0) ∨ 9223372036854775807 < vl (flp (x.take k)) then (0, 0, 4) else (-1 - (vl (flp (x.take k)) : Int), 1 + k, 0)) := by
        show _ = _
        simp only [getI, if_pos hc128, ← HKD.out]
      clear hk
      by_cases h8 : 8 < k
      · have f1 : decide ((8 : Int) < (k : Int)) = true := decide_eq_true (by omega)
        have f2 : (8 : Int) < (k : Int) := by omega
        have HG : Hid (getI (strN s) = (0, 0, 4)) := by show _ = _; rw [HGI.out, HGK.out, if_pos h8]
        go_enter Tryd.func60, Tryd.ntmps60
        go_wp2_with fail
        go_quiet (fail)
        go_wp2_with fail
        go_ret3
        exact ⟨by rw [HG.out]; rfl, below_dn (Below.refl _ _) _⟩
      · have f1 : decide ((8 : Int) < (k : Int)) = false := decide_eq_false (by omega)
        have f2 : ¬ (8 : Int) < (k : Int) := by omega
        by_cases hl : s.size < 1 + k
        · have f3 : decide ((s.size : Int) < 1 + (k : Int)) = true := decide_eq_true (by omega)
          have f4 : (s.size : Int) < 1 + (k : Int) := by omega
          have HG : Hid (getI (strN s) = (0, 0, 3)) := by show _ = _; rw [HGI.out, HGK.out, if_neg h8, if_pos (by omega)]
          go_enter Tryd.func60, Tryd.ntmps60
          go_wp2_with fail
          go_quiet (fail)
          go_wp2_with fail
          go_ret3
          exact ⟨by rw [HG.out]; rfl, below_dn (Below.refl _ _) _⟩
        · have f3 : decide ((s.size : Int) < 1 + (k : Int)) = false := decide_eq_false (by omega)
          have f4 : ¬ (s.size : Int) < 1 + (k : Int) := by omega
          have e1 : (1 + (k : Int)).toNat = 1 + k := by omega
          have hXD : strN (s.extract 1 (1 + k)) = x.take k := by rw [extract_strN', Nat.add_sub_cancel_left, ← HX.out]
          have HT : Hid (∀ u, Calls Tryd.prog 45 #[.string (s.extract 1 (1 + k))] u fun e w' => e = .returned (.string (strOf (flp (x.take k)))) ∧ Below u.heap.size u w') := fun u => by
            have h := turned_any (s.extract 1 (1 + k)) u (by rw [ByteArray.size_extract]; omega)
            unfold TurnEnd at h
            rw [hXD] at h
            exact h
          obtain ⟨D, hD⟩ : ∃ D, D = strOf (flp (x.take k)) := ⟨_, rfl⟩
          have hDN : strN D = flp (x.take k) := by rw [hD, strN_strOf _ (flp_lt _)]
          rw [← hD] at HT
          clear hD
          have hDs : D.size = k := by rw [← strN_length, hDN]; simp [flp]; omega
          have HDN := Lib.hid hDN
          have HDS := Lib.hid hDs
          have HV := Lib.hid fun u => value_any D u (by omega)
          rw [hDN] at HV
          obtain ⟨v, hv⟩ : ∃ v, v = vl (flp (x.take k)) := ⟨_, rfl⟩
          have hv64 : v < 18446744073709551616 := by
            rw [hv, ← hDN]
            have h1 := vl_lt (strN D) (strN_lt D)
            have h2 : 256 ^ (strN D).length ≤ 256 ^ 8 := Nat.pow_le_pow_right (by decide) (by rw [strN_length]; omega)
            exact Nat.lt_of_lt_of_le h1 h2
          rw [← hv] at HV HGK
          clear hv hDN hXD
          by_cases hk0 : 0 < k
          · have g1 : decide ((0 : Int) < (k : Int)) = true := decide_eq_true (by omega)
            have g2 : (0 : Int) < (k : Int) := by omega
            have hd0 : 0 < D.size := by omega
            have hdI : (0 : Int) < (D.size : Int) := by omega
            have hdb := byte_at' D 0 hd0
            rw [HDN.out] at hdb
            obtain ⟨d, hdd⟩ : ∃ d, (D[0]'hd0).toNat = d := ⟨_, rfl⟩
            rw [hdd] at hdb
            have HDB := Lib.hid hdb
            clear hdb hDs
            by_cases hz : d = 0
            · have g3 : ((d : Int) == 0) = true := by simpa using hz
              have HG : Hid (getI (strN s) = (0, 0, 4)) := by show _ = _; rw [HGI.out, HGK.out, if_neg h8, if_neg (by omega), if_pos (.inl ⟨hk0, by rw [← HDB.out]; exact hz⟩)]
              clear hz
              go_enter Tryd.func60, Tryd.ntmps60
              go_wp2_with fail
              go_quiet (fail)
              go_wp2_with fail
              refine (HT.out _).mono ?_
              rintro e w1 ⟨rfl, hb1⟩
              have HB1 := Lib.hid (below_q hb1)
              clear hb1
              go_wp2_with fail
              refine (HV.out _).mono ?_
              rintro e w2 ⟨rfl, rfl⟩
              go_wp2_with fail
              go_ret3
              exact ⟨by rw [HG.out]; rfl, HB1.out⟩
            · have g3 : ((d : Int) == 0) = false := by simpa using hz
              have hz2 : ¬ (0 < k ∧ (flp (x.take k)).getD 0 0 = 0) := fun h => hz (by rw [HDB.out]; exact h.2)
              clear hz
              by_cases hbig : 9223372036854775807 < v
              · have g4 : (9223372036854775807 : Int) < (v : Int) := by omega
                have g5 : decide ((9223372036854775807 : Int) < (v : Int)) = true := decide_eq_true g4
                have HG : Hid (getI (strN s) = (0, 0, 4)) := by show _ = _; rw [HGI.out, HGK.out, if_neg h8, if_neg (by omega), if_pos (.inr hbig)]
                clear hbig hz2
                go_enter Tryd.func60, Tryd.ntmps60
                go_wp2_with fail
                go_quiet (fail)
                go_wp2_with fail
                refine (HT.out _).mono ?_
                rintro e w1 ⟨rfl, hb1⟩
                have HB1 := Lib.hid (below_q hb1)
                clear hb1
                go_wp2_with fail
                refine (HV.out _).mono ?_
                rintro e w2 ⟨rfl, rfl⟩
                go_wp2_with fail
                go_ret3
                exact ⟨by rw [HG.out]; rfl, HB1.out⟩
              · have g4 : ¬ (9223372036854775807 : Int) < (v : Int) := by omega
                have g5 : decide ((9223372036854775807 : Int) < (v : Int)) = false := decide_eq_false g4
                have g6 : (v : Int) ≤ 9223372036854775807 := by omega
                have HG : Hid (getI (strN s) = (-1 - (v : Int), 1 + k, 0)) := by show _ = _; rw [HGI.out, HGK.out, if_neg h8, if_neg (by omega), if_neg (by rintro (h | h); exact hz2 h; exact hbig h)]
                clear hbig hz2
                go_enter Tryd.func60, Tryd.ntmps60
                go_wp2_with fail
                go_quiet (fail)
                go_wp2_with fail
                refine (HT.out _).mono ?_
                rintro e w1 ⟨rfl, hb1⟩
                have HB1 := Lib.hid (below_q hb1)
                clear hb1
                go_wp2_with fail
                refine (HV.out _).mono ?_
                rintro e w2 ⟨rfl, rfl⟩
                go_wp2_with fail
                go_ret3
                exact ⟨by rw [HG.out]; rfl, HB1.out⟩
          · have g1 : decide ((0 : Int) < (k : Int)) = false := decide_eq_false (by omega)
            have g2 : ¬ (0 : Int) < (k : Int) := by omega
            have g7 : ¬ 0 < k := hk0
            have hz2 : ¬ (0 < k ∧ (flp (x.take k)).getD 0 0 = 0) := fun h => hk0 h.1
            clear hk0 hDs
            by_cases hbig : 9223372036854775807 < v
            · have g4 : (9223372036854775807 : Int) < (v : Int) := by omega
              have g5 : decide ((9223372036854775807 : Int) < (v : Int)) = true := decide_eq_true g4
              have HG : Hid (getI (strN s) = (0, 0, 4)) := by show _ = _; rw [HGI.out, HGK.out, if_neg h8, if_neg (by omega), if_pos (.inr hbig)]
              clear hbig hz2
              go_enter Tryd.func60, Tryd.ntmps60
              go_wp2_with fail
              go_quiet (fail)
              go_wp2_with fail
              refine (HT.out _).mono ?_
              rintro e w1 ⟨rfl, hb1⟩
              have HB1 := Lib.hid (below_q hb1)
              clear hb1
              go_wp2_with fail
              refine (HV.out _).mono ?_
              rintro e w2 ⟨rfl, rfl⟩
              go_wp2_with fail
              go_ret3
              exact ⟨by rw [HG.out]; rfl, HB1.out⟩
            · have g4 : ¬ (9223372036854775807 : Int) < (v : Int) := by omega
              have g5 : decide ((9223372036854775807 : Int) < (v : Int)) = false := decide_eq_false g4
              have g6 : (v : Int) ≤ 9223372036854775807 := by omega
              have HG : Hid (getI (strN s) = (-1 - (v : Int), 1 + k, 0)) := by show _ = _; rw [HGI.out, HGK.out, if_neg h8, if_neg (by omega), if_neg (by rintro (h | h); exact hz2 h; exact hbig h)]
              clear hbig hz2
              go_enter Tryd.func60, Tryd.ntmps60
              go_wp2_with fail
              go_quiet (fail)
              go_wp2_with fail
              refine (HT.out _).mono ?_
              rintro e w1 ⟨rfl, hb1⟩
              have HB1 := Lib.hid (below_q hb1)
              clear hb1
              go_wp2_with fail
              refine (HV.out _).mono ?_
              rintro e w2 ⟨rfl, rfl⟩
              go_wp2_with fail
              go_ret3
              exact ⟨by rw [HG.out]; rfl, HB1.out⟩
    · have b1 : decide ((c : Int) < 128) = false := decide_eq_false (by omega)
      obtain ⟨k, hk⟩ : ∃ k, k = c - 128 := ⟨_, rfl⟩
      have w2 : (c : Int) - 128 = (k : Int) := by omega
      have k0 : (0 : Int) ≤ (k : Int) := Int.natCast_nonneg _
      have hk127 : k ≤ 127 := by omega
      have HGI : Hid (getI (strN s) = getI (c :: x)) := by show _ = _; rw [HC.out]
      have HKD := Lib.hid hk
      have HGK : Hid (getI (c :: x) = if 8 < k then (0, 0, 4) else if x.length < k then (0, 0, 3) else if (0 < k ∧ (x.take k).getD 0 0 = 0) ∨ 9223372036854775807 < vl (x.take k) then (0, 0, 4) else ((vl (x.take k) : Int), 1 + k, 0)) := by
        show _ = _
        simp only [getI, if_neg hc128, ← HKD.out]
      clear hk
      by_cases h8 : 8 < k
      · have f1 : decide ((8 : Int) < (k : Int)) = true := decide_eq_true (by omega)
        have f2 : (8 : Int) < (k : Int) := by omega
        have HG : Hid (getI (strN s) = (0, 0, 4)) := by show _ = _; rw [HGI.out, HGK.out, if_pos h8]
        go_enter Tryd.func60, Tryd.ntmps60
        go_wp2_with fail
        go_quiet (fail)
        go_wp2_with fail
        go_ret3
        exact ⟨by rw [HG.out]; rfl, below_dn (Below.refl _ _) _⟩
      · have f1 : decide ((8 : Int) < (k : Int)) = false := decide_eq_false (by omega)
        have f2 : ¬ (8 : Int) < (k : Int) := by omega
        by_cases hl : s.size < 1 + k
        · have f3 : decide ((s.size : Int) < 1 + (k : Int)) = true := decide_eq_true (by omega)
          have f4 : (s.size : Int) < 1 + (k : Int) := by omega
          have HG : Hid (getI (strN s) = (0, 0, 3)) := by show _ = _; rw [HGI.out, HGK.out, if_neg h8, if_pos (by omega)]
          go_enter Tryd.func60, Tryd.ntmps60
          go_wp2_with fail
          go_quiet (fail)
          go_wp2_with fail
          go_ret3
          exact ⟨by rw [HG.out]; rfl, below_dn (Below.refl _ _) _⟩
        · have f3 : decide ((s.size : Int) < 1 + (k : Int)) = false := decide_eq_false (by omega)
          have f4 : ¬ (s.size : Int) < 1 + (k : Int) := by omega
          have e1 : (1 + (k : Int)).toNat = 1 + k := by omega
          have hXD : strN (s.extract 1 (1 + k)) = x.take k := by rw [extract_strN', Nat.add_sub_cancel_left, ← HX.out]
          have hDs0 : (s.extract 1 (1 + k)).size = k := by rw [ByteArray.size_extract]; omega
          obtain ⟨D, hD⟩ : ∃ D, D = s.extract 1 (1 + k) := ⟨_, rfl⟩
          have hDN : strN D = x.take k := by rw [hD]; exact hXD
          have hDs : D.size = k := by rw [hD]; exact hDs0
          have HDD := Lib.hid hD
          clear hD
          have HDN := Lib.hid hDN
          have HDS := Lib.hid hDs
          have HV := Lib.hid fun u => value_any D u (by omega)
          rw [hDN] at HV
          obtain ⟨v, hv⟩ : ∃ v, v = vl (x.take k) := ⟨_, rfl⟩
          have hv64 : v < 18446744073709551616 := by
            rw [hv, ← hDN]
            have h1 := vl_lt (strN D) (strN_lt D)
            have h2 : 256 ^ (strN D).length ≤ 256 ^ 8 := Nat.pow_le_pow_right (by decide) (by rw [strN_length]; omega)
            exact Nat.lt_of_lt_of_le h1 h2
          rw [← hv] at HV HGK
          clear hv hDN hXD hDs0
          by_cases hk0 : 0 < k
          · have g1 : decide ((0 : Int) < (k : Int)) = true := decide_eq_true (by omega)
            have g2 : (0 : Int) < (k : Int) := by omega
            have hd0 : 0 < D.size := by omega
            have hdI : (0 : Int) < (D.size : Int) := by omega
            have hdb := byte_at' D 0 hd0
            rw [HDN.out] at hdb
            obtain ⟨d, hdd⟩ : ∃ d, (D[0]'hd0).toNat = d := ⟨_, rfl⟩
            rw [hdd] at hdb
            have HDB := Lib.hid hdb
            clear hdb hDs
            by_cases hz : d = 0
            · have g3 : ((d : Int) == 0) = true := by simpa using hz
              have HG : Hid (getI (strN s) = (0, 0, 4)) := by show _ = _; rw [HGI.out, HGK.out, if_neg h8, if_neg (by omega), if_pos (.inl ⟨hk0, by rw [← HDB.out]; exact hz⟩)]
              clear hz
              go_enter Tryd.func60, Tryd.ntmps60
              go_wp2_with fail
              go_quiet (fail)
              go_wp2_with fail
              rw [← HDD.out]
              refine (HV.out _).mono ?_
              rintro e w2 ⟨rfl, rfl⟩
              go_wp2_with fail
              go_ret3
              exact ⟨by rw [HG.out]; rfl, below_dn (Below.refl _ _) _⟩
            · have g3 : ((d : Int) == 0) = false := by simpa using hz
              have hz2 : ¬ (0 < k ∧ (x.take k).getD 0 0 = 0) := fun h => hz (by rw [HDB.out]; exact h.2)
              clear hz
              by_cases hbig : 9223372036854775807 < v
              · have g4 : (9223372036854775807 : Int) < (v : Int) := by omega
                have g5 : decide ((9223372036854775807 : Int) < (v : Int)) = true := decide_eq_true g4
                have HG : Hid (getI (strN s) = (0, 0, 4)) := by show _ = _; rw [HGI.out, HGK.out, if_neg h8, if_neg (by omega), if_pos (.inr hbig)]
                clear hbig hz2
                go_enter Tryd.func60, Tryd.ntmps60
                go_wp2_with fail
                go_quiet (fail)
                go_wp2_with fail
                rw [← HDD.out]
                refine (HV.out _).mono ?_
                rintro e w2 ⟨rfl, rfl⟩
                go_wp2_with fail
                go_ret3
                exact ⟨by rw [HG.out]; rfl, below_dn (Below.refl _ _) _⟩
              · have g4 : ¬ (9223372036854775807 : Int) < (v : Int) := by omega
                have g5 : decide ((9223372036854775807 : Int) < (v : Int)) = false := decide_eq_false g4
                have g6 : (v : Int) ≤ 9223372036854775807 := by omega
                have HG : Hid (getI (strN s) = ((v : Int), 1 + k, 0)) := by show _ = _; rw [HGI.out, HGK.out, if_neg h8, if_neg (by omega), if_neg (by rintro (h | h); exact hz2 h; exact hbig h)]
                clear hbig hz2
                go_enter Tryd.func60, Tryd.ntmps60
                go_wp2_with fail
                go_quiet (fail)
                go_wp2_with fail
                rw [← HDD.out]
                refine (HV.out _).mono ?_
                rintro e w2 ⟨rfl, rfl⟩
                go_wp2_with fail
                go_ret3
                exact ⟨by rw [HG.out]; rfl, below_dn (Below.refl _ _) _⟩
          · have g1 : decide ((0 : Int) < (k : Int)) = false := decide_eq_false (by omega)
            have g2 : ¬ (0 : Int) < (k : Int) := by omega
            have g7 : ¬ 0 < k := hk0
            have hz2 : ¬ (0 < k ∧ (x.take k).getD 0 0 = 0) := fun h => hk0 h.1
            clear hk0 hDs
            by_cases hbig : 9223372036854775807 < v
            · have g4 : (9223372036854775807 : Int) < (v : Int) := by omega
              have g5 : decide ((9223372036854775807 : Int) < (v : Int)) = true := decide_eq_true g4
              have HG : Hid (getI (strN s) = (0, 0, 4)) := by show _ = _; rw [HGI.out, HGK.out, if_neg h8, if_neg (by omega), if_pos (.inr hbig)]
              clear hbig hz2
              go_enter Tryd.func60, Tryd.ntmps60
              go_wp2_with fail
              go_quiet (fail)
              go_wp2_with fail
              rw [← HDD.out]
              refine (HV.out _).mono ?_
              rintro e w2 ⟨rfl, rfl⟩
              go_wp2_with fail
              go_ret3
              exact ⟨by rw [HG.out]; rfl, below_dn (Below.refl _ _) _⟩
            · have g4 : ¬ (9223372036854775807 : Int) < (v : Int) := by omega
              have g5 : decide ((9223372036854775807 : Int) < (v : Int)) = false := decide_eq_false g4
              have g6 : (v : Int) ≤ 9223372036854775807 := by omega
              have HG : Hid (getI (strN s) = ((v : Int), 1 + k, 0)) := by show _ = _; rw [HGI.out, HGK.out, if_neg h8, if_neg (by omega), if_neg (by rintro (h | h); exact hz2 h; exact hbig h)]
              clear hbig hz2
              go_enter Tryd.func60, Tryd.ntmps60
              go_wp2_with fail
              go_quiet (fail)
              go_wp2_with fail
              rw [← HDD.out]
              refine (HV.out _).mono ?_
              rintro e w2 ⟨rfl, rfl⟩
              go_wp2_with fail
              go_ret3
              exact ⟨by rw [HG.out]; rfl, below_dn (Below.refl _ _) _⟩
end Go.Proofs.YtpfmfigommmjiaaDoor
