/- NumOne: its walk. -/
import Derived.Test.YtiokodjlijaddaaDoorNumBackW
namespace Go.Proofs.YtiokodjlijaddaaDoor
open Go.RowKit Plain
def SBack (w0 : World) (s : ByteArray) (e : Ending) (w : World) : Prop := e = .returned (.string s) ∧ Below w0.heap.size w0 w
theorem key_ukey {b : Nat} (hb : b < 18446744073709551616) (h : isNaN (ukey b) = false ∨ ukey b = nanW) : key (ukey b) = b := by
  rcases h with h | h
  · unfold key
    rw [h]
    unfold ukey
    by_cases hlo : b < 9223372036854775808
    · rw [if_pos hlo]
      have hn : isNeg (18446744073709551615 - b) = true := by
        unfold isNeg
        rw [beq_iff_eq]
        omega
      rw [hn]
      simp only [Bool.false_eq_true, if_false, if_true]
      omega
    · rw [if_neg hlo]
      have hn : isNeg (b - 9223372036854775808) = false := by
        unfold isNeg
        rw [beq_eq_false_iff_ne]
        omega
      rw [hn]
      simp only [Bool.false_eq_true, if_false]
      omega
  · rw [h]
    have e1 : key nanW = 18444492273895866369 := by decide +kernel
    rw [e1]
    unfold ukey nanW at h
    split at h <;> omega
theorem ukey_lt {b : Nat} (hb : b < 18446744073709551616) : ukey b < 18446744073709551616 := by
  unfold ukey
  split <;> omega
theorem take8_be8 (l : List Nat) (h : 8 ≤ l.length) (hl : ∀ c ∈ l, c < 256) : be8 (vl (l.take 8)) = l.take 8 := by
  have h1 : ∀ c ∈ l.take 8, c < 256 := fun c hc => hl c (List.mem_of_mem_take hc)
  have h2 : (l.take 8).length = 8 := by rw [List.length_take]; omega
  have h3 := vl_lt (l.take 8) h1
  rw [h2] at h3
  exact vl_inj _ _ (by rw [h2]; rfl) (be8_lt _) h1 (vl_be8 _ h3)
theorem get_210 : getN [2, 1, 0] = (256, 3, 0) := by decide
set_option maxRecDepth 100000 in
set_option maxHeartbeats 8000000 in
theorem numOne_any (s : ByteArray) (m : Int) (w : World) (hs : s.size ≤ 140737488351232) (hm : w.cell? ⟨2, 0, none⟩ = some (.int .i64 m)) :
    Calls Tryd.prog 7 #[.string s] w fun e w' => e = .returned (.bool true) ∧ Below w.heap.size w w' := by
  have hlt : 2 < w.heap.size := World.block_lt_of_cell? _ _ hm
  have N0 : Hid (∀ u, Calls Tryd.prog 18 #[.string ⟨#[2, 1, 0]⟩] u fun e w' => e = .returned (.tuple #[.int .u64 256, .int .i64 3, .int .i64 0]) ∧ u = w') := fun u => by
    have h := get_any ⟨#[2, 1, 0]⟩ u (by decide)
    unfold GetEnd at h
    rw [show strN ⟨#[2, 1, 0]⟩ = [2, 1, 0] by decide +kernel, get_210] at h
    exact h
  -- Get
  obtain ⟨gn, gk, gc, hg⟩ : ∃ gn gk gc, getN (strN s) = (gn, gk, gc) := ⟨_, _, _, rfl⟩
  have G1 : Hid (∀ u, Calls Tryd.prog 18 #[.string s] u fun e w' => e = .returned (.tuple #[.int .u64 (gn : Int), .int .i64 (gk : Int), .int .i64 (gc : Int)]) ∧ u = w') := fun u => by
    have h := get_any s u (by omega)
    unfold GetEnd at h
    rw [hg] at h
    exact h
  have P1 : Hid (gc = 0 → gk ≤ s.size ∧ ∀ u, Calls Tryd.prog 12 #[.int .u64 (gn : Int)] u (SBack u (s.extract 0 gk))) := fun h0 => by
    rw [h0] at hg
    obtain ⟨hk, hnum⟩ := getN_back (strN_lt s) hg
    rw [strN_length] at hk
    refine ⟨hk, fun u => ?_⟩
    have hlt64 : gn < 18446744073709551616 := by
      obtain ⟨l, hl, _⟩ := hnum
      have h1 := vl_lt l hl.1.1
      have h2 : 256 ^ l.length ≤ 256 ^ 8 := Nat.pow_le_pow_right (by decide) hl.2.1
      rw [hl.2.2] at h1
      exact Nat.lt_of_lt_of_le h1 h2
    refine (put_any gn hlt64 u).mono ?_
    rintro e w' ⟨sa, hsa, rfl, hb⟩
    have : sa = s.extract 0 gk := strN_inj (by rw [extract_strN', List.drop_zero, Nat.sub_zero]; exact hsa.unique hnum)
    subst this
    exact ⟨rfl, hb⟩
  -- GetInt
  obtain ⟨jn, jk, jc, hj⟩ : ∃ jn jk jc, getI (strN s) = (jn, jk, jc) := ⟨_, _, _, rfl⟩
  have G2 : Hid (∀ u, Calls Tryd.prog 19 #[.string s] u fun e w' => e = .returned (.tuple #[.int .i64 jn, .int .i64 (jk : Int), .int .i64 (jc : Int)]) ∧ Below u.heap.size u w') := fun u => by
    have h := getInt_any s u (by omega)
    unfold GetIEnd at h
    rw [hj] at h
    exact h
  have P2 : Hid (jc = 0 → jk ≤ s.size ∧ ∀ u, Calls Tryd.prog 13 #[.int .i64 jn] u (SBack u (s.extract 0 jk))) := fun h0 => by
    rw [h0] at hj
    obtain ⟨hk, hnum, hrange⟩ := getI_back (strN_lt s) hj
    rw [strN_length] at hk
    refine ⟨hk, fun u => ?_⟩
    refine (putInt_any jn hrange u).mono ?_
    rintro e w' ⟨sa, hsa, rfl, hb⟩
    have : sa = s.extract 0 jk := strN_inj (by rw [extract_strN', List.drop_zero, Nat.sub_zero]; exact hsa.unique hnum)
    subst this
    exact ⟨rfl, hb⟩
  -- GetFloat
  have G3 : Hid (∃ (x k c : Nat), (∀ u, Calls Tryd.prog 20 #[.string s] u fun e w' => e = .returned (.tuple #[.float .f64 x, .int .i64 (k : Int), .int .i64 (c : Int)]) ∧ u = w') ∧ (c = 0 → k ≤ s.size ∧ ∀ u, Calls Tryd.prog 16 #[.float .f64 x] u (SBack u (s.extract 0 k)))) := by
    by_cases h8 : s.size < 8
    · refine ⟨0, 0, 3, fun u => (getFloat_any s u (by omega)).mono ?_, fun h => by omega⟩
      rintro e w' ⟨⟨_, he⟩ | ⟨h, _⟩ | ⟨h, _⟩, hw⟩
      · exact ⟨he, hw⟩
      · omega
      · omega
    · have hb : vl ((strN s).take 8) < 18446744073709551616 := by
        have h1 := vl_lt ((strN s).take 8) (fun c hc => strN_lt s c (List.mem_of_mem_take hc))
        have h2 : 256 ^ ((strN s).take 8).length ≤ 256 ^ 8 := Nat.pow_le_pow_right (by decide) (by rw [List.length_take]; omega)
        exact Nat.lt_of_lt_of_le h1 h2
      by_cases hbad : isNaN (ukey (vl ((strN s).take 8))) = true ∧ ukey (vl ((strN s).take 8)) ≠ nanW
      · refine ⟨0, 0, 4, fun u => (getFloat_any s u (by omega)).mono ?_, fun h => by omega⟩
        rintro e w' ⟨⟨h, _⟩ | ⟨_, _, _, he⟩ | ⟨_, h, _⟩, hw⟩
        · omega
        · exact ⟨he, hw⟩
        · rcases h with h | h
          · rw [hbad.1] at h; cases h
          · exact absurd h hbad.2
      · have hok : isNaN (ukey (vl ((strN s).take 8))) = false ∨ ukey (vl ((strN s).take 8)) = nanW := by
          cases hn : isNaN (ukey (vl ((strN s).take 8))) with
          | false => exact .inl rfl
          | true => exact .inr (Classical.byContradiction fun h => hbad ⟨hn, h⟩)
        refine ⟨ukey (vl ((strN s).take 8)), 8, 0, fun u => (getFloat_any s u (by omega)).mono ?_, fun _ => ⟨by omega, fun u => ?_⟩⟩
        · rintro e w' ⟨⟨h, _⟩ | ⟨_, h1, h2, _⟩ | ⟨_, _, he⟩, hw⟩
          · omega
          · exact absurd ⟨h1, h2⟩ hbad
          · exact ⟨he, hw⟩
        · refine (putFloat_any _ (ukey_lt hb) u).mono ?_
          rintro e w' ⟨he, hb'⟩
          refine ⟨?_, hb'⟩
          rw [he, key_ukey hb hok, take8_be8 _ (by rw [strN_length]; omega) (strN_lt s)]
          congr 2
          apply strN_inj
          rw [strN_strOf _ (fun c hc => strN_lt s c (List.mem_of_mem_take hc)), extract_strN', List.drop_zero]
  obtain ⟨fx, fk, fc, G3a, P3a⟩ := G3.out
  have G3b := Lib.hid G3a
  have P3 := Lib.hid P3a
  have G4 := Lib.hid fun u => getText_any s u (by omega)
  have PS : Hid (∀ (t : ByteArray) u, t.size ≤ 1024 → Below w.heap.size w u → Calls Tryd.prog 14 #[.string t] u fun e w' => e = .returned (.tuple #[.string (strOf (putT (strN t))), .int .i64 0]) ∧ Below u.heap.size u w') := fun t u h4 hu => by
    refine (putText_any t m u (by omega) ((hu.cell (p := ⟨2, 0, none⟩) hlt).trans hm)).mono ?_
    rintro e w' ⟨⟨h, _⟩ | ⟨_, rfl⟩, hb⟩
    · omega
    · exact ⟨rfl, hb⟩
  clear G3 G3a P3a hg hj hm hlt
  have B0 := Lib.hid (Below.refl w.heap.size w)
  go_enter Tryd.func7, Tryd.ntmps7
  go_wp2_with fail
  refine (N0.out _).mono ?_
  rintro e w0 ⟨rfl, rfl⟩
  clear N0
  go_wp2_with fail
  refine (G1.out _).mono ?_
  rintro e wg0 ⟨rfl, rfl⟩
  clear G1
  by_cases hc : gc = 0
  · obtain ⟨hk1, hP1⟩ := P1.out hc
    have HP1 := Lib.hid hP1
    have f1 : ((gc : Int) == 0) = true := by simpa using hc
    have k0 : (0 : Int) ≤ (gk : Int) := Int.natCast_nonneg _
    have k1 : (gk : Int) ≤ (s.size : Int) := by omega
    have k2 : decide ((s.size : Int) < (gk : Int)) = false := decide_eq_false (by omega)
    have k3 : decide (s.size < gk) = false := decide_eq_false (by omega)
    have k4 : ¬ s.size < gk := by omega
    clear hP1 hc P1
    go_wp2_with fail
    go_region_held3 (fun _ => True) (trivial) (first | (go_at_call 12; (with_reducible refine (HP1.out _).mono ?_); rintro e w1 ⟨rfl, hb1⟩))
    have B1 := Lib.hid (Below.step B0.out.drew hb1)
    clear hb1 HP1 f1 k0 k1 k2 k3 k4 hk1
    go_wp2_with fail
    refine (G2.out _).mono ?_
    rintro e wg1 ⟨rfl, hbg⟩
    have B1g := Lib.hid (Below.step B1.out hbg)
    clear G2 hbg
    by_cases hc : jc = 0
    · obtain ⟨hk1, hP1⟩ := P2.out hc
      have HP1 := Lib.hid hP1
      have f1 : ((jc : Int) == 0) = true := by simpa using hc
      have k0 : (0 : Int) ≤ (jk : Int) := Int.natCast_nonneg _
      have k1 : (jk : Int) ≤ (s.size : Int) := by omega
      have k2 : decide ((s.size : Int) < (jk : Int)) = false := decide_eq_false (by omega)
      have k3 : decide (s.size < jk) = false := decide_eq_false (by omega)
      have k4 : ¬ s.size < jk := by omega
      clear hP1 hc P2
      go_wp2_with fail
      go_region_held3 (fun _ => True) (trivial) (first | (go_at_call 13; (with_reducible refine (HP1.out _).mono ?_); rintro e w1 ⟨rfl, hb1⟩))
      have B2 := Lib.hid (Below.step B1g.out.drew hb1)
      clear hb1 HP1 f1 k0 k1 k2 k3 k4 hk1
      go_wp2_with fail
      refine (G3b.out _).mono ?_
      rintro e wg2 ⟨rfl, rfl⟩
      clear G3b
      by_cases hc : fc = 0
      · obtain ⟨hk1, hP1⟩ := P3.out hc
        have HP1 := Lib.hid hP1
        have f1 : ((fc : Int) == 0) = true := by simpa using hc
        have k0 : (0 : Int) ≤ (fk : Int) := Int.natCast_nonneg _
        have k1 : (fk : Int) ≤ (s.size : Int) := by omega
        have k2 : decide ((s.size : Int) < (fk : Int)) = false := decide_eq_false (by omega)
        have k3 : decide (s.size < fk) = false := decide_eq_false (by omega)
        have k4 : ¬ s.size < fk := by omega
        clear hP1 hc P3
        go_wp2_with fail
        go_region_held3 (fun _ => True) (trivial) (first | (go_at_call 16; (with_reducible refine (HP1.out _).mono ?_); rintro e w1 ⟨rfl, hb1⟩))
        have B3 := Lib.hid (Below.step B2.out.drew hb1)
        clear hb1 HP1 f1 k0 k1 k2 k3 k4 hk1
        go_wp2_with fail
        refine (G4.out _).mono ?_
        rintro e w9 ⟨t, k, c, hend, htl, rfl, hb9⟩
        have B9 := Lib.hid (Below.step B3.out hb9)
        clear hb9 G4
        by_cases hc : c = 0
        · subst hc
          obtain ⟨hk, hput, ht4⟩ := hend.ok
          rw [strN_length] at hk
          have hE : strOf (putT t) = s.extract 0 k := strN_inj (by rw [hput, strN_strOf _ (fun c hc => strN_lt s c (List.mem_of_mem_take hc)), extract_strN', List.drop_zero, Nat.sub_zero])
          have HPT : Hid (Calls Tryd.prog 14 #[.string (strOf t)] w9 fun e w' => e = .returned (.tuple #[.string (s.extract 0 k), .int .i64 0]) ∧ Below w9.heap.size w9 w') := by
            have h := PS.out (strOf t) w9 (by rw [strOf_size]; exact ht4) B9.out
            rw [strN_strOf t htl, hE] at h
            exact h
          have k0 : (0 : Int) ≤ (k : Int) := Int.natCast_nonneg _
          have k1 : (k : Int) ≤ (s.size : Int) := by omega
          have k2 : decide ((k : Int) ≤ (s.size : Int)) = true := decide_eq_true (by omega)
          have k3 : decide (k ≤ s.size) = true := decide_eq_true (by omega)
          clear hE hput hend ht4 htl PS
          go_wp2_with fail
          refine HPT.out.mono ?_
          rintro e w10 ⟨rfl, hb10⟩
          have B10 := Lib.hid (Below.step B9.out hb10)
          clear hb10 HPT
          go_wp2_with fail
          go_ret
          exact ⟨rfl, B10.out⟩
        · have f1 : ((c : Int) != 0) = true := by simpa using hc
          have ht : t = [] := by
            rcases hend with ⟨h, _⟩ | ⟨h, _⟩
            · exact absurd h hc
            · exact h
          subst ht
          clear hend htl hc PS
          have hne : strOf [] = ⟨#[]⟩ := rfl
          rw [hne]
          go_wp2_with fail
          go_ret
          exact ⟨rfl, B9.out⟩
      · have f1 : ((fc : Int) == 0) = false := by simpa using hc
        clear hc P3
        go_wp2_with fail
        go_quiet (fail)
        have hbq := below_dn B2.out nq
        try rw [World.drewN_drewN] at hbq
        have B3 := Lib.hid hbq
        clear hbq
        go_wp2_with fail
        refine (G4.out _).mono ?_
        rintro e w9 ⟨t, k, c, hend, htl, rfl, hb9⟩
        have B9 := Lib.hid (Below.step B3.out hb9)
        clear hb9 G4
        by_cases hc : c = 0
        · subst hc
          obtain ⟨hk, hput, ht4⟩ := hend.ok
          rw [strN_length] at hk
          have hE : strOf (putT t) = s.extract 0 k := strN_inj (by rw [hput, strN_strOf _ (fun c hc => strN_lt s c (List.mem_of_mem_take hc)), extract_strN', List.drop_zero, Nat.sub_zero])
          have HPT : Hid (Calls Tryd.prog 14 #[.string (strOf t)] w9 fun e w' => e = .returned (.tuple #[.string (s.extract 0 k), .int .i64 0]) ∧ Below w9.heap.size w9 w') := by
            have h := PS.out (strOf t) w9 (by rw [strOf_size]; exact ht4) B9.out
            rw [strN_strOf t htl, hE] at h
            exact h
          have k0 : (0 : Int) ≤ (k : Int) := Int.natCast_nonneg _
          have k1 : (k : Int) ≤ (s.size : Int) := by omega
          have k2 : decide ((k : Int) ≤ (s.size : Int)) = true := decide_eq_true (by omega)
          have k3 : decide (k ≤ s.size) = true := decide_eq_true (by omega)
          clear hE hput hend ht4 htl PS
          go_wp2_with fail
          refine HPT.out.mono ?_
          rintro e w10 ⟨rfl, hb10⟩
          have B10 := Lib.hid (Below.step B9.out hb10)
          clear hb10 HPT
          go_wp2_with fail
          go_ret
          exact ⟨rfl, B10.out⟩
        · have f1 : ((c : Int) != 0) = true := by simpa using hc
          have ht : t = [] := by
            rcases hend with ⟨h, _⟩ | ⟨h, _⟩
            · exact absurd h hc
            · exact h
          subst ht
          clear hend htl hc PS
          have hne : strOf [] = ⟨#[]⟩ := rfl
          rw [hne]
          go_wp2_with fail
          go_ret
          exact ⟨rfl, B9.out⟩
    · have f1 : ((jc : Int) == 0) = false := by simpa using hc
      clear hc P2
      go_wp2_with fail
      go_quiet (fail)
      have hbq := below_dn B1g.out nq
      try rw [World.drewN_drewN] at hbq
      have B2 := Lib.hid hbq
      clear hbq
      go_wp2_with fail
      refine (G3b.out _).mono ?_
      rintro e wg2 ⟨rfl, rfl⟩
      clear G3b
      by_cases hc : fc = 0
      · obtain ⟨hk1, hP1⟩ := P3.out hc
        have HP1 := Lib.hid hP1
        have f1 : ((fc : Int) == 0) = true := by simpa using hc
        have k0 : (0 : Int) ≤ (fk : Int) := Int.natCast_nonneg _
        have k1 : (fk : Int) ≤ (s.size : Int) := by omega
        have k2 : decide ((s.size : Int) < (fk : Int)) = false := decide_eq_false (by omega)
        have k3 : decide (s.size < fk) = false := decide_eq_false (by omega)
        have k4 : ¬ s.size < fk := by omega
        clear hP1 hc P3
        go_wp2_with fail
        go_region_held3 (fun _ => True) (trivial) (first | (go_at_call 16; (with_reducible refine (HP1.out _).mono ?_); rintro e w1 ⟨rfl, hb1⟩))
        have B3 := Lib.hid (Below.step B2.out.drew hb1)
        clear hb1 HP1 f1 k0 k1 k2 k3 k4 hk1
        go_wp2_with fail
        refine (G4.out _).mono ?_
        rintro e w9 ⟨t, k, c, hend, htl, rfl, hb9⟩
        have B9 := Lib.hid (Below.step B3.out hb9)
        clear hb9 G4
        by_cases hc : c = 0
        · subst hc
          obtain ⟨hk, hput, ht4⟩ := hend.ok
          rw [strN_length] at hk
          have hE : strOf (putT t) = s.extract 0 k := strN_inj (by rw [hput, strN_strOf _ (fun c hc => strN_lt s c (List.mem_of_mem_take hc)), extract_strN', List.drop_zero, Nat.sub_zero])
          have HPT : Hid (Calls Tryd.prog 14 #[.string (strOf t)] w9 fun e w' => e = .returned (.tuple #[.string (s.extract 0 k), .int .i64 0]) ∧ Below w9.heap.size w9 w') := by
            have h := PS.out (strOf t) w9 (by rw [strOf_size]; exact ht4) B9.out
            rw [strN_strOf t htl, hE] at h
            exact h
          have k0 : (0 : Int) ≤ (k : Int) := Int.natCast_nonneg _
          have k1 : (k : Int) ≤ (s.size : Int) := by omega
          have k2 : decide ((k : Int) ≤ (s.size : Int)) = true := decide_eq_true (by omega)
          have k3 : decide (k ≤ s.size) = true := decide_eq_true (by omega)
          clear hE hput hend ht4 htl PS
          go_wp2_with fail
          refine HPT.out.mono ?_
          rintro e w10 ⟨rfl, hb10⟩
          have B10 := Lib.hid (Below.step B9.out hb10)
          clear hb10 HPT
          go_wp2_with fail
          go_ret
          exact ⟨rfl, B10.out⟩
        · have f1 : ((c : Int) != 0) = true := by simpa using hc
          have ht : t = [] := by
            rcases hend with ⟨h, _⟩ | ⟨h, _⟩
            · exact absurd h hc
            · exact h
          subst ht
          clear hend htl hc PS
          have hne : strOf [] = ⟨#[]⟩ := rfl
          rw [hne]
          go_wp2_with fail
          go_ret
          exact ⟨rfl, B9.out⟩
      · have f1 : ((fc : Int) == 0) = false := by simpa using hc
        clear hc P3
        go_wp2_with fail
        go_quiet (fail)
        have hbq := below_dn B2.out nq
        try rw [World.drewN_drewN] at hbq
        have B3 := Lib.hid hbq
        clear hbq
        go_wp2_with fail
        refine (G4.out _).mono ?_
        rintro e w9 ⟨t, k, c, hend, htl, rfl, hb9⟩
        have B9 := Lib.hid (Below.step B3.out hb9)
        clear hb9 G4
        by_cases hc : c = 0
        · subst hc
          obtain ⟨hk, hput, ht4⟩ := hend.ok
          rw [strN_length] at hk
          have hE : strOf (putT t) = s.extract 0 k := strN_inj (by rw [hput, strN_strOf _ (fun c hc => strN_lt s c (List.mem_of_mem_take hc)), extract_strN', List.drop_zero, Nat.sub_zero])
          have HPT : Hid (Calls Tryd.prog 14 #[.string (strOf t)] w9 fun e w' => e = .returned (.tuple #[.string (s.extract 0 k), .int .i64 0]) ∧ Below w9.heap.size w9 w') := by
            have h := PS.out (strOf t) w9 (by rw [strOf_size]; exact ht4) B9.out
            rw [strN_strOf t htl, hE] at h
            exact h
          have k0 : (0 : Int) ≤ (k : Int) := Int.natCast_nonneg _
          have k1 : (k : Int) ≤ (s.size : Int) := by omega
          have k2 : decide ((k : Int) ≤ (s.size : Int)) = true := decide_eq_true (by omega)
          have k3 : decide (k ≤ s.size) = true := decide_eq_true (by omega)
          clear hE hput hend ht4 htl PS
          go_wp2_with fail
          refine HPT.out.mono ?_
          rintro e w10 ⟨rfl, hb10⟩
          have B10 := Lib.hid (Below.step B9.out hb10)
          clear hb10 HPT
          go_wp2_with fail
          go_ret
          exact ⟨rfl, B10.out⟩
        · have f1 : ((c : Int) != 0) = true := by simpa using hc
          have ht : t = [] := by
            rcases hend with ⟨h, _⟩ | ⟨h, _⟩
            · exact absurd h hc
            · exact h
          subst ht
          clear hend htl hc PS
          have hne : strOf [] = ⟨#[]⟩ := rfl
          rw [hne]
          go_wp2_with fail
          go_ret
          exact ⟨rfl, B9.out⟩
  · have f1 : ((gc : Int) == 0) = false := by simpa using hc
    clear hc P1
    go_wp2_with fail
    go_quiet (fail)
    have hbq := below_dn B0.out nq
    try rw [World.drewN_drewN] at hbq
    have B1 := Lib.hid hbq
    clear hbq
    go_wp2_with fail
    refine (G2.out _).mono ?_
    rintro e wg1 ⟨rfl, hbg⟩
    have B1g := Lib.hid (Below.step B1.out hbg)
    clear G2 hbg
    by_cases hc : jc = 0
    · obtain ⟨hk1, hP1⟩ := P2.out hc
      have HP1 := Lib.hid hP1
      have f1 : ((jc : Int) == 0) = true := by simpa using hc
      have k0 : (0 : Int) ≤ (jk : Int) := Int.natCast_nonneg _
      have k1 : (jk : Int) ≤ (s.size : Int) := by omega
      have k2 : decide ((s.size : Int) < (jk : Int)) = false := decide_eq_false (by omega)
      have k3 : decide (s.size < jk) = false := decide_eq_false (by omega)
      have k4 : ¬ s.size < jk := by omega
      clear hP1 hc P2
      go_wp2_with fail
      go_region_held3 (fun _ => True) (trivial) (first | (go_at_call 13; (with_reducible refine (HP1.out _).mono ?_); rintro e w1 ⟨rfl, hb1⟩))
      have B2 := Lib.hid (Below.step B1g.out.drew hb1)
      clear hb1 HP1 f1 k0 k1 k2 k3 k4 hk1
      go_wp2_with fail
      refine (G3b.out _).mono ?_
      rintro e wg2 ⟨rfl, rfl⟩
      clear G3b
      by_cases hc : fc = 0
      · obtain ⟨hk1, hP1⟩ := P3.out hc
        have HP1 := Lib.hid hP1
        have f1 : ((fc : Int) == 0) = true := by simpa using hc
        have k0 : (0 : Int) ≤ (fk : Int) := Int.natCast_nonneg _
        have k1 : (fk : Int) ≤ (s.size : Int) := by omega
        have k2 : decide ((s.size : Int) < (fk : Int)) = false := decide_eq_false (by omega)
        have k3 : decide (s.size < fk) = false := decide_eq_false (by omega)
        have k4 : ¬ s.size < fk := by omega
        clear hP1 hc P3
        go_wp2_with fail
        go_region_held3 (fun _ => True) (trivial) (first | (go_at_call 16; (with_reducible refine (HP1.out _).mono ?_); rintro e w1 ⟨rfl, hb1⟩))
        have B3 := Lib.hid (Below.step B2.out.drew hb1)
        clear hb1 HP1 f1 k0 k1 k2 k3 k4 hk1
        go_wp2_with fail
        refine (G4.out _).mono ?_
        rintro e w9 ⟨t, k, c, hend, htl, rfl, hb9⟩
        have B9 := Lib.hid (Below.step B3.out hb9)
        clear hb9 G4
        by_cases hc : c = 0
        · subst hc
          obtain ⟨hk, hput, ht4⟩ := hend.ok
          rw [strN_length] at hk
          have hE : strOf (putT t) = s.extract 0 k := strN_inj (by rw [hput, strN_strOf _ (fun c hc => strN_lt s c (List.mem_of_mem_take hc)), extract_strN', List.drop_zero, Nat.sub_zero])
          have HPT : Hid (Calls Tryd.prog 14 #[.string (strOf t)] w9 fun e w' => e = .returned (.tuple #[.string (s.extract 0 k), .int .i64 0]) ∧ Below w9.heap.size w9 w') := by
            have h := PS.out (strOf t) w9 (by rw [strOf_size]; exact ht4) B9.out
            rw [strN_strOf t htl, hE] at h
            exact h
          have k0 : (0 : Int) ≤ (k : Int) := Int.natCast_nonneg _
          have k1 : (k : Int) ≤ (s.size : Int) := by omega
          have k2 : decide ((k : Int) ≤ (s.size : Int)) = true := decide_eq_true (by omega)
          have k3 : decide (k ≤ s.size) = true := decide_eq_true (by omega)
          clear hE hput hend ht4 htl PS
          go_wp2_with fail
          refine HPT.out.mono ?_
          rintro e w10 ⟨rfl, hb10⟩
          have B10 := Lib.hid (Below.step B9.out hb10)
          clear hb10 HPT
          go_wp2_with fail
          go_ret
          exact ⟨rfl, B10.out⟩
        · have f1 : ((c : Int) != 0) = true := by simpa using hc
          have ht : t = [] := by
            rcases hend with ⟨h, _⟩ | ⟨h, _⟩
            · exact absurd h hc
            · exact h
          subst ht
          clear hend htl hc PS
          have hne : strOf [] = ⟨#[]⟩ := rfl
          rw [hne]
          go_wp2_with fail
          go_ret
          exact ⟨rfl, B9.out⟩
      · have f1 : ((fc : Int) == 0) = false := by simpa using hc
        clear hc P3
        go_wp2_with fail
        go_quiet (fail)
        have hbq := below_dn B2.out nq
        try rw [World.drewN_drewN] at hbq
        have B3 := Lib.hid hbq
        clear hbq
        go_wp2_with fail
        refine (G4.out _).mono ?_
        rintro e w9 ⟨t, k, c, hend, htl, rfl, hb9⟩
        have B9 := Lib.hid (Below.step B3.out hb9)
        clear hb9 G4
        by_cases hc : c = 0
        · subst hc
          obtain ⟨hk, hput, ht4⟩ := hend.ok
          rw [strN_length] at hk
          have hE : strOf (putT t) = s.extract 0 k := strN_inj (by rw [hput, strN_strOf _ (fun c hc => strN_lt s c (List.mem_of_mem_take hc)), extract_strN', List.drop_zero, Nat.sub_zero])
          have HPT : Hid (Calls Tryd.prog 14 #[.string (strOf t)] w9 fun e w' => e = .returned (.tuple #[.string (s.extract 0 k), .int .i64 0]) ∧ Below w9.heap.size w9 w') := by
            have h := PS.out (strOf t) w9 (by rw [strOf_size]; exact ht4) B9.out
            rw [strN_strOf t htl, hE] at h
            exact h
          have k0 : (0 : Int) ≤ (k : Int) := Int.natCast_nonneg _
          have k1 : (k : Int) ≤ (s.size : Int) := by omega
          have k2 : decide ((k : Int) ≤ (s.size : Int)) = true := decide_eq_true (by omega)
          have k3 : decide (k ≤ s.size) = true := decide_eq_true (by omega)
          clear hE hput hend ht4 htl PS
          go_wp2_with fail
          refine HPT.out.mono ?_
          rintro e w10 ⟨rfl, hb10⟩
          have B10 := Lib.hid (Below.step B9.out hb10)
          clear hb10 HPT
          go_wp2_with fail
          go_ret
          exact ⟨rfl, B10.out⟩
        · have f1 : ((c : Int) != 0) = true := by simpa using hc
          have ht : t = [] := by
            rcases hend with ⟨h, _⟩ | ⟨h, _⟩
            · exact absurd h hc
            · exact h
          subst ht
          clear hend htl hc PS
          have hne : strOf [] = ⟨#[]⟩ := rfl
          rw [hne]
          go_wp2_with fail
          go_ret
          exact ⟨rfl, B9.out⟩
    · have f1 : ((jc : Int) == 0) = false := by simpa using hc
      clear hc P2
      go_wp2_with fail
      go_quiet (fail)
      have hbq := below_dn B1g.out nq
      try rw [World.drewN_drewN] at hbq
      have B2 := Lib.hid hbq
      clear hbq
      go_wp2_with fail
      refine (G3b.out _).mono ?_
      rintro e wg2 ⟨rfl, rfl⟩
      clear G3b
      by_cases hc : fc = 0
      · obtain ⟨hk1, hP1⟩ := P3.out hc
        have HP1 := Lib.hid hP1
        have f1 : ((fc : Int) == 0) = true := by simpa using hc
        have k0 : (0 : Int) ≤ (fk : Int) := Int.natCast_nonneg _
        have k1 : (fk : Int) ≤ (s.size : Int) := by omega
        have k2 : decide ((s.size : Int) < (fk : Int)) = false := decide_eq_false (by omega)
        have k3 : decide (s.size < fk) = false := decide_eq_false (by omega)
        have k4 : ¬ s.size < fk := by omega
        clear hP1 hc P3
        go_wp2_with fail
        go_region_held3 (fun _ => True) (trivial) (first | (go_at_call 16; (with_reducible refine (HP1.out _).mono ?_); rintro e w1 ⟨rfl, hb1⟩))
        have B3 := Lib.hid (Below.step B2.out.drew hb1)
        clear hb1 HP1 f1 k0 k1 k2 k3 k4 hk1
        go_wp2_with fail
        refine (G4.out _).mono ?_
        rintro e w9 ⟨t, k, c, hend, htl, rfl, hb9⟩
        have B9 := Lib.hid (Below.step B3.out hb9)
        clear hb9 G4
        by_cases hc : c = 0
        · subst hc
          obtain ⟨hk, hput, ht4⟩ := hend.ok
          rw [strN_length] at hk
          have hE : strOf (putT t) = s.extract 0 k := strN_inj (by rw [hput, strN_strOf _ (fun c hc => strN_lt s c (List.mem_of_mem_take hc)), extract_strN', List.drop_zero, Nat.sub_zero])
          have HPT : Hid (Calls Tryd.prog 14 #[.string (strOf t)] w9 fun e w' => e = .returned (.tuple #[.string (s.extract 0 k), .int .i64 0]) ∧ Below w9.heap.size w9 w') := by
            have h := PS.out (strOf t) w9 (by rw [strOf_size]; exact ht4) B9.out
            rw [strN_strOf t htl, hE] at h
            exact h
          have k0 : (0 : Int) ≤ (k : Int) := Int.natCast_nonneg _
          have k1 : (k : Int) ≤ (s.size : Int) := by omega
          have k2 : decide ((k : Int) ≤ (s.size : Int)) = true := decide_eq_true (by omega)
          have k3 : decide (k ≤ s.size) = true := decide_eq_true (by omega)
          clear hE hput hend ht4 htl PS
          go_wp2_with fail
          refine HPT.out.mono ?_
          rintro e w10 ⟨rfl, hb10⟩
          have B10 := Lib.hid (Below.step B9.out hb10)
          clear hb10 HPT
          go_wp2_with fail
          go_ret
          exact ⟨rfl, B10.out⟩
        · have f1 : ((c : Int) != 0) = true := by simpa using hc
          have ht : t = [] := by
            rcases hend with ⟨h, _⟩ | ⟨h, _⟩
            · exact absurd h hc
            · exact h
          subst ht
          clear hend htl hc PS
          have hne : strOf [] = ⟨#[]⟩ := rfl
          rw [hne]
          go_wp2_with fail
          go_ret
          exact ⟨rfl, B9.out⟩
      · have f1 : ((fc : Int) == 0) = false := by simpa using hc
        clear hc P3
        go_wp2_with fail
        go_quiet (fail)
        have hbq := below_dn B2.out nq
        try rw [World.drewN_drewN] at hbq
        have B3 := Lib.hid hbq
        clear hbq
        go_wp2_with fail
        refine (G4.out _).mono ?_
        rintro e w9 ⟨t, k, c, hend, htl, rfl, hb9⟩
        have B9 := Lib.hid (Below.step B3.out hb9)
        clear hb9 G4
        by_cases hc : c = 0
        · subst hc
          obtain ⟨hk, hput, ht4⟩ := hend.ok
          rw [strN_length] at hk
          have hE : strOf (putT t) = s.extract 0 k := strN_inj (by rw [hput, strN_strOf _ (fun c hc => strN_lt s c (List.mem_of_mem_take hc)), extract_strN', List.drop_zero, Nat.sub_zero])
          have HPT : Hid (Calls Tryd.prog 14 #[.string (strOf t)] w9 fun e w' => e = .returned (.tuple #[.string (s.extract 0 k), .int .i64 0]) ∧ Below w9.heap.size w9 w') := by
            have h := PS.out (strOf t) w9 (by rw [strOf_size]; exact ht4) B9.out
            rw [strN_strOf t htl, hE] at h
            exact h
          have k0 : (0 : Int) ≤ (k : Int) := Int.natCast_nonneg _
          have k1 : (k : Int) ≤ (s.size : Int) := by omega
          have k2 : decide ((k : Int) ≤ (s.size : Int)) = true := decide_eq_true (by omega)
          have k3 : decide (k ≤ s.size) = true := decide_eq_true (by omega)
          clear hE hput hend ht4 htl PS
          go_wp2_with fail
          refine HPT.out.mono ?_
          rintro e w10 ⟨rfl, hb10⟩
          have B10 := Lib.hid (Below.step B9.out hb10)
          clear hb10 HPT
          go_wp2_with fail
          go_ret
          exact ⟨rfl, B10.out⟩
        · have f1 : ((c : Int) != 0) = true := by simpa using hc
          have ht : t = [] := by
            rcases hend with ⟨h, _⟩ | ⟨h, _⟩
            · exact absurd h hc
            · exact h
          subst ht
          clear hend htl hc PS
          have hne : strOf [] = ⟨#[]⟩ := rfl
          rw [hne]
          go_wp2_with fail
          go_ret
          exact ⟨rfl, B9.out⟩
end Go.Proofs.YtiokodjlijaddaaDoor
