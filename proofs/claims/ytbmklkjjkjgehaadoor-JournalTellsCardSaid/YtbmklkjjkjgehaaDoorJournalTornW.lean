/- JournalTorn: its walk. -/
import Derived.Test.YtbmklkjjkjgehaaDoorJournalEnds
namespace Go.Proofs.YtbmklkjjkjgehaaDoor
open Go.RowKit Plain
/-- the frame of a record that is not too long -/
theorem frame_of (s : ByteArray) (hs : s.size ≤ 4096) (u : World) : Calls Tryd.prog 11 #[.string s] u fun e w => ∃ f : ByteArray, Frm idf (strN s) (strN f) ∧ f.size ≤ 4200 ∧ e = .returned (.tuple #[.string f, .int .i64 0]) ∧ Below u.heap.size u w := by
  refine (frame_any s u (by omega)).mono ?_
  rintro e w ⟨⟨h, _⟩ | ⟨f, hf, h4, rfl⟩, hb⟩
  · omega
  · exact ⟨f, hf, h4, rfl, hb⟩
/-- what is torn at once -/
theorem scan_zero (u : World) : Calls Tryd.prog 13 #[.string ⟨#[0]⟩] u fun e w => ∃ (a : Option Addr) (c : Nat), e = .returned (.tuple #[.slice a 0 c, .int .i64 0]) ∧ Below u.heap.size u w := by
  refine (scan_any ⟨#[0]⟩ u (by decide)).mono ?_
  rintro e w ⟨rs, p, a, c, hsc, hp, hr, rfl, hown, hb⟩
  obtain ⟨e1, e2⟩ := hsc.unique (.stop (by decide : stepF idf (strN ⟨#[0]⟩) = none))
  obtain rfl : rs = [] := by simpa using e1
  subst e2
  exact ⟨a, c, rfl, hb⟩
/-- what was torn is scanned -/
theorem scan_torn (l : List ByteArray) (t : ByteArray) (ht : Frms idf (l.map strN) (strN t)) (hs : t.size ≤ 65536) (cut : Nat) (hc : cut ≤ t.size) (u : World) : Calls Tryd.prog 13 #[.string (t.extract 0 cut)] u fun e w => ∃ (a : Option Addr) (n c k : Nat), n ≤ l.length ∧ n ≤ c ∧ n ≤ 65536 ∧ k ≤ cut ∧ (n = l.length → k = t.size) ∧ (∀ h : n < l.length, ∃ f, Frm idf (strN l[n]) f ∧ cut < k + f.length) ∧ e = .returned (.tuple #[.slice a n c, .int .i64 (k : Int)]) ∧ SAt 1 sC w a (l.take n) ∧ Below u.heap.size u w := by
  have hx : strN (t.extract 0 cut) = (strN t).take cut := by rw [extract_strN', List.drop_zero, Nat.sub_zero]
  obtain ⟨m, r, k, hl, hscan, hk, _, h1, h2⟩ := ht.torn idf_length cut (by rw [strN_length]; exact hc)
  refine (scan_any (t.extract 0 cut) u (by rw [ByteArray.size_extract]; omega)).mono ?_
  rintro e w ⟨rs, p, a, c, hsc, hp, hr, rfl, hown, hb⟩
  rw [hx] at hsc
  obtain ⟨e1, e2⟩ := hsc.unique hscan
  have e3 : l.length = rs.length + r.length := by
    have := congrArg List.length hl
    rw [List.length_map, List.length_append, ← e1, List.length_map] at this
    exact this
  have e4 : rs = l.take rs.length := by
    refine strs_injJ ?_
    rw [List.map_take, hl, ← e1, ← List.length_map (f := strN), List.take_left]
  obtain ⟨a', c', hv, h3, _, hsat⟩ := SAt.own hown sC_length
  cases hv
  rw [ByteArray.size_extract] at hr
  subst e2
  refine ⟨a, rs.length, c, p, by omega, h3, by omega, hk, fun e => ?_, fun h => ?_, rfl, by rw [← e4]; exact hsat, hb⟩
  · rw [← strN_length]
    exact h1 (List.eq_nil_of_length_eq_zero (by omega))
  · have e5 : r = (l.drop rs.length).map strN := by
      rw [List.map_drop, hl, ← e1, ← List.length_map (f := strN), List.drop_left]
    rw [List.drop_eq_getElem_cons h, List.map_cons] at e5
    exact h2 _ _ e5
set_option maxRecDepth 100000 in
set_option maxHeartbeats 1000000 in
theorem journalTorn_any (pa : Option Addr) (pc : Nat) (l : List ByteArray) (at_ : Int) (w : World) (hl : SAt 1 sC w pa l) (hn : l.length ≤ 9223372036854775807) (hcap : l.length ≤ pc) (hs : ∀ y ∈ l, y.size ≤ 9223372036854775807) :
    Calls Tryd.prog 5 #[.slice pa l.length pc, .int .i64 at_] w fun e w' => e = .returned (.bool true) ∧ Below w.heap.size w w' := by
  have HL := Lib.hid hl
  have HFA := Lib.hid frame_a
  have HZ := Lib.hid scan_zero
  have HALL : Hid (∀ u, Below w.heap.size w u → Calls Tryd.prog 12 #[.slice pa l.length pc] u (AllEnd u l)) := fun u hu => all_any pa pc l u (hl.below hu) hn hs
  clear hs hl
  go_enter Tryd.func5, Tryd.ntmps5
  go_wp2_with fail
  refine (HZ.out _).mono ?_
  rintro e w00 ⟨za, zc, rfl, hb0⟩
  have B0 := Lib.hid hb0
  clear hb0
  go_wp2_with fail
  refine (HFA.out _).mono ?_
  rintro e w1 ⟨f, hf11, rfl, hb1⟩
  have B1 := Lib.hid (Below.step B0.out hb1)
  clear hb1 HZ HFA B0
  go_wp2_with fail
  refine (HALL.out _ B1.out).mono ?_
  rintro e w2 ⟨⟨t, hfr, ht, rfl⟩ | ⟨c, hc0, _, rfl⟩, hb2⟩
  · have B2 := Lib.hid (Below.step B1.out hb2)
    have HFR := Lib.hid hfr
    have w8 : IntKind.i64.wrap ((t.size : Int) + 1) = (t.size : Int) + 1 := wraps_i64 _ (by omega) (by omega)
    have HRest := Lib.hid fun u => rest_any at_ ((t.size : Int) + 1) u (by omega) (by omega)
    have HOK : Hid (∀ k (h : k < l.length), l[k].size ≤ 4096) := fun k h => AllOk.small ⟨strN t, hfr, by rw [strN_length]; exact ht⟩ k h
    clear hfr hb2 HALL B1 hf11
    go_wp2_with fail
    refine (HRest.out _).mono ?_
    rintro e w3 ⟨⟨cut, hcut, rfl⟩, rfl⟩
    have hcut2 : cut ≤ t.size := by omega
    have HSC := Lib.hid (scan_torn l t HFR.out ht cut hcut2)
    have c0 : (0 : Int) ≤ (cut : Int) := Int.natCast_nonneg _
    have c1 : (cut : Int) ≤ (t.size : Int) := by omega
    obtain ⟨X, hX⟩ : ∃ X, t.extract 0 cut = X := ⟨_, rfl⟩
    rw [hX] at HSC
    clear HRest HFR
    go_wp2_with fail
    refine (HSC.out _).mono ?_
    rintro e w4 ⟨ra, n, rc, k, hnl, hnc, hn6, hkc, hall, hnext, rfl, hsat, hb4⟩
    have B4 := Lib.hid (Below.step B2.out hb4)
    have HE : Hid (∀ u, Below w4.heap.size w4 u → Calls Tryd.prog 10 #[.slice ra n rc, .slice pa n pc] u fun e w' => e = .returned (.bool true) ∧ ∃ q, w' = u.drewN q) := fun u hu => by
      have h := eqStr_any ra pa rc pc (l.take n) (l.take n) u (hsat.below hu) (SAt.pre (m := l.drop n) (by rw [List.take_append_drop]; exact HL.out.below (Below.step B4.out hu))) (by rw [List.length_take]; omega) (by rw [List.length_take]; omega)
      rw [decide_eq_true rfl, List.length_take, Nat.min_eq_left hnl] at h
      exact h
    have HNEXT := Lib.hid hnext
    have HALLK := Lib.hid hall
    have k1 : ¬ (cut : Int) < (k : Int) := by omega
    have k2 : ¬ (l.length : Int) < (n : Int) := by omega
    have k3 : (n : Int) ≤ (pc : Int) := by omega
    have k0 : (0 : Int) ≤ (n : Int) := Int.natCast_nonneg _
    clear hsat hb4 HSC B2 hnext hall hX hcut
    go_wp2_with fail
    refine (HE.out _ (Below.refl _ _)).mono ?_
    rintro e w5 ⟨rfl, q, rfl⟩
    clear HE
    by_cases hnn : n = l.length
    · have f1 : ((n : Int) == (l.length : Int)) = true := by rw [beq_iff_eq, hnn]
      have f2 := HALLK.out hnn
      clear HNEXT HALLK hnn
      go_wp2_with fail
      go_ret
      exact ⟨rfl, below_dn B4.out _⟩
    · have f1 : ((n : Int) == (l.length : Int)) = false := by rw [beq_eq_false_iff_ne]; omega
      have hlt : n < l.length := by omega
      have k4 : (n : Int) < (l.length : Int) := by omega
      obtain ⟨fs, hfs, hfl⟩ := HNEXT.out hlt
      obtain ⟨g, off, rfl, hcell⟩ := str_cell (HL.out.below (below_dn B4.out q)) n hlt
      have HF := Lib.hid (frame_of l[n] (HOK.out n hlt))
      have HUN : Hid (∀ f, Frm idf (strN l[n]) (strN f) → f.size = fs.length) := fun f h => by rw [← strN_length, h.unique hfs]
      clear HNEXT HALLK hnn hfs HOK
      generalize l[n] = y at *
      go_wp2_with fail
      refine (HF.out _).mono ?_
      rintro e w6 ⟨f2, hf2, hf4, rfl, hb6⟩
      have hfz := HUN.out f2 hf2
      have k5 : (cut : Int) < (k : Int) + (f2.size : Int) := by omega
      have B6 := Lib.hid (Below.step (below_dn B4.out q) hb6)
      clear hb6 HF HUN hf2 hfz
      go_wp2_with fail
      go_ret
      exact ⟨rfl, B6.out⟩
  · have B2 := Lib.hid (Below.step B1.out hb2)
    have f0 : ((c : Int) != 0) = true := by simpa using hc0
    clear hb2 HALL hc0
    go_wp2_with fail
    go_ret
    exact ⟨rfl, B2.out⟩
end Go.Proofs.YtbmklkjjkjgehaaDoor
