/- NumFree: its walk. -/
import Derived.Test.YtiokodjlijaddaaDoorNumBackW
namespace Go.Proofs.YtiokodjlijaddaaDoor
open Go.RowKit Plain
theorem isPrefix_map {l m : List Nat} (hl : ∀ c ∈ l, c < 256) (hm : ∀ c ∈ m, c < 256) : (l.map UInt8.ofNat).isPrefixOf (m.map UInt8.ofNat) = true ↔ l <+: m := by
  rw [List.isPrefixOf_iff_prefix]
  constructor
  · rintro ⟨r, h⟩
    refine ⟨r.map UInt8.toNat, ?_⟩
    have h2 := congrArg (List.map UInt8.toNat) h
    rw [List.map_append, List.map_map, List.map_map] at h2
    have key : ∀ l : List Nat, (∀ c ∈ l, c < 256) → l.map (UInt8.toNat ∘ UInt8.ofNat) = l := by
      intro l hl
      conv => rhs; rw [← List.map_id l]
      apply List.map_congr_left
      intro c hc
      simp [Nat.mod_eq_of_lt (hl c hc)]
    rwa [key l hl, key m hm] at h2
  · rintro ⟨r, rfl⟩
    exact ⟨r.map UInt8.ofNat, by rw [List.map_append]⟩
theorem hasPrefix_iff (x y : ByteArray) : Lib.hasPrefix x.data.toList y.data.toList = true ↔ strN y <+: strN x := by
  rw [strN_data, strN_data y]
  exact isPrefix_map (strN_lt y) (strN_lt x)
def PrefEnd (w0 : World) (b : Bool) (e : Ending) (w : World) : Prop := e = .returned (.bool b) ∧ w0 = w
theorem pref_any {x y : ByteArray} {p : Prop} [Decidable p] (h : strN y <+: strN x ↔ p) (u : World) : Calls Tryd.prog 15 #[.string x, .string y] u (PrefEnd u (decide p)) := by
  refine (Tryd.strings_HasPrefix x y u).mono fun e w' ⟨he, hw⟩ => ⟨?_, hw.symm⟩
  rw [he]
  congr 2
  rw [Bool.eq_iff_iff, hasPrefix_iff, h, decide_eq_true_iff]
theorem key_inj {x y : Nat} (hx : x < 18446744073709551616) (hy : y < 18446744073709551616) (nx : isNaN x = false) (ny : isNaN y = false) (h : key x = key y) : x = y := by
  rw [← ukey_key hx nx, h, ukey_key hy ny]
theorem be8_pref {g h : Nat} (hg : g < 18446744073709551616) (hh : h < 18446744073709551616) : be8 h <+: be8 g ↔ g = h := by
  constructor
  · intro e
    have := e.eq_of_length (by rfl)
    exact be8_inj hg hh this.symm
  · rintro rfl
    exact List.prefix_refl _
theorem order_ne (x : Nat) : (FloatKind.f64.format.order x x != some .eq) = isNaN x := order_self x
theorem put0_any (u : World) : Calls Tryd.prog 12 #[.int .u64 0] u (PutNEnd u 0) := put_any 0 (by omega) u
set_option maxRecDepth 100000 in
set_option maxHeartbeats 8000000 in
theorem numFree_any (a b : Nat) (i j m : Int) (x y : Nat) (s t : ByteArray) (w : World) (ha : a < 18446744073709551616) (hb : b < 18446744073709551616) (hi : -9223372036854775808 ≤ i ∧ i ≤ 9223372036854775807) (hj : -9223372036854775808 ≤ j ∧ j ≤ 9223372036854775807)
    (hx : x < 18446744073709551616) (hy : y < 18446744073709551616) (hs : s.size ≤ 9223372036854775807) (ht : t.size ≤ 9223372036854775807) (hm : w.cell? ⟨2, 0, none⟩ = some (.int .i64 m)) :
    Calls Tryd.prog 5 #[.int .u64 (a : Int), .int .u64 (b : Int), .int .i64 i, .int .i64 j, .float .f64 x, .float .f64 y, .string s, .string t] w fun e w' => e = .returned (.bool true) ∧ Below w.heap.size w w' := by
  have hlt : 2 < w.heap.size := World.block_lt_of_cell? _ _ hm
  have PA := Lib.hid fun u => put_any a ha u
  have PB := Lib.hid fun u => put_any b hb u
  have PI := Lib.hid fun u => putInt_any i hi u
  have PJ := Lib.hid fun u => putInt_any j hj u
  have P0 := Lib.hid put0_any
  have HI := Lib.hid hi
  have HJ := Lib.hid hj
  have PX : Hid (∀ u, Calls Tryd.prog 16 #[.float .f64 x] u fun e w' => e = .returned (.string (strOf (be8 (key x)))) ∧ Below u.heap.size u w') := fun u => putFloat_any x hx u
  have PY : Hid (∀ u, Calls Tryd.prog 16 #[.float .f64 y] u fun e w' => e = .returned (.string (strOf (be8 (key y)))) ∧ Below u.heap.size u w') := fun u => putFloat_any y hy u
  have PS := Lib.hid (putText_any s m w hs hm)
  have PT : Hid (∀ u, Below w.heap.size w u → Calls Tryd.prog 14 #[.string t] u (PutTEnd u t)) := fun u hu => putText_any t m u ht ((hu.cell (p := ⟨2, 0, none⟩) hlt).trans hm)
  have HST : Hid (∀ u, Calls Tryd.prog 15 #[.string (strOf (putT (strN s))), .string (strOf (putT (strN t)))] u (PrefEnd u (decide (s = t)))) := fun u => pref_any (p := s = t) (by
    rw [strN_strOf _ (putT_lt (strN_lt s)), strN_strOf _ (putT_lt (strN_lt t)), putT_free]
    exact ⟨fun h => strN_inj h, fun h => by rw [h]⟩) u
  have HXY : Hid (isNaN x = false → isNaN y = false → ∀ u, Calls Tryd.prog 15 #[.string (strOf (be8 (key x))), .string (strOf (be8 (key y)))] u (PrefEnd u (decide (x = y)))) := fun nx ny u => pref_any (p := x = y) (by
    rw [strN_strOf _ (be8_lt _), strN_strOf _ (be8_lt _), be8_pref (key_lt x hx) (key_lt y hy)]
    exact ⟨fun h => key_inj hx hy nx ny h, fun h => by rw [h]⟩) u
  have hbits := fun (u : World) (y : Nat) => bits_law u y
  obtain ⟨c1, h1⟩ : ∃ c1, decide (a = b) = c1 := ⟨_, rfl⟩
  have e1 : ((a : Int) == (b : Int)) = c1 := by rw [← h1, Bool.eq_iff_iff]; simp; omega
  have e1' : (a == b) = c1 := by rw [← h1, Bool.eq_iff_iff]; simp
  obtain ⟨c2, h2⟩ : ∃ c2, decide (i = j) = c2 := ⟨_, rfl⟩
  have e2 : (i == j) = c2 := by rw [← h2, Bool.eq_iff_iff]; simp
  obtain ⟨c3, h3⟩ : ∃ c3, decide (x = y) = c3 := ⟨_, rfl⟩
  have e3 : ((x : Int) == (y : Int)) = c3 := by rw [← h3, Bool.eq_iff_iff]; simp; omega
  have e3' : (x == y) = c3 := by rw [← h3, Bool.eq_iff_iff]; simp
  obtain ⟨c4, h4⟩ : ∃ c4, decide (s = t) = c4 := ⟨_, rfl⟩
  have e4 : (s.toList == t.toList) = c4 := by
    rw [← h4, Bool.eq_iff_iff, beq_iff_eq, decide_eq_true_iff, Lib.toList_data, Lib.toList_data]
    constructor
    · intro h; rw [← Lib.mk_data s, h, Lib.mk_data]
    · rintro rfl; rfl
  rw [h3] at HXY
  rw [h4] at HST
  have H1 := Lib.hid h1
  have H2 := Lib.hid h2
  obtain ⟨nx, hnx⟩ : ∃ nx, isNaN x = nx := ⟨_, rfl⟩
  obtain ⟨ny, hny⟩ : ∃ ny, isNaN y = ny := ⟨_, rfl⟩
  have o1 : (FloatKind.f64.format.order x x != some .eq) = nx := (order_ne x).trans hnx
  have o2 : (FloatKind.f64.format.order y y != some .eq) = ny := (order_ne y).trans hny
  rw [hnx, hny] at HXY
  clear hm hlt ha hb hi hj hx hy h1 h2 h3 h4 hnx hny
  go_enter Tryd.func5, Tryd.ntmps5
  go_wp2_with fail
  refine PS.out.mono ?_
  rintro e w1 ⟨⟨_, rfl⟩ | ⟨_, rfl⟩, hb1⟩
  · have B1 := Lib.hid hb1
    clear hb1 PS
    go_wp2_with fail
    refine (PT.out _ B1.out).mono ?_
    rintro e w2 ⟨⟨_, rfl⟩ | ⟨_, rfl⟩, hb2⟩
    all_goals
      have B2 := Lib.hid (Below.step B1.out hb2)
      clear hb2 PT HST
      cases nx
      · cases ny
        · have HXY2 := Lib.hid (HXY.out rfl rfl)
          clear HXY
          go_wp2_with fail
          refine (PX.out _).mono ?_
          rintro e w3 ⟨rfl, hb3⟩
          have B3 := Lib.hid (Below.step B2.out hb3)
          clear hb3
          go_wp2_with fail
          refine (PY.out _).mono ?_
          rintro e w4 ⟨rfl, hb4⟩
          have B4 := Lib.hid (Below.step B3.out hb4)
          clear hb4
          go_wp2_with fail
          refine (HXY2.out _).mono ?_
          rintro e w4' ⟨rfl, rfl⟩
          clear HXY2
          go_wp2_with fail
          refine (P0.out _).mono ?_
          rintro e w5 ⟨s0, hn0, rfl, hb5⟩
          have B5 := Lib.hid (Below.step B4.out hb5)
          have z0 : s0.toList.isEmpty = false := isEmpty_false' (by have := hn0.length.1; rw [strN_length] at this; omega)
          clear hb5 hn0
          go_wp2_with fail
          refine (PA.out _).mono ?_
          rintro e w6 ⟨sa, hna, rfl, hb6⟩
          have B6 := Lib.hid (Below.step B5.out hb6)
          have HA := Lib.hid hna
          clear hb6 hna
          go_wp2_with fail
          refine (PB.out _).mono ?_
          rintro e w7 ⟨sb, hnb, rfl, hb7⟩
          have B7 := Lib.hid (Below.step B6.out hb7)
          have HAB := Lib.hid fun u => pref_any (p := a = b) (HA.out.free hnb) u
          rw [H1.out] at HAB
          clear hb7 hnb
          go_wp2_with fail
          refine (HAB.out _).mono ?_
          rintro e w7' ⟨rfl, rfl⟩
          clear HAB
          go_wp2_with fail
          refine (PI.out _).mono ?_
          rintro e w8 ⟨si, hni, rfl, hb8⟩
          have B8 := Lib.hid (Below.step B7.out hb8)
          have HIA := Lib.hid hni
          clear hb8 hni
          go_wp2_with fail
          refine (PJ.out _).mono ?_
          rintro e w9 ⟨sj, hnj, rfl, hb9⟩
          have B9 := Lib.hid (Below.step B8.out hb9)
          have HIJ := Lib.hid fun u => pref_any (p := i = j) (HIA.out.free hnj HI.out HJ.out) u
          rw [H2.out] at HIJ
          clear hb9 hnj
          go_wp2_with fail
          refine (HIJ.out _).mono ?_
          rintro e w9' ⟨rfl, rfl⟩
          clear HIJ
          go_wp2_with fail
          go_ret
          exact ⟨rfl, B9.out⟩
        · have B4 := B2
          clear HXY
          go_wp2_with fail
          refine (P0.out _).mono ?_
          rintro e w5 ⟨s0, hn0, rfl, hb5⟩
          have B5 := Lib.hid (Below.step B4.out hb5)
          have z0 : s0.toList.isEmpty = false := isEmpty_false' (by have := hn0.length.1; rw [strN_length] at this; omega)
          clear hb5 hn0
          go_wp2_with fail
          refine (PA.out _).mono ?_
          rintro e w6 ⟨sa, hna, rfl, hb6⟩
          have B6 := Lib.hid (Below.step B5.out hb6)
          have HA := Lib.hid hna
          clear hb6 hna
          go_wp2_with fail
          refine (PB.out _).mono ?_
          rintro e w7 ⟨sb, hnb, rfl, hb7⟩
          have B7 := Lib.hid (Below.step B6.out hb7)
          have HAB := Lib.hid fun u => pref_any (p := a = b) (HA.out.free hnb) u
          rw [H1.out] at HAB
          clear hb7 hnb
          go_wp2_with fail
          refine (HAB.out _).mono ?_
          rintro e w7' ⟨rfl, rfl⟩
          clear HAB
          go_wp2_with fail
          refine (PI.out _).mono ?_
          rintro e w8 ⟨si, hni, rfl, hb8⟩
          have B8 := Lib.hid (Below.step B7.out hb8)
          have HIA := Lib.hid hni
          clear hb8 hni
          go_wp2_with fail
          refine (PJ.out _).mono ?_
          rintro e w9 ⟨sj, hnj, rfl, hb9⟩
          have B9 := Lib.hid (Below.step B8.out hb9)
          have HIJ := Lib.hid fun u => pref_any (p := i = j) (HIA.out.free hnj HI.out HJ.out) u
          rw [H2.out] at HIJ
          clear hb9 hnj
          go_wp2_with fail
          refine (HIJ.out _).mono ?_
          rintro e w9' ⟨rfl, rfl⟩
          clear HIJ
          go_wp2_with fail
          go_ret
          exact ⟨rfl, B9.out⟩
      · have B4 := B2
        clear HXY
        go_wp2_with fail
        refine (P0.out _).mono ?_
        rintro e w5 ⟨s0, hn0, rfl, hb5⟩
        have B5 := Lib.hid (Below.step B4.out hb5)
        have z0 : s0.toList.isEmpty = false := isEmpty_false' (by have := hn0.length.1; rw [strN_length] at this; omega)
        clear hb5 hn0
        go_wp2_with fail
        refine (PA.out _).mono ?_
        rintro e w6 ⟨sa, hna, rfl, hb6⟩
        have B6 := Lib.hid (Below.step B5.out hb6)
        have HA := Lib.hid hna
        clear hb6 hna
        go_wp2_with fail
        refine (PB.out _).mono ?_
        rintro e w7 ⟨sb, hnb, rfl, hb7⟩
        have B7 := Lib.hid (Below.step B6.out hb7)
        have HAB := Lib.hid fun u => pref_any (p := a = b) (HA.out.free hnb) u
        rw [H1.out] at HAB
        clear hb7 hnb
        go_wp2_with fail
        refine (HAB.out _).mono ?_
        rintro e w7' ⟨rfl, rfl⟩
        clear HAB
        go_wp2_with fail
        refine (PI.out _).mono ?_
        rintro e w8 ⟨si, hni, rfl, hb8⟩
        have B8 := Lib.hid (Below.step B7.out hb8)
        have HIA := Lib.hid hni
        clear hb8 hni
        go_wp2_with fail
        refine (PJ.out _).mono ?_
        rintro e w9 ⟨sj, hnj, rfl, hb9⟩
        have B9 := Lib.hid (Below.step B8.out hb9)
        have HIJ := Lib.hid fun u => pref_any (p := i = j) (HIA.out.free hnj HI.out HJ.out) u
        rw [H2.out] at HIJ
        clear hb9 hnj
        go_wp2_with fail
        refine (HIJ.out _).mono ?_
        rintro e w9' ⟨rfl, rfl⟩
        clear HIJ
        go_wp2_with fail
        go_ret
        exact ⟨rfl, B9.out⟩
  · have B1 := Lib.hid hb1
    clear hb1 PS
    go_wp2_with fail
    refine (PT.out _ B1.out).mono ?_
    rintro e w2 ⟨⟨_, rfl⟩ | ⟨_, rfl⟩, hb2⟩
    · have B2 := Lib.hid (Below.step B1.out hb2)
      clear hb2 PT HST
      cases nx
      · cases ny
        · have HXY2 := Lib.hid (HXY.out rfl rfl)
          clear HXY
          go_wp2_with fail
          refine (PX.out _).mono ?_
          rintro e w3 ⟨rfl, hb3⟩
          have B3 := Lib.hid (Below.step B2.out hb3)
          clear hb3
          go_wp2_with fail
          refine (PY.out _).mono ?_
          rintro e w4 ⟨rfl, hb4⟩
          have B4 := Lib.hid (Below.step B3.out hb4)
          clear hb4
          go_wp2_with fail
          refine (HXY2.out _).mono ?_
          rintro e w4' ⟨rfl, rfl⟩
          clear HXY2
          go_wp2_with fail
          refine (P0.out _).mono ?_
          rintro e w5 ⟨s0, hn0, rfl, hb5⟩
          have B5 := Lib.hid (Below.step B4.out hb5)
          have z0 : s0.toList.isEmpty = false := isEmpty_false' (by have := hn0.length.1; rw [strN_length] at this; omega)
          clear hb5 hn0
          go_wp2_with fail
          refine (PA.out _).mono ?_
          rintro e w6 ⟨sa, hna, rfl, hb6⟩
          have B6 := Lib.hid (Below.step B5.out hb6)
          have HA := Lib.hid hna
          clear hb6 hna
          go_wp2_with fail
          refine (PB.out _).mono ?_
          rintro e w7 ⟨sb, hnb, rfl, hb7⟩
          have B7 := Lib.hid (Below.step B6.out hb7)
          have HAB := Lib.hid fun u => pref_any (p := a = b) (HA.out.free hnb) u
          rw [H1.out] at HAB
          clear hb7 hnb
          go_wp2_with fail
          refine (HAB.out _).mono ?_
          rintro e w7' ⟨rfl, rfl⟩
          clear HAB
          go_wp2_with fail
          refine (PI.out _).mono ?_
          rintro e w8 ⟨si, hni, rfl, hb8⟩
          have B8 := Lib.hid (Below.step B7.out hb8)
          have HIA := Lib.hid hni
          clear hb8 hni
          go_wp2_with fail
          refine (PJ.out _).mono ?_
          rintro e w9 ⟨sj, hnj, rfl, hb9⟩
          have B9 := Lib.hid (Below.step B8.out hb9)
          have HIJ := Lib.hid fun u => pref_any (p := i = j) (HIA.out.free hnj HI.out HJ.out) u
          rw [H2.out] at HIJ
          clear hb9 hnj
          go_wp2_with fail
          refine (HIJ.out _).mono ?_
          rintro e w9' ⟨rfl, rfl⟩
          clear HIJ
          go_wp2_with fail
          go_ret
          exact ⟨rfl, B9.out⟩
        · have B4 := B2
          clear HXY
          go_wp2_with fail
          refine (P0.out _).mono ?_
          rintro e w5 ⟨s0, hn0, rfl, hb5⟩
          have B5 := Lib.hid (Below.step B4.out hb5)
          have z0 : s0.toList.isEmpty = false := isEmpty_false' (by have := hn0.length.1; rw [strN_length] at this; omega)
          clear hb5 hn0
          go_wp2_with fail
          refine (PA.out _).mono ?_
          rintro e w6 ⟨sa, hna, rfl, hb6⟩
          have B6 := Lib.hid (Below.step B5.out hb6)
          have HA := Lib.hid hna
          clear hb6 hna
          go_wp2_with fail
          refine (PB.out _).mono ?_
          rintro e w7 ⟨sb, hnb, rfl, hb7⟩
          have B7 := Lib.hid (Below.step B6.out hb7)
          have HAB := Lib.hid fun u => pref_any (p := a = b) (HA.out.free hnb) u
          rw [H1.out] at HAB
          clear hb7 hnb
          go_wp2_with fail
          refine (HAB.out _).mono ?_
          rintro e w7' ⟨rfl, rfl⟩
          clear HAB
          go_wp2_with fail
          refine (PI.out _).mono ?_
          rintro e w8 ⟨si, hni, rfl, hb8⟩
          have B8 := Lib.hid (Below.step B7.out hb8)
          have HIA := Lib.hid hni
          clear hb8 hni
          go_wp2_with fail
          refine (PJ.out _).mono ?_
          rintro e w9 ⟨sj, hnj, rfl, hb9⟩
          have B9 := Lib.hid (Below.step B8.out hb9)
          have HIJ := Lib.hid fun u => pref_any (p := i = j) (HIA.out.free hnj HI.out HJ.out) u
          rw [H2.out] at HIJ
          clear hb9 hnj
          go_wp2_with fail
          refine (HIJ.out _).mono ?_
          rintro e w9' ⟨rfl, rfl⟩
          clear HIJ
          go_wp2_with fail
          go_ret
          exact ⟨rfl, B9.out⟩
      · have B4 := B2
        clear HXY
        go_wp2_with fail
        refine (P0.out _).mono ?_
        rintro e w5 ⟨s0, hn0, rfl, hb5⟩
        have B5 := Lib.hid (Below.step B4.out hb5)
        have z0 : s0.toList.isEmpty = false := isEmpty_false' (by have := hn0.length.1; rw [strN_length] at this; omega)
        clear hb5 hn0
        go_wp2_with fail
        refine (PA.out _).mono ?_
        rintro e w6 ⟨sa, hna, rfl, hb6⟩
        have B6 := Lib.hid (Below.step B5.out hb6)
        have HA := Lib.hid hna
        clear hb6 hna
        go_wp2_with fail
        refine (PB.out _).mono ?_
        rintro e w7 ⟨sb, hnb, rfl, hb7⟩
        have B7 := Lib.hid (Below.step B6.out hb7)
        have HAB := Lib.hid fun u => pref_any (p := a = b) (HA.out.free hnb) u
        rw [H1.out] at HAB
        clear hb7 hnb
        go_wp2_with fail
        refine (HAB.out _).mono ?_
        rintro e w7' ⟨rfl, rfl⟩
        clear HAB
        go_wp2_with fail
        refine (PI.out _).mono ?_
        rintro e w8 ⟨si, hni, rfl, hb8⟩
        have B8 := Lib.hid (Below.step B7.out hb8)
        have HIA := Lib.hid hni
        clear hb8 hni
        go_wp2_with fail
        refine (PJ.out _).mono ?_
        rintro e w9 ⟨sj, hnj, rfl, hb9⟩
        have B9 := Lib.hid (Below.step B8.out hb9)
        have HIJ := Lib.hid fun u => pref_any (p := i = j) (HIA.out.free hnj HI.out HJ.out) u
        rw [H2.out] at HIJ
        clear hb9 hnj
        go_wp2_with fail
        refine (HIJ.out _).mono ?_
        rintro e w9' ⟨rfl, rfl⟩
        clear HIJ
        go_wp2_with fail
        go_ret
        exact ⟨rfl, B9.out⟩
    · have B2 := Lib.hid (Below.step B1.out hb2)
      clear hb2 PT
      go_wp2_with fail
      refine (HST.out _).mono ?_
      rintro e w2' ⟨rfl, rfl⟩
      clear HST
      cases nx
      · cases ny
        · have HXY2 := Lib.hid (HXY.out rfl rfl)
          clear HXY
          go_wp2_with fail
          refine (PX.out _).mono ?_
          rintro e w3 ⟨rfl, hb3⟩
          have B3 := Lib.hid (Below.step B2.out hb3)
          clear hb3
          go_wp2_with fail
          refine (PY.out _).mono ?_
          rintro e w4 ⟨rfl, hb4⟩
          have B4 := Lib.hid (Below.step B3.out hb4)
          clear hb4
          go_wp2_with fail
          refine (HXY2.out _).mono ?_
          rintro e w4' ⟨rfl, rfl⟩
          clear HXY2
          go_wp2_with fail
          refine (P0.out _).mono ?_
          rintro e w5 ⟨s0, hn0, rfl, hb5⟩
          have B5 := Lib.hid (Below.step B4.out hb5)
          have z0 : s0.toList.isEmpty = false := isEmpty_false' (by have := hn0.length.1; rw [strN_length] at this; omega)
          clear hb5 hn0
          go_wp2_with fail
          refine (PA.out _).mono ?_
          rintro e w6 ⟨sa, hna, rfl, hb6⟩
          have B6 := Lib.hid (Below.step B5.out hb6)
          have HA := Lib.hid hna
          clear hb6 hna
          go_wp2_with fail
          refine (PB.out _).mono ?_
          rintro e w7 ⟨sb, hnb, rfl, hb7⟩
          have B7 := Lib.hid (Below.step B6.out hb7)
          have HAB := Lib.hid fun u => pref_any (p := a = b) (HA.out.free hnb) u
          rw [H1.out] at HAB
          clear hb7 hnb
          go_wp2_with fail
          refine (HAB.out _).mono ?_
          rintro e w7' ⟨rfl, rfl⟩
          clear HAB
          go_wp2_with fail
          refine (PI.out _).mono ?_
          rintro e w8 ⟨si, hni, rfl, hb8⟩
          have B8 := Lib.hid (Below.step B7.out hb8)
          have HIA := Lib.hid hni
          clear hb8 hni
          go_wp2_with fail
          refine (PJ.out _).mono ?_
          rintro e w9 ⟨sj, hnj, rfl, hb9⟩
          have B9 := Lib.hid (Below.step B8.out hb9)
          have HIJ := Lib.hid fun u => pref_any (p := i = j) (HIA.out.free hnj HI.out HJ.out) u
          rw [H2.out] at HIJ
          clear hb9 hnj
          go_wp2_with fail
          refine (HIJ.out _).mono ?_
          rintro e w9' ⟨rfl, rfl⟩
          clear HIJ
          go_wp2_with fail
          go_ret
          exact ⟨rfl, B9.out⟩
        · have B4 := B2
          clear HXY
          go_wp2_with fail
          refine (P0.out _).mono ?_
          rintro e w5 ⟨s0, hn0, rfl, hb5⟩
          have B5 := Lib.hid (Below.step B4.out hb5)
          have z0 : s0.toList.isEmpty = false := isEmpty_false' (by have := hn0.length.1; rw [strN_length] at this; omega)
          clear hb5 hn0
          go_wp2_with fail
          refine (PA.out _).mono ?_
          rintro e w6 ⟨sa, hna, rfl, hb6⟩
          have B6 := Lib.hid (Below.step B5.out hb6)
          have HA := Lib.hid hna
          clear hb6 hna
          go_wp2_with fail
          refine (PB.out _).mono ?_
          rintro e w7 ⟨sb, hnb, rfl, hb7⟩
          have B7 := Lib.hid (Below.step B6.out hb7)
          have HAB := Lib.hid fun u => pref_any (p := a = b) (HA.out.free hnb) u
          rw [H1.out] at HAB
          clear hb7 hnb
          go_wp2_with fail
          refine (HAB.out _).mono ?_
          rintro e w7' ⟨rfl, rfl⟩
          clear HAB
          go_wp2_with fail
          refine (PI.out _).mono ?_
          rintro e w8 ⟨si, hni, rfl, hb8⟩
          have B8 := Lib.hid (Below.step B7.out hb8)
          have HIA := Lib.hid hni
          clear hb8 hni
          go_wp2_with fail
          refine (PJ.out _).mono ?_
          rintro e w9 ⟨sj, hnj, rfl, hb9⟩
          have B9 := Lib.hid (Below.step B8.out hb9)
          have HIJ := Lib.hid fun u => pref_any (p := i = j) (HIA.out.free hnj HI.out HJ.out) u
          rw [H2.out] at HIJ
          clear hb9 hnj
          go_wp2_with fail
          refine (HIJ.out _).mono ?_
          rintro e w9' ⟨rfl, rfl⟩
          clear HIJ
          go_wp2_with fail
          go_ret
          exact ⟨rfl, B9.out⟩
      · have B4 := B2
        clear HXY
        go_wp2_with fail
        refine (P0.out _).mono ?_
        rintro e w5 ⟨s0, hn0, rfl, hb5⟩
        have B5 := Lib.hid (Below.step B4.out hb5)
        have z0 : s0.toList.isEmpty = false := isEmpty_false' (by have := hn0.length.1; rw [strN_length] at this; omega)
        clear hb5 hn0
        go_wp2_with fail
        refine (PA.out _).mono ?_
        rintro e w6 ⟨sa, hna, rfl, hb6⟩
        have B6 := Lib.hid (Below.step B5.out hb6)
        have HA := Lib.hid hna
        clear hb6 hna
        go_wp2_with fail
        refine (PB.out _).mono ?_
        rintro e w7 ⟨sb, hnb, rfl, hb7⟩
        have B7 := Lib.hid (Below.step B6.out hb7)
        have HAB := Lib.hid fun u => pref_any (p := a = b) (HA.out.free hnb) u
        rw [H1.out] at HAB
        clear hb7 hnb
        go_wp2_with fail
        refine (HAB.out _).mono ?_
        rintro e w7' ⟨rfl, rfl⟩
        clear HAB
        go_wp2_with fail
        refine (PI.out _).mono ?_
        rintro e w8 ⟨si, hni, rfl, hb8⟩
        have B8 := Lib.hid (Below.step B7.out hb8)
        have HIA := Lib.hid hni
        clear hb8 hni
        go_wp2_with fail
        refine (PJ.out _).mono ?_
        rintro e w9 ⟨sj, hnj, rfl, hb9⟩
        have B9 := Lib.hid (Below.step B8.out hb9)
        have HIJ := Lib.hid fun u => pref_any (p := i = j) (HIA.out.free hnj HI.out HJ.out) u
        rw [H2.out] at HIJ
        clear hb9 hnj
        go_wp2_with fail
        refine (HIJ.out _).mono ?_
        rintro e w9' ⟨rfl, rfl⟩
        clear HIJ
        go_wp2_with fail
        go_ret
        exact ⟨rfl, B9.out⟩
end Go.Proofs.YtiokodjlijaddaaDoor
