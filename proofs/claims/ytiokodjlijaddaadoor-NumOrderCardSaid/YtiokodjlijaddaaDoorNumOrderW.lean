/- NumOrder: its walk. -/
import Derived.Test.YtiokodjlijaddaaDoorNumText
import Derived.WalkLawsBesides
namespace Go.Proofs.YtiokodjlijaddaaDoor
open Go.RowKit Plain
theorem less_lx : ∀ l m : List Nat, less l m = lx l m
  | _, [] => by cases ‹List Nat› <;> rfl
  | [], _ :: _ => rfl
  | a :: x, b :: y => by rw [less, lx, less_lx x y]
theorem lss_str (x y : ByteArray) : Op.bytesLess x.toList y.toList = lx (strN x) (strN y) := by
  rw [Lib.toList_data, Lib.toList_data, strN_data, strN_data, bytesLess_ofNat _ _ (strN_lt x) (strN_lt y), less_lx]
theorem lss_not (x y : ByteArray) (h : lx (strN x) (strN y) = true) : Op.bytesLess y.toList x.toList = false := by
  rw [lss_str]
  have key : ∀ l m : List Nat, lx l m = true → lx m l = false := by
    intro l
    induction l with
    | nil => intro m h; cases m <;> rfl
    | cons a l ih =>
      intro m h
      cases m with
      | nil => simp [lx] at h
      | cons b m =>
        rw [lx_cons] at h
        cases hh : lx (b :: m) (a :: l) with
        | false => rfl
        | true =>
          rw [lx_cons] at hh
          rcases h with h | ⟨h, h2⟩ <;> rcases hh with g | ⟨g, g2⟩
          · omega
          · omega
          · omega
          · rw [ih m h2] at g2; cases g2
  exact key _ _ h
theorem putM1 (u : World) : Calls Tryd.prog 13 #[.int .i64 (-1)] u (PutIEnd u (-1)) := putInt_any (-1) (by omega) u
theorem putI0 (u : World) : Calls Tryd.prog 13 #[.int .i64 0] u (PutIEnd u 0) := putInt_any 0 (by omega) u
set_option maxRecDepth 100000 in
set_option maxHeartbeats 4000000 in
theorem numOrder_any (a b : Nat) (i j m : Int) (s t : ByteArray) (w : World) (ha : a < 18446744073709551616) (hb : b < 18446744073709551616) (hi : -9223372036854775808 ≤ i ∧ i ≤ 9223372036854775807) (hj : -9223372036854775808 ≤ j ∧ j ≤ 9223372036854775807)
    (hs : s.size ≤ 9223372036854775807) (ht : t.size ≤ 9223372036854775807) (hm : w.cell? ⟨2, 0, none⟩ = some (.int .i64 m)) :
    Calls Tryd.prog 4 #[.int .u64 (a : Int), .int .u64 (b : Int), .int .i64 i, .int .i64 j, .string s, .string t] w fun e w' => e = .returned (.bool true) ∧ Below w.heap.size w w' := by
  have hlt : 2 < w.heap.size := World.block_lt_of_cell? _ _ hm
  have PA := Lib.hid fun u => put_any a ha u
  have PB := Lib.hid fun u => put_any b hb u
  have PI := Lib.hid fun u => putInt_any i hi u
  have PJ := Lib.hid fun u => putInt_any j hj u
  have PM := Lib.hid putM1
  have P0 := Lib.hid putI0
  have PS : Hid (∀ u, Below w.heap.size w u → Calls Tryd.prog 14 #[.string s] u (PutTEnd u s)) := fun u hu => putText_any s m u hs ((hu.cell (p := ⟨2, 0, none⟩) hlt).trans hm)
  have PT : Hid (∀ u, Below w.heap.size w u → Calls Tryd.prog 14 #[.string t] u (PutTEnd u t)) := fun u hu => putText_any t m u ht ((hu.cell (p := ⟨2, 0, none⟩) hlt).trans hm)
  obtain ⟨c1, h1⟩ : ∃ c1, decide (a < b) = c1 := ⟨_, rfl⟩
  have h1' : decide ((a : Int) < (b : Int)) = c1 := by rw [← h1]; exact decide_eq_decide.2 (by omega)
  obtain ⟨c2, h2⟩ : ∃ c2, decide (i < j) = c2 := ⟨_, rfl⟩
  have H1 := Lib.hid h1
  have H2 := Lib.hid h2
  clear hm hlt
  go_enter Tryd.func4, Tryd.ntmps4
  go_wp2_with fail
  refine (PA.out _).mono ?_
  rintro e w1 ⟨sa, ha1, rfl, hb1⟩
  have B1 := Lib.hid hb1
  have HA := Lib.hid ha1
  clear hb1 ha1
  go_wp2_with fail
  refine (PB.out _).mono ?_
  rintro e w2 ⟨sb, hb1, rfl, hb2⟩
  have B2 := Lib.hid (Below.step B1.out hb2)
  have l1 : Op.bytesLess sa.toList sb.toList = c1 := by
    rw [lss_str, ← H1.out]
    exact Bool.eq_iff_iff.2 ((HA.out.lx hb1).trans (by simp))
  clear hb2 hb1
  go_wp2_with fail
  refine (PI.out _).mono ?_
  rintro e w3 ⟨si, hi1, rfl, hb3⟩
  have B3 := Lib.hid (Below.step B2.out hb3)
  have HI := Lib.hid hi1
  clear hb3 hi1
  go_wp2_with fail
  refine (PJ.out _).mono ?_
  rintro e w4 ⟨sj, hj1, rfl, hb4⟩
  have B4 := Lib.hid (Below.step B3.out hb4)
  have l2 : Op.bytesLess si.toList sj.toList = c2 := by
    rw [lss_str, ← H2.out]
    exact Bool.eq_iff_iff.2 ((HI.out.lx hj1).trans (by simp))
  clear hb4 hj1
  go_wp2_with fail
  refine (PM.out _).mono ?_
  rintro e w5 ⟨sm, hm1, rfl, hb5⟩
  have B5 := Lib.hid (Below.step B4.out hb5)
  have HM := Lib.hid hm1
  clear hb5 hm1
  go_wp2_with fail
  refine (P0.out _).mono ?_
  rintro e w6 ⟨s0, h01, rfl, hb6⟩
  have B6 := Lib.hid (Below.step B5.out hb6)
  have l3 : lx (strN sm) (strN s0) = true := (HM.out.lx h01).2 (by omega)
  have l4 : Op.bytesLess sm.toList s0.toList = true := by rw [lss_str]; exact l3
  have l5 := lss_not _ _ l3
  clear hb6 h01 l3
  go_wp2_with fail
  refine (PS.out _ B6.out).mono ?_
  rintro e w7 ⟨⟨hs1, rfl⟩ | ⟨hs1, rfl⟩, hb7⟩
  · have B7 := Lib.hid (Below.step B6.out hb7)
    clear hb7
    go_wp2_with fail
    refine (PT.out _ B7.out).mono ?_
    rintro e w8 ⟨⟨ht1, rfl⟩ | ⟨ht1, rfl⟩, hb8⟩
    all_goals
      have B8 := Lib.hid (Below.step B7.out hb8)
      clear hb8
      go_wp2_with fail
      go_ret
      exact ⟨rfl, B8.out⟩
  · have B7 := Lib.hid (Below.step B6.out hb7)
    clear hb7
    go_wp2_with fail
    refine (PT.out _ B7.out).mono ?_
    rintro e w8 ⟨⟨ht1, rfl⟩ | ⟨ht1, rfl⟩, hb8⟩
    · have B8 := Lib.hid (Below.step B7.out hb8)
      clear hb8
      go_wp2_with fail
      go_ret
      exact ⟨rfl, B8.out⟩
    · have B8 := Lib.hid (Below.step B7.out hb8)
      obtain ⟨c3, h3⟩ : ∃ c3, Op.bytesLess s.toList t.toList = c3 := ⟨_, rfl⟩
      have h4 : Op.bytesLess (strOf (putT (strN s))).toList (strOf (putT (strN t))).toList = c3 := by
        rw [← h3, lss_str, lss_str, strN_strOf _ (putT_lt (strN_lt s)), strN_strOf _ (putT_lt (strN_lt t)), lx_putT]
      generalize strOf (putT (strN s)) = x at *
      generalize strOf (putT (strN t)) = y at *
      clear hb8
      go_wp2_with fail
      go_ret
      exact ⟨by cases c3 <;> rfl, B8.out⟩
end Go.Proofs.YtiokodjlijaddaaDoor
