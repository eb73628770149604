/- NumBack: its walk. -/
import Derived.Test.YtiokodjlijaddaaDoorNumW5
import Derived.Laws.Cover2
namespace Go.Proofs.YtiokodjlijaddaaDoor
open Go.RowKit Plain
theorem strN_app' (s t : ByteArray) : strN (s ++ t) = strN s ++ strN t := by simp [strN]
def nGotEnd (w0 : World) (n : Nat) (k : Nat) (e : Ending) (w : World) : Prop := e = .returned (.tuple #[.int .u64 (n : Int), .int .i64 (k : Int), .int .i64 0]) ∧ w0 = w
theorem get_back {n : Nat} {s : ByteArray} (h : Num n (strN s)) (more : ByteArray) (hs : s.size + more.size ≤ 9223372036854775807) (u : World) : Calls Tryd.prog 18 #[.string (s ++ more)] u (nGotEnd u n s.size) := by
  have hz : (s ++ more).size = s.size + more.size := by simp
  refine (get_any (s ++ more) u (by omega)).mono fun e w' ⟨he, hw⟩ => ⟨?_, hw⟩
  rw [he, strN_app', getN_num h, strN_length]
  rfl
def iGotEnd (w0 : World) (n : Int) (k : Nat) (e : Ending) (w : World) : Prop := e = .returned (.tuple #[.int .i64 n, .int .i64 (k : Int), .int .i64 0]) ∧ Below w0.heap.size w0 w
theorem getI_back' {n : Int} {s : ByteArray} (h : INum n (strN s)) (hn : -9223372036854775808 ≤ n ∧ n ≤ 9223372036854775807) (more : ByteArray) (hs : s.size + more.size ≤ 9223372036854775806) (u : World) : Calls Tryd.prog 19 #[.string (s ++ more)] u (iGotEnd u n s.size) := by
  have hz : (s ++ more).size = s.size + more.size := by simp
  refine (getInt_any (s ++ more) u (by omega)).mono fun e w' ⟨he, hw⟩ => ⟨?_, hw⟩
  rw [he, strN_app', getI_num h hn, strN_length]
  rfl
theorem be8_len (h : Nat) : (be8 h).length = 8 := rfl
theorem ukey_key {x : Nat} (hx : x < 18446744073709551616) (h : isNaN x = false) : ukey (key x) = x := by
  unfold key ukey
  rw [h]
  cases hs : isNeg x with
  | false =>
    have := sign_lo hs hx
    simp only [Bool.false_eq_true, if_false]
    rw [if_neg (by omega)]
    omega
  | true =>
    obtain ⟨r, hr, rfl⟩ := sign_hi hs hx
    simp only [Bool.false_eq_true, if_false, if_true]
    rw [if_pos (by omega)]
    omega
theorem ukey_nan {x : Nat} (h : isNaN x = true) : ukey (key x) = nanW := by
  unfold key
  rw [h, if_pos rfl]
  decide +kernel
/-- what is read back of a float -/
def back (x : Nat) : Nat := if isNaN x then nanW else x
theorem ukey_back {x : Nat} (hx : x < 18446744073709551616) : ukey (key x) = back x ∧ (isNaN (back x) = false ∨ back x = nanW) := by
  unfold back
  cases h : isNaN x with
  | true => exact ⟨ukey_nan h, .inr rfl⟩
  | false => exact ⟨ukey_key hx h, .inl h⟩
def fGotEnd (w0 : World) (x : Nat) (e : Ending) (w : World) : Prop := e = .returned (.tuple #[.float .f64 (back x), .int .i64 8, .int .i64 0]) ∧ w0 = w
theorem getF_back {x : Nat} (hx : x < 18446744073709551616) (more : ByteArray) (hs : more.size ≤ 9223372036854775700) (u : World) : Calls Tryd.prog 20 #[.string (strOf (be8 (key x)) ++ more)] u (fGotEnd u x) := by
  have hz : (strOf (be8 (key x)) ++ more).size = 8 + more.size := by
    have : (strOf (be8 (key x)) ++ more).size = (strOf (be8 (key x))).size + more.size := by simp
    rw [this, strOf_size, be8_len]
  have e1 : (strN (strOf (be8 (key x)) ++ more)).take 8 = be8 (key x) := by
    rw [strN_app', strN_strOf _ (be8_lt _), ← be8_len (key x), List.take_left]
  refine (getFloat_any _ u (by omega)).mono fun e w' ⟨he, hw⟩ => ⟨?_, hw⟩
  rw [e1, vl_be8 _ (key_lt x hx), (ukey_back hx).1] at he
  rcases he with ⟨h, _⟩ | ⟨_, h1, h2, _⟩ | ⟨_, _, h⟩
  · omega
  · rcases (ukey_back hx).2 with h | h
    · rw [h] at h1; cases h1
    · exact absurd h h2
  · exact h
theorem order_eq (x : Nat) : (FloatKind.f64.format.order x x == some .eq) = !isNaN x := by
  have h := order_self x
  cases hn : isNaN x with
  | true => rw [hn] at h; simpa using h
  | false => rw [hn] at h; simpa using h
set_option maxRecDepth 100000 in
set_option maxHeartbeats 4000000 in
theorem numBack_any (n : Nat) (i m : Int) (x : Nat) (s more : ByteArray) (w : World) (hn : n < 18446744073709551616) (hi : -9223372036854775808 ≤ i ∧ i ≤ 9223372036854775807) (hx : x < 18446744073709551616)
    (hs : s.size ≤ 140737488351232) (ht : more.size ≤ 140737488351232) (hm : w.cell? ⟨2, 0, none⟩ = some (.int .i64 m)) :
    Calls Tryd.prog 6 #[.int .u64 (n : Int), .int .i64 i, .float .f64 x, .string s, .string more] w fun e w' => e = .returned (.bool true) ∧ Below w.heap.size w w' := by
  have hlt : 2 < w.heap.size := World.block_lt_of_cell? _ _ hm
  have PN := Lib.hid fun u => put_any n hn u
  have PI := Lib.hid fun u => putInt_any i hi u
  have PF : Hid (∀ u, Calls Tryd.prog 16 #[.float .f64 x] u fun e w' => e = .returned (.string (strOf (be8 (key x)))) ∧ Below u.heap.size u w') := fun u => putFloat_any x hx u
  have HI := Lib.hid hi
  have GF : Hid (∀ u, Calls Tryd.prog 20 #[.string (strOf (be8 (key x)) ++ more)] u fun e w' => e = .returned (.tuple #[.float .f64 (back x), .int .i64 8, .int .i64 0]) ∧ u = w') := fun u => getF_back hx more (by omega) u
  have PS : Hid (∀ u, Below w.heap.size w u → Calls Tryd.prog 14 #[.string s] u (PutTEnd u s)) := fun u hu => putText_any s m u (by omega) ((hu.cell (p := ⟨2, 0, none⟩) hlt).trans hm)
  have hsF : (strOf (be8 (key x))).size + more.size ≤ 9223372036854775807 := by rw [strOf_size, be8_len]; omega
  have hbk : back x = x ∨ (isNaN x = true ∧ isNaN (back x) = true) := by
    unfold back
    cases h : isNaN x with
    | true => exact .inr ⟨rfl, by rw [if_pos rfl]; decide +kernel⟩
    | false => exact .inl rfl
  have hbits := fun (u : World) (y : Nat) => bits_law u y
  have o1 := order_eq (back x)
  have o2 := order_eq x
  generalize back x = y at *
  generalize strOf (be8 (key x)) = fx at *
  clear hm hlt hn hi hx
  rcases hbk with rfl | ⟨n1, n2⟩
  · clear o1 o2
    go_enter Tryd.func6, Tryd.ntmps6
    go_wp2_with fail
    refine (PN.out _).mono ?_
    rintro e w1 ⟨sa, hna, rfl, hb1⟩
    have B1 := Lib.hid hb1
    have HA := Lib.hid hna
    have hsa : sa.size ≤ 9 := by have := hna.length.2; rwa [strN_length] at this
    have q1 : sa.size + more.size ≤ 9223372036854775807 := by omega
    have G1 := Lib.hid fun u => get_back hna more q1 u
    clear hb1 hna
    go_wp2_with fail
    refine (G1.out _).mono ?_
    rintro e w1' ⟨rfl, rfl⟩
    go_wp2_with fail
    refine (PI.out _).mono ?_
    rintro e w2 ⟨si, hni, rfl, hb2⟩
    have B2 := Lib.hid (Below.step B1.out hb2)
    have HIA := Lib.hid hni
    have hsi : si.size ≤ 9 := by
      rw [← strN_length]
      rcases hni with ⟨_, l, hl, e⟩ | ⟨_, l, hl, e⟩
      · rw [e, List.length_cons]; have := hl.2.1; omega
      · rw [e, List.length_cons]; have := hl.2.1; simp only [flp, List.length_map]; omega
    have q2 : si.size + more.size ≤ 9223372036854775806 := by omega
    have q2' : si.size + more.size ≤ 9223372036854775807 := by omega
    have G2 := Lib.hid fun u => getI_back' hni HI.out more q2 u
    clear hb2 hni
    go_wp2_with fail
    refine (G2.out _).mono ?_
    rintro e w3 ⟨rfl, hb3⟩
    have B3 := Lib.hid (Below.step B2.out hb3)
    clear hb3
    go_wp2_with fail
    refine (PF.out _).mono ?_
    rintro e w4 ⟨rfl, hb4⟩
    have B4 := Lib.hid (Below.step B3.out hb4)
    clear hb4
    go_wp2_with fail
    refine (GF.out _).mono ?_
    rintro e w4' ⟨rfl, rfl⟩
    go_wp2_with fail
    refine (PN.out _).mono ?_
    rintro e w5 ⟨sa2, hna2, rfl, hb5⟩
    obtain rfl : sa2 = sa := strN_inj (hna2.unique HA.out)
    have B5 := Lib.hid (Below.step B4.out hb5)
    clear hb5 hna2
    go_wp2_with fail
    refine (PI.out _).mono ?_
    rintro e w6 ⟨si2, hni2, rfl, hb6⟩
    obtain rfl : si2 = si := strN_inj (hni2.unique HIA.out)
    have B6 := Lib.hid (Below.step B5.out hb6)
    clear hb6 hni2
    go_wp2_with fail
    refine (PS.out _ B6.out).mono ?_
    rintro e w7 ⟨⟨hs1, rfl⟩ | ⟨hs1, rfl⟩, hb7⟩
    · have B7 := Lib.hid (Below.step B6.out hb7)
      have f9 : (1024 : Int) < (s.size : Int) := by omega
      clear hb7
      go_wp2_with fail
      go_ret
      exact ⟨rfl, B7.out⟩
    · have B7 := Lib.hid (Below.step B6.out hb7)
      have f9 : ¬ (1024 : Int) < (s.size : Int) := by omega
      have hpl : (putT (strN s)).length ≤ 4100 := by
        have key2 : ∀ l : List Nat, (esc l).length ≤ 2 * l.length := by
          intro l
          induction l with
          | nil => simp [esc]
          | cons a l ih => cases a <;> simp only [esc, List.length_cons] <;> omega
        have h1 := key2 (strN s)
        rw [strN_length] at h1
        simp only [putT, List.length_append, List.length_cons, List.length_nil]
        omega
      have hpz : (strOf (putT (strN s))).size = (putT (strN s)).length := strOf_size _
      have hts : (strOf (putT (strN s))).size + more.size ≤ 9223372036854775807 := by omega
      have HGT : Hid (∀ u, Calls Tryd.prog 21 #[.string (strOf (putT (strN s)) ++ more)] u fun e w' => e = .returned (.tuple #[.string s, .int .i64 ((strOf (putT (strN s))).size : Int), .int .i64 0]) ∧ Below u.heap.size u w') := fun u => by
        have hz : (strOf (putT (strN s)) ++ more).size = (strOf (putT (strN s))).size + more.size := by simp
        refine (getText_any (strOf (putT (strN s)) ++ more) u (by omega)).mono ?_
        rintro e w' ⟨t, k, c, hend, _, rfl, hb⟩
        rw [strN_app', strN_strOf _ (putT_lt (strN_lt s))] at hend
        obtain ⟨rfl, rfl, rfl⟩ := hend.back (by rw [strN_length]; exact hs1)
        exact ⟨by rw [strOf_strN, hpz]; rfl, hb⟩
      clear hpl hpz
      generalize strOf (putT (strN s)) = tx at *
      clear hb7
      go_wp2_with fail
      refine (HGT.out _).mono ?_
      rintro e w8 ⟨rfl, hb8⟩
      have B8 := Lib.hid (Below.step B7.out hb8)
      clear hb8
      go_wp2_with fail
      go_ret
      exact ⟨rfl, B8.out⟩
  · rw [n2] at o1
    rw [n1] at o2
    simp only [Bool.not_true] at o1 o2
    obtain ⟨qb, hqb⟩ : ∃ qb, ((y : Int) != (x : Int)) = qb := ⟨_, rfl⟩
    have hqb2 : (y != x) = qb := by rw [← hqb]; rw [Bool.eq_iff_iff]; simp; omega
    clear n1 n2
    cases qb
    all_goals
      go_enter Tryd.func6, Tryd.ntmps6
      go_wp2_with fail
      refine (PN.out _).mono ?_
      rintro e w1 ⟨sa, hna, rfl, hb1⟩
      have B1 := Lib.hid hb1
      have HA := Lib.hid hna
      have hsa : sa.size ≤ 9 := by have := hna.length.2; rwa [strN_length] at this
      have q1 : sa.size + more.size ≤ 9223372036854775807 := by omega
      have G1 := Lib.hid fun u => get_back hna more q1 u
      clear hb1 hna
      go_wp2_with fail
      refine (G1.out _).mono ?_
      rintro e w1' ⟨rfl, rfl⟩
      go_wp2_with fail
      refine (PI.out _).mono ?_
      rintro e w2 ⟨si, hni, rfl, hb2⟩
      have B2 := Lib.hid (Below.step B1.out hb2)
      have HIA := Lib.hid hni
      have hsi : si.size ≤ 9 := by
        rw [← strN_length]
        rcases hni with ⟨_, l, hl, e⟩ | ⟨_, l, hl, e⟩
        · rw [e, List.length_cons]; have := hl.2.1; omega
        · rw [e, List.length_cons]; have := hl.2.1; simp only [flp, List.length_map]; omega
      have q2 : si.size + more.size ≤ 9223372036854775806 := by omega
      have q2' : si.size + more.size ≤ 9223372036854775807 := by omega
      have G2 := Lib.hid fun u => getI_back' hni HI.out more q2 u
      clear hb2 hni
      go_wp2_with fail
      refine (G2.out _).mono ?_
      rintro e w3 ⟨rfl, hb3⟩
      have B3 := Lib.hid (Below.step B2.out hb3)
      clear hb3
      go_wp2_with fail
      refine (PF.out _).mono ?_
      rintro e w4 ⟨rfl, hb4⟩
      have B4 := Lib.hid (Below.step B3.out hb4)
      clear hb4
      go_wp2_with fail
      refine (GF.out _).mono ?_
      rintro e w4' ⟨rfl, rfl⟩
      go_wp2_with fail
      refine (PN.out _).mono ?_
      rintro e w5 ⟨sa2, hna2, rfl, hb5⟩
      obtain rfl : sa2 = sa := strN_inj (hna2.unique HA.out)
      have B5 := Lib.hid (Below.step B4.out hb5)
      clear hb5 hna2
      go_wp2_with fail
      refine (PI.out _).mono ?_
      rintro e w6 ⟨si2, hni2, rfl, hb6⟩
      obtain rfl : si2 = si := strN_inj (hni2.unique HIA.out)
      have B6 := Lib.hid (Below.step B5.out hb6)
      clear hb6 hni2
      go_wp2_with fail
      refine (PS.out _ B6.out).mono ?_
      rintro e w7 ⟨⟨hs1, rfl⟩ | ⟨hs1, rfl⟩, hb7⟩
      · have B7 := Lib.hid (Below.step B6.out hb7)
        have f9 : (1024 : Int) < (s.size : Int) := by omega
        clear hb7
        go_wp2_with fail
        go_ret
        exact ⟨rfl, B7.out⟩
      · have B7 := Lib.hid (Below.step B6.out hb7)
        have f9 : ¬ (1024 : Int) < (s.size : Int) := by omega
        have hpl : (putT (strN s)).length ≤ 4100 := by
          have key2 : ∀ l : List Nat, (esc l).length ≤ 2 * l.length := by
            intro l
            induction l with
            | nil => simp [esc]
            | cons a l ih => cases a <;> simp only [esc, List.length_cons] <;> omega
          have h1 := key2 (strN s)
          rw [strN_length] at h1
          simp only [putT, List.length_append, List.length_cons, List.length_nil]
          omega
        have hpz : (strOf (putT (strN s))).size = (putT (strN s)).length := strOf_size _
        have hts : (strOf (putT (strN s))).size + more.size ≤ 9223372036854775807 := by omega
        have HGT : Hid (∀ u, Calls Tryd.prog 21 #[.string (strOf (putT (strN s)) ++ more)] u fun e w' => e = .returned (.tuple #[.string s, .int .i64 ((strOf (putT (strN s))).size : Int), .int .i64 0]) ∧ Below u.heap.size u w') := fun u => by
          have hz : (strOf (putT (strN s)) ++ more).size = (strOf (putT (strN s))).size + more.size := by simp
          refine (getText_any (strOf (putT (strN s)) ++ more) u (by omega)).mono ?_
          rintro e w' ⟨t, k, c, hend, _, rfl, hb⟩
          rw [strN_app', strN_strOf _ (putT_lt (strN_lt s))] at hend
          obtain ⟨rfl, rfl, rfl⟩ := hend.back (by rw [strN_length]; exact hs1)
          exact ⟨by rw [strOf_strN, hpz]; rfl, hb⟩
        clear hpl hpz
        generalize strOf (putT (strN s)) = tx at *
        clear hb7
        go_wp2_with fail
        refine (HGT.out _).mono ?_
        rintro e w8 ⟨rfl, hb8⟩
        have B8 := Lib.hid (Below.step B7.out hb8)
        clear hb8
        go_wp2_with fail
        go_ret
        exact ⟨rfl, B8.out⟩
end Go.Proofs.YtiokodjlijaddaaDoor
