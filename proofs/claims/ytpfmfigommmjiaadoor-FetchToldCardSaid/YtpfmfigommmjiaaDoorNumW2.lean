/- The walks of num: turned, PutInt, GetInt, PutText. -/
import Derived.Test.YtpfmfigommmjiaaDoorNumW
import Derived.Test.YtpfmfigommmjiaaDoorCRow
import Derived.Deep.QuietTactic
import Derived.BigQuiet
import Derived.Deep.RegionHeld3
namespace Go.Proofs.YtpfmfigommmjiaaDoor
open Go.RowKit Plain
theorem xor255 : ∀ c : Nat, c < 256 → bits .xor .u8 (if IntKind.u8.signed = true then -1 else IntKind.u8.max) (c : Int) = ((255 - c : Nat) : Int) := by decide +kernel
/-- how far bytes were turned -/
def tlN (l : List Nat) (k : Nat) : List Nat := flp (l.take k) ++ l.drop k
theorem tlN_length (l : List Nat) (k : Nat) (h : k ≤ l.length) : (tlN l k).length = l.length := by
  unfold tlN flp
  rw [List.length_append, List.length_map, List.length_take, List.length_drop]; omega
theorem tlN_get (l : List Nat) (k : Nat) (h : k < l.length) : (tlN l k).getD k 0 = l.getD k 0 := by
  have e : (flp (l.take k)).length = k := by simp [flp]; omega
  unfold tlN
  rw [List.getD_eq_getElem?_getD, List.getElem?_append_right (by omega), e, Nat.sub_self, List.getElem?_drop, Nat.add_zero, ← List.getD_eq_getElem?_getD]
theorem tlN_set (l : List Nat) (k : Nat) (h : k < l.length) : (tlN l k).set k (255 - l.getD k 0) = tlN l (k + 1) := by
  have e : (flp (l.take k)).length = k := by simp [flp]; omega
  unfold tlN
  rw [List.set_append, if_neg (by omega), e, Nat.sub_self, take_snoc' l k h, List.drop_eq_getElem_cons h, List.set_cons_zero]
  have hg : l.getD k 0 = l[k] := by rw [List.getD_eq_getElem?_getD, List.getElem?_eq_getElem h]; rfl
  unfold flp
  rw [List.map_append, List.append_assoc, hg]
  rfl
def TurnEnd (w0 : World) (s : ByteArray) (e : Ending) (w : World) : Prop := e = .returned (.string (strOf (flp (strN s)))) ∧ Below w0.heap.size w0 w
set_option maxRecDepth 100000 in
set_option maxHeartbeats 1000000 in
theorem turned_any (s : ByteArray) (w : World) (hs : s.size ≤ 9223372036854775806) : Calls Tryd.prog 45 #[.string s] w (TurnEnd w s) := by
  have hconv := fun (wx : World) (x : ByteArray) => Lib.run_convert_string_bytes (P := Tryd.prog) wx 9 53 5 x Tryd.underlying9 Tryd.underlying53 Tryd.underlying5
  have B0 := Lib.hid (bytesWorld_below (w := w) 5 s)
  have C0 := Lib.hid (crow_bytes w 5 s)
  have hlen : (strN s).length = s.size := strN_length s
  have HLEN := Lib.hid hlen
  clear hlen
  have n1 : (s.size : Int) ≤ 9223372036854775806 := by omega
  go_enter Tryd.func45, Tryd.ntmps45
  go_wp2_with fail
  generalize Lib.bytesWorld w 5 s = w1 at *
  generalize grownCap w s.size 0 5 = cp
  go_loopw [9] (fun iv wr => ∃ k : Nat, k ≤ s.size ∧ iv = .int .i64 (k : Int) ∧ CRow wr w.heap.size (tlN (strN s) k) ∧ Below w.heap.size w wr) (fun iv _ => s.size - (intOf iv).toNat)
  case atStart => exact ⟨0, Nat.zero_le _, rfl, by simpa [tlN, flp] using C0.out, B0.out⟩
  case round =>
    obtain ⟨k, hk, rfl, hrow, hbx⟩ := hrel
    have HROW := Lib.hid hrow
    have HBX := Lib.hid hbx
    clear hrow hbx B0 C0
    by_cases hlt : k < s.size
    · have kk : (k : Int) < (s.size : Int) := by omega
      have k0 : (0 : Int) ≤ (k : Int) := Int.natCast_nonneg _
      have hkl : k < (strN s).length := by rw [HLEN.out]; exact hlt
      have hc := HROW.out.cell (k := k) (by rw [tlN_length _ _ (by omega)]; exact hkl)
      have hf := HROW.out.frozen (k := k) (by rw [tlN_length _ _ (by omega)]; exact hkl)
      rw [tlN_get _ _ hkl] at hc
      have hst := tlN_set (strN s) k hkl
      have hcl : (strN s).getD k 0 < 256 := by
        rw [List.getD_eq_getElem?_getD, List.getElem?_eq_getElem hkl]
        exact strN_lt s _ (List.getElem_mem hkl)
      have hx := xor255 _ hcl
      have HS := HROW.out.set k (255 - (strN s).getD k 0)
      rw [hst] at HS
      have BS := Lib.hid (HBX.out.setCell (p := ⟨w.heap.size, k, none⟩) (Nat.le_refl _) (.int .u8 ((255 - (strN s).getD k 0 : Nat) : Int)))
      have HS2 := Lib.hid HS
      generalize (strN s).getD k 0 = c at *
      generalize hd : 255 - c = d at *
      clear hd HS hst hcl hkl
      go_wp2_with fail
      go_roundw
      case rel => exact ⟨k + 1, by omega, by go_num, HS2.out, BS.out⟩
      case measure => simp [intOf]; omega
    · obtain rfl : k = s.size := by omega
      have m1 : ¬ (s.size : Int) < (s.size : Int) := by omega
      have hfin : tlN (strN s) s.size = flp (strN s) := by
        unfold tlN
        rw [List.take_of_length_le (by rw [HLEN.out]; exact Nat.le_refl _), List.drop_eq_nil_of_le (by rw [HLEN.out]; exact Nat.le_refl _), List.append_nil]
      have hsz : (strOf (flp (strN s))).size = s.size := by rw [strOf_size]; simp [flp, HLEN.out]
      have hcv := Lib.run_convert_whole (P := Tryd.prog) wr 53 5 9 Tryd.underlying53 Tryd.underlying5 Tryd.underlying9 w.heap.size 0 (strOf (flp (strN s))) (HROW.out.bytes _ (by rw [hfin, strN_strOf _ (flp_lt _)])) cp
      rw [hsz] at hcv
      clear hfin hsz hlt
      go_wp2_with fail
      go_ret
      exact ⟨rfl, HBX.out⟩
theorem conv_bel (n : Nat) (h : n < 256) {w u : World} (hb : Below (w.alloc (.cells #[.int .u8 (n : Int)] 5)).drew.heap.size (w.alloc (.cells #[.int .u8 (n : Int)] 5)).drew u) :
    (convert 53 9 (.slice (some ⟨w.heap.size, 0, none⟩) 1 1)).run Tryd.prog u = .ok (.string (strOf [n])) u :=
  run_string_of_row (P := Tryd.prog) u 53 5 9 Tryd.underlying53 Tryd.underlying5 Tryd.underlying9 w.heap.size [n] (BRow.below (BRow.drew (BRow.new w 5 [n])) hb) (fun c hc => by simp at hc; omega) 1
def PutIEnd (w0 : World) (n : Int) (e : Ending) (w : World) : Prop := ∃ s : ByteArray, INum n (strN s) ∧ e = .returned (.string s) ∧ Below w0.heap.size w0 w
theorem strN_strs (l m : List Nat) (h1 : ∀ c ∈ l, c < 256) (h2 : ∀ c ∈ m, c < 256) : strN (strOf l ++ strOf m) = l ++ m := by
  rw [strOf_append, strN_strOf]
  intro c hc
  rcases List.mem_append.1 hc with h | h
  · exact h1 c h
  · exact h2 c h
set_option maxRecDepth 100000 in
set_option maxHeartbeats 1000000 in
theorem putInt_any (n : Int) (hn : -9223372036854775808 ≤ n ∧ n ≤ 9223372036854775807) (w : World) : Calls Tryd.prog 28 #[.int .i64 n] w (PutIEnd w n) := by
  by_cases h0 : n < 0
  · obtain ⟨m, hm⟩ : ∃ m : Nat, -1 - n = (m : Int) := ⟨(-1 - n).toNat, by omega⟩
    have hm2 : m < 9223372036854775808 := by omega
    have HD := Lib.hid fun u => digits_any m (by omega) u
    have HMN : Hid ((-1 - n).toNat = m) := by show _ = _; omega
    have e1 : IntKind.u64.wrap (m : Int) = (m : Int) := by
      show (m : Int) % 18446744073709551616 = _
      omega
    have f0 : decide (n < 0) = true := decide_eq_true h0
    go_enter Tryd.func28, Tryd.ntmps28
    go_wp2_with fail
    refine (HD.out _).mono ?_
    rintro e w1 ⟨l, hl, rfl, hb1⟩
    have hl8 := hl.2.1
    have hsz : (strOf l).size = l.length := strOf_size l
    have HT : Hid (∀ u, Calls Tryd.prog 45 #[.string (strOf l)] u fun e w' => e = .returned (.string (strOf (flp (strN (strOf l))))) ∧ Below u.heap.size u w') := fun u => turned_any (strOf l) u (by rw [strOf_size]; omega)
    have HB1 := Lib.hid hb1
    clear hb1
    go_wp2_with fail
    obtain ⟨q, hq⟩ : ∃ q, q = 127 - l.length := ⟨_, rfl⟩
    have hq8 : q < 256 := by omega
    have e2 : (127 - (l.length : Int)) = (q : Int) := by omega
    have e3 : IntKind.i64.wrap (q : Int) = (q : Int) := wraps_i64 _ (by omega) (by omega)
    have e4 : IntKind.u8.wrap (q : Int) = (q : Int) := by
      show (q : Int) % 256 = _
      omega
    have hp1 := conv1 q hq8
    have hp2 := conv_bel q hq8 (Below.refl _ (w1.alloc (.cells #[.int .u8 (q : Int)] 5)).drew)
    have HQ := Lib.hid hq
    clear hq
    have hll : strN (strOf l) = l := strN_strOf l hl.1.1
    rw [hll] at HT
    have h63 : (strOf [q]).size + (strOf (flp l)).size ≤ 9223372036854775807 := by rw [strOf_size, strOf_size]; simp [flp]; omega
    have HN : Hid (INum n (strN (strOf [q] ++ strOf (flp l)))) := by
      show INum _ _
      rw [strN_strs [q] (flp l) (fun c hc => by simp at hc; omega) (flp_lt l)]
      exact .inr ⟨h0, l, by rw [HMN.out]; exact hl, by rw [HQ.out]; rfl⟩
    clear hll hl
    go_region_with (go_at_call 45; (with_reducible refine (HT.out _).mono ?_); rintro e w2 ⟨rfl, hb2⟩; (try have hp3 := conv_bel q hq8 hb2))
    all_goals go_wp2_with fail
    all_goals go_ret
    all_goals first
      | exact ⟨_, HN.out, rfl, Below.step (Below.drew (HB1.out.alloc HB1.out.size _)) hb2⟩
      | exact ⟨_, HN.out, rfl, (Below.step HB1.out.drew hb2).alloc (Nat.le_trans HB1.out.size hb2.size) _⟩
  · obtain ⟨m, rfl⟩ := Int.eq_ofNat_of_zero_le (show 0 ≤ n by omega)
    have HD := Lib.hid fun u => digits_any m (by omega) u
    have e1 : IntKind.u64.wrap (m : Int) = (m : Int) := by
      show (m : Int) % 18446744073709551616 = _
      omega
    have f0 : decide ((m : Int) < 0) = false := decide_eq_false h0
    go_enter Tryd.func28, Tryd.ntmps28
    go_wp2_with fail
    refine (HD.out _).mono ?_
    rintro e w1 ⟨l, hl, rfl, hb1⟩
    have hl8 := hl.2.1
    have hsz : (strOf l).size = l.length := strOf_size l
    obtain ⟨q, hq⟩ : ∃ q, q = 128 + l.length := ⟨_, rfl⟩
    have hq8 : q < 256 := by omega
    have e2 : (128 + (l.length : Int)) = (q : Int) := by omega
    have e3 : IntKind.i64.wrap (q : Int) = (q : Int) := wraps_i64 _ (by omega) (by omega)
    have e4 : IntKind.u8.wrap (q : Int) = (q : Int) := by
      show (q : Int) % 256 = _
      omega
    have hp1 := conv1 q hq8
    have h63 : (strOf [q]).size + (strOf l).size ≤ 9223372036854775807 := by rw [strOf_size, strOf_size]; simp; omega
    have HN : Hid (INum (m : Int) (strN (strOf [q] ++ strOf l))) := by
      show INum _ _
      rw [strN_strs [q] l (fun c hc => by simp at hc; omega) hl.1.1]
      exact .inl ⟨by omega, l, hl, by rw [hq]; rfl⟩
    have BW := Lib.hid ((Below.alloc hb1 hb1.size (.cells #[.int .u8 (q : Int)] 5)))
    clear hl hb1 hq
    go_wp2_with fail
    go_ret
    exact ⟨_, HN.out, rfl, BW.out⟩
end Go.Proofs.YtpfmfigommmjiaaDoor
