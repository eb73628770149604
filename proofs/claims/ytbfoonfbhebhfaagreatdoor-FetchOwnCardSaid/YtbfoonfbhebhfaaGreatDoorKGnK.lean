/- Joined: NumW, CRow. -/
import Derived.Test.YtbfoonfbhebhfaaGreatDoorKGnI
import Derived.Test.YtbfoonfbhebhfaaGreatDoorKGnJ
import Derived.Test.YtbfoonfbhebhfaaGreatDoorShelf
import Derived.Test.YtbfoonfbhebhfaaGreatDoorKGnB
import Derived.Lib.ConvBytes
namespace Go.Proofs.YtbfoonfbhebhfaaGreatDoor
open Go.RowKit Plain
def DigEnd (w0 : World) (n : Nat) (e : Ending) (w : World) : Prop := ∃ l, Digs n l ∧ e = .returned (.string (strOf l)) ∧ Below w0.heap.size w0 w
theorem digs_be8 (n : Nat) (h : n < 18446744073709551616) : Digs n (strip (be8 n)) := ⟨strip_dig _ (be8_lt n), strip_length _, by rw [strip_vl, vl_be8 n h]⟩
set_option maxRecDepth 100000 in
theorem digits_any (n : Nat) (hn : n < 18446744073709551616) (w : World) : Calls Tryz.prog 124 #[.int .u64 (n : Int)] w (DigEnd w n) := by
 have HA := Lib.hid fun u => app64_any n u
 have HT := Lib.hid fun u => Tryz.strings_TrimLeft_one (strOf (be8 n)) 0 (by decide) u
 rw [trim_str _ (be8_lt n)] at HT
 have HD := Lib.hid (digs_be8 n hn)
 have HCV : Hid (∀ (u : World) base v, u.ownsRow base 5 1 v (be8 n).length ((be8 n).map bV) → (convert 115 9 v).run Tryz.prog u = .ok (.string (strOf (be8 n))) u) := fun u base v h =>
  run_string_own (P := Tryz.prog) u 115 5 9 Tryz.underlying115 Tryz.underlying5 Tryz.underlying9 (be8_lt n) h
 clear hn
 go_enter Tryz.func124, Tryz.ntmps124
 go_wp2_with fail
 refine (HA.out _).mono ?_
 rintro e w1 ⟨v, rfl, hown, hb1⟩
 have hcv := HCV.out w1 _ v hown
 have HB1 := Lib.hid hb1
 clear hown hb1
 go_wp2_with fail
 refine (HT.out _).mono ?_
 rintro e w2 ⟨rfl, rfl⟩
 go_wp2_with fail
 go_ret
 exact ⟨_, HD.out, rfl, HB1.out⟩
theorem byte_at' (s : ByteArray) (k : Nat) (h : k < s.size) : (s[k]).toNat = (strN s).getD k 0 := by
 rw [← strN_getD, List.getD_eq_getElem?_getD, List.getElem?_eq_getElem (by rw [Array.length_toList]; exact h)]
 rfl
theorem take_snoc_str (s : ByteArray) (k : Nat) (h : k < s.size) : (strN s).take (k + 1) = (strN s).take k ++ [(s[k]'h).toNat] := by
 rw [byte_at' s k h]
 exact take_snoc' _ k (by rw [strN_length]; exact h)
theorem or_byte (v c : Nat) (hv : v < 72057594037927936) (hc : c < 256) : bits .or .u64 (IntKind.u64.wrap ((v : Int) * 256)) (IntKind.u64.wrap (c : Int)) = ((v * 256 + c : Nat) : Int) := by
 have e1 : IntKind.u64.wrap ((v : Int) * 256) = ((v * 256 : Nat) : Int) := by
  show ((v : Int) * 256) % 18446744073709551616 = _
  omega
 have e2 : IntKind.u64.wrap (c : Int) = (c : Int) := by
  show (c : Int) % 18446744073709551616 = _
  omega
 rw [e1, e2]
 have h := bits_or_u64_nat (v * 256) c (by omega) (by omega)
 have h2 := Nat.two_pow_add_eq_or_of_lt (i := 8) (b := c) hc v
 rw [show 2 ^ 8 * v = v * 256 by omega] at h2
 rw [← h2] at h
 exact h
set_option maxRecDepth 100000 in
theorem value_any (s : ByteArray) (w : World) (hs : s.size ≤ 8) : Calls Tryz.prog 134 #[.string s] w fun e w' => e = .returned (.int .u64 ((vl (strN s) : Nat) : Int)) ∧ w' = w := by
 go_enter Tryz.func134, Tryz.ntmps134
 go_wp2_with fail
 go_loop [3, 7] (fun nv iv => ∃ k : Nat, k ≤ s.size ∧ iv = .int .i64 (k : Int) ∧ nv = .int .u64 ((vl ((strN s).take k) : Nat) : Int)) (fun _ iv => s.size - (intOf iv).toNat)
 case atStart => exact ⟨0, Nat.zero_le _, rfl, rfl⟩
 case round =>
  obtain ⟨k, hk, rfl, rfl⟩ := hrel
  by_cases hlt : k < s.size
  ·
   have kk : (k : Int) < (s.size : Int) := by omega
   have k0 : (0 : Int) ≤ (k : Int) := Int.natCast_nonneg _
   have hst := take_snoc_str s k hlt
   have hv : vl ((strN s).take k) < 72057594037927936 := by
    have h1 := vl_lt ((strN s).take k) fun c hc => strN_lt s c (List.mem_of_mem_take hc)
    have h2 : 256 ^ ((strN s).take k).length ≤ 256 ^ 7 := Nat.pow_le_pow_right (by decide) (by rw [List.length_take]; omega)
    exact Nat.lt_of_lt_of_le h1 h2
   have HOR := Lib.hid (or_byte _ (s[k]'hlt).toNat hv (UInt8.toNat_lt _))
   have HV : Hid (vl ((strN s).take (k + 1)) = vl ((strN s).take k) * 256 + (s[k]'hlt).toNat) := by show _ = _; rw [hst, vl_snoc]
   clear hst hv
   go_wp2_with fail
   go_round
   case rel => exact ⟨k + 1, by omega, by go_num, by rw [HOR.out, HV.out]⟩
   case measure => simp [intOf]; omega
  ·
   have m1 : ¬ (k : Int) < (s.size : Int) := by omega
   obtain rfl : k = s.size := by omega
   go_wp2_with fail
   go_ret
   exact ⟨ret_int (by rw [List.take_of_length_le (by rw [strN_length]; exact Nat.le_refl _)]), rfl⟩
theorem conv1 (n : Nat) (h : n < 256) (w : World) : (convert 115 9 (.slice (some ⟨w.heap.size, 0, none⟩) 1 1)).run Tryz.prog (w.alloc (.cells #[.int .u8 (n : Int)] 5)) = .ok (.string (strOf [n])) (w.alloc (.cells #[.int .u8 (n : Int)] 5)) :=
 run_string_of_row (P := Tryz.prog) (w.alloc (.cells #[.int .u8 (n : Int)] 5)) 115 5 9 Tryz.underlying115 Tryz.underlying5 Tryz.underlying9 w.heap.size [n] (BRow.new w 5 [n]) (fun c hc => by simp at hc; omega) 1
theorem str_nil_of' {s : ByteArray} (h : s.size = 0) : s = ⟨#[]⟩ := by
 have h2 : strN s = [] := List.eq_nil_of_length_eq_zero (by rw [strN_length]; exact h)
 rw [← strOf_strN s, h2]
 rfl
theorem isEmpty_false' {s : ByteArray} (h : s.size ≠ 0) : s.toList.isEmpty = false := by
 rw [Lib.toList_data]
 cases hd : s.data.toList with
 | nil =>
      exfalso; apply h; have : s.data.size = 0 := by rw [← Array.length_toList, hd]; rfl
      exact this
 | cons a l => rfl
def PutNEnd (w0 : World) (n : Nat) (e : Ending) (w : World) : Prop := ∃ s : ByteArray, Num n (strN s) ∧ e = .returned (.string s) ∧ Below w0.heap.size w0 w
theorem strOf_append (l m : List Nat) : strOf l ++ strOf m = strOf (l ++ m) := by
 apply strN_inj
 show strN _ = strN _
 have : strN (strOf l ++ strOf m) = strN (strOf l) ++ strN (strOf m) := by simp [strN]
 rw [this]
 simp [strN, strOf]
set_option maxRecDepth 100000 in
theorem put_any (n : Nat) (hn : n < 18446744073709551616) (w : World) : Calls Tryz.prog 108 #[.int .u64 (n : Int)] w (PutNEnd w n) := by
 have HD := Lib.hid fun u => digits_any n hn u
 clear hn
 go_enter Tryz.func108, Tryz.ntmps108
 go_wp2_with fail
 refine (HD.out _).mono ?_
 rintro e w1 ⟨l, hl, rfl, hb1⟩
 have hl8 := hl.2.1
 have hsz : (strOf l).size = l.length := strOf_size l
 have hcv := conv1 l.length (by omega) w1
 have hx : strN (strOf [l.length] ++ strOf l) = l.length :: l := by
  rw [strOf_append, strN_strOf _ (fun c hc => by
   rcases List.mem_cons.1 hc with rfl | hc
   ·
    omega
   ·
    exact hl.1.1 c hc)]
  rfl
 have HN : Hid (Num n (strN (strOf [l.length] ++ strOf l))) := by show Num n _; rw [hx]; exact ⟨l, hl, rfl⟩
 have h63 : (strOf [l.length]).size + (strOf l).size ≤ 9223372036854775807 := by rw [strOf_size, strOf_size]; simp; omega
 have BW := Lib.hid ((Below.alloc hb1 hb1.size (.cells #[.int .u8 (l.length : Int)] 5)))
 clear hl hb1 hx
 go_wp2_with fail
 go_ret
 exact ⟨_, HN.out, rfl, BW.out⟩
def GetEnd (w0 : World) (s : ByteArray) (e : Ending) (w : World) : Prop :=
 e = .returned (.tuple #[.int .u64 (((getN (strN s)).1 : Nat) : Int), .int .i64 (((getN (strN s)).2.1 : Nat) : Int), .int .i64 (((getN (strN s)).2.2 : Nat) : Int)]) ∧ w0 = w
theorem strN_cons (s : ByteArray) (h : 0 < s.size) : strN s = (s[0]'h).toNat :: (strN s).drop 1 := by
 rw [byte_at' s 0 h]
 have : 0 < (strN s).length := by rw [strN_length]; exact h
 cases hs : strN s with
 | nil => rw [hs] at this; simp at this
 | cons a l => rfl
set_option maxRecDepth 100000 in
set_option maxHeartbeats 1000000 in
theorem get_any (s : ByteArray) (w : World) (hs : s.size ≤ 9223372036854775807) : Calls Tryz.prog 117 #[.string s] w (GetEnd w s) := by
 by_cases h0 : s.size = 0
 ·
  have hr := str_nil_of' h0
  subst hr
  clear h0 hs
  go_enter Tryz.func117, Tryz.ntmps117
  go_wp2_with fail
  go_ret3
  exact ⟨rfl, rfl⟩
 ·
  have hp : 0 < s.size := by omega
  have f0 := isEmpty_false' h0
  have hc := strN_cons s hp
  have hxl : ((strN s).drop 1).length = s.size - 1 := by rw [List.length_drop, strN_length]
  obtain ⟨x, hx⟩ : ∃ x, x = (strN s).drop 1 := ⟨_, rfl⟩
  rw [← hx] at hc hxl
  obtain ⟨k, hk⟩ : ∃ k, k = (s[0]'hp).toNat := ⟨_, rfl⟩
  rw [← hk] at hc
  have hpI : (0 : Int) < (s.size : Int) := by omega
  have hkk : (s[0]'hp).toNat = k := hk.symm
  have HC := Lib.hid hc
  have HX := Lib.hid hx
  have hk256 : k < 256 := by rw [hk]; exact UInt8.toNat_lt _
  have k0 : (0 : Int) ≤ (k : Int) := Int.natCast_nonneg _
  clear hk hc hx h0
  by_cases h8 : 8 < k
  ·
   have HG : Hid (getN (strN s) = (0, 0, 4)) := by show _ = _; rw [HC.out, getN, if_pos h8]
   have f1 : decide ((8 : Int) < (k : Int)) = true := decide_eq_true (by omega)
   have f2 : (8 : Int) < (k : Int) := by omega
   go_enter Tryz.func117, Tryz.ntmps117
   go_wp2_with fail
   go_ret3
   exact ⟨by rw [HG.out]; rfl, rfl⟩
  ·
   have f1 : decide ((8 : Int) < (k : Int)) = false := decide_eq_false (by omega)
   have f2 : ¬ (8 : Int) < (k : Int) := by omega
   by_cases hl : s.size < 1 + k
   ·
    have HG : Hid (getN (strN s) = (0, 0, 3)) := by show _ = _; rw [HC.out, getN, if_neg h8, if_pos (by omega)]
    have f3 : decide ((s.size : Int) < 1 + (k : Int)) = true := decide_eq_true (by omega)
    have f4 : (s.size : Int) < 1 + (k : Int) := by omega
    go_enter Tryz.func117, Tryz.ntmps117
    go_wp2_with fail
    go_ret3
    exact ⟨by rw [HG.out]; rfl, rfl⟩
   ·
    have f3 : decide ((s.size : Int) < 1 + (k : Int)) = false := decide_eq_false (by omega)
    have f4 : ¬ (s.size : Int) < 1 + (k : Int) := by omega
    have HV : Hid (∀ u, Calls Tryz.prog 134 #[.string (s.extract 1 (1 + k))] u fun e w' => e = .returned (.int .u64 ((vl (x.take k) : Nat) : Int)) ∧ w' = u) := fun u => by
     have h := value_any (s.extract 1 (1 + k)) u (by rw [ByteArray.size_extract]; omega)
     rw [extract_strN', Nat.add_sub_cancel_left, ← HX.out] at h
     exact h
    have e1 : (1 + (k : Int)).toNat = 1 + k := by omega
    by_cases hk0 : k = 0
    ·
     have HG : Hid (getN (strN s) = (vl (x.take k), 1 + k, 0)) := by
      show _ = _
      rw [HC.out, getN, if_neg h8, if_neg (by omega), if_neg (by omega)]
     have f5 : decide ((0 : Int) < (k : Int)) = false := decide_eq_false (by omega)
     have f6 : ¬ (0 : Int) < (k : Int) := by omega
     have f8 : ¬ 0 < k := by omega
     clear hk0
     go_enter Tryz.func117, Tryz.ntmps117
     go_wp2_with fail
     refine (HV.out _).mono ?_
     rintro e w' ⟨rfl, rfl⟩
     go_wp2_with fail
     go_ret3
     exact ⟨by rw [HG.out]; rfl, rfl⟩
    ·
     have hp1 : 1 < s.size := by omega
     have hpI1 : (1 : Int) < (s.size : Int) := by omega
     have f5 : decide ((0 : Int) < (k : Int)) = true := decide_eq_true (by omega)
     have f6 : (0 : Int) < (k : Int) := by omega
     have hx1 : x.getD 0 0 = (s[1]'hp1).toNat := by
      rw [byte_at' s 1 hp1, HX.out, List.getD_eq_getElem?_getD, List.getElem?_drop, ← List.getD_eq_getElem?_getD]
     obtain ⟨c1, hc1⟩ : ∃ c1, (s[1]'hp1).toNat = c1 := ⟨_, rfl⟩
     rw [hc1] at hx1
     have HX1 := Lib.hid hx1
     clear hx1
     by_cases hz : c1 = 0
     ·
      have f7 : ((c1 : Int) == 0) = true := by simpa using hz
      have HG : Hid (getN (strN s) = (0, 0, 4)) := by
       show _ = _
       rw [HC.out, getN, if_neg h8, if_neg (by omega), if_pos ⟨by omega, by rw [HX1.out]; exact hz⟩]
      clear hz
      go_enter Tryz.func117, Tryz.ntmps117
      go_wp2_with fail
      go_ret3
      exact ⟨by rw [HG.out]; rfl, rfl⟩
     ·
      have f7 : ((c1 : Int) == 0) = false := by simpa using hz
      have HG : Hid (getN (strN s) = (vl (x.take k), 1 + k, 0)) := by
       show _ = _
       rw [HC.out, getN, if_neg h8, if_neg (by omega), if_neg (by rintro ⟨_, h⟩; rw [HX1.out] at h; exact hz h)]
      clear hz
      go_enter Tryz.func117, Tryz.ntmps117
      go_wp2_with fail
      refine (HV.out _).mono ?_
      rintro e w' ⟨rfl, rfl⟩
      go_wp2_with fail
      go_ret3
      exact ⟨by rw [HG.out]; rfl, rfl⟩
end Go.Proofs.YtbfoonfbhebhfaaGreatDoor
namespace Go.Proofs.YtbfoonfbhebhfaaGreatDoor
open Go.RowKit
theorem byte_at2 (s : ByteArray) (k : Nat) (h : k < s.size) : (s[k]).toNat = (strN s).getD k 0 := by
 rw [← strN_getD, List.getD_eq_getElem?_getD, List.getElem?_eq_getElem (by rw [Array.length_toList]; exact h)]
 rfl
def CRow (w : World) (B : Nat) (l : List Nat) : Prop := ∃ (C : Array Value) (t : TypeId) (lo hi : Nat), w.heap[B]? = some (.cells C t (lo, hi)) ∧ l.length ≤ lo ∧ ∀ j, j < l.length → C[j]? = some (.int .u8 ((l.getD j 0 : Nat) : Int))
theorem CRow.cell {w : World} {B : Nat} {l : List Nat} (h : CRow w B l) {k : Nat} (hk : k < l.length) : w.cell? ⟨B, k, none⟩ = some (.int .u8 ((l.getD k 0 : Nat) : Int)) := by
 obtain ⟨C, t, lo, hi, h1, h2, h3⟩ := h
 simp [World.cell?, h1, h3 k hk]
theorem CRow.frozen {w : World} {B : Nat} {l : List Nat} (h : CRow w B l) {k : Nat} (hk : k < l.length) : w.frozen? ⟨B, k, none⟩ = false := by
 obtain ⟨C, t, lo, hi, h1, h2, h3⟩ := h
 simp only [World.frozen?, h1]
 have : decide (lo ≤ k) = false := decide_eq_false (by omega)
 simp [this]
theorem CRow.lt {w : World} {B : Nat} {l : List Nat} (h : CRow w B l) : B < w.heap.size := by
 obtain ⟨C, t, lo, hi, h1, _⟩ := h
 exact lt_of_block h1
theorem CRow.below {w w' : World} {B : Nat} {l : List Nat} (h : CRow w B l) (hb : Below w.heap.size w w') : CRow w' B l := by
 obtain ⟨C, t, lo, hi, h1, h2, h3⟩ := h
 exact ⟨C, t, lo, hi, (hb.block B (lt_of_block h1)).trans h1, h2, h3⟩
theorem CRow.drew {w : World} {B : Nat} {l : List Nat} (h : CRow w B l) : CRow w.drew B l := h
theorem CRow.bytes {w : World} {B : Nat} {l : List Nat} (h : CRow w B l) (s : ByteArray) (hs : strN s = l) : Lib.Bytes w B 0 s := by
 intro i hi
 subst hs
 have := h.cell (k := i) (by rw [strN_length]; exact hi)
 rw [Nat.zero_add, this, byte_at2]
theorem CRow.set {w : World} {B : Nat} {l : List Nat} (h : CRow w B l) (k v : Nat) : CRow (w.setCell ⟨B, k, none⟩ (.int .u8 (v : Int))) B (l.set k v) := by
 obtain ⟨C, t, lo, hi, h1, h2, h3⟩ := h
 refine ⟨C.setIfInBounds k (.int .u8 (v : Int)), t, lo, hi, ?_, by rw [List.length_set]; exact h2, ?_⟩
 ·
  simp only [World.setCell, Array.getElem?_modify, h1]
  simp
 ·
  intro j hj
  rw [List.length_set] at hj
  rw [Array.getElem?_setIfInBounds]
  have hjc := h3 j hj
  have hjs : j < C.size := by
   rcases Nat.lt_or_ge j C.size with h | h
   ·
    exact h
   ·
    rw [Array.getElem?_eq_none h] at hjc; cases hjc
  by_cases e : k = j
  ·
   subst e
   simp [hjs, List.getD_eq_getElem?_getD, hj]
  ·
   rw [if_neg e, hjc, List.getD_eq_getElem?_getD, List.getD_eq_getElem?_getD, List.getElem?_set_ne e]
theorem crow_bytes (w : World) (e : TypeId) (s : ByteArray) : CRow (Lib.bytesWorld w e s) w.heap.size (strN s) := by
 have h := Lib.bytesWorld_at_new w e s
 have hc := fun j hj => bytesWorld_cellN w e s j hj
 have hcc : ∀ j, j < s.size → (Lib.bytesCells w e s)[j]? = some (.int .u8 (((strN s).getD j 0 : Nat) : Int)) := by
  intro j hj
  have := hc j hj
  simp only [World.cell?, h] at this
  simpa using this
 refine ⟨_, _, _, _, h, ?_, fun j hj => hcc j (by rw [strN_length] at hj; exact hj)⟩
 rw [strN_length]
 rcases Nat.lt_or_ge (Lib.bytesCells w e s).size s.size with hlt | hge
 ·
  have := hcc (Lib.bytesCells w e s).size hlt
  rw [Array.getElem?_eq_none (Nat.le_refl _)] at this
  cases this
 ·
  exact hge
end Go.Proofs.YtbfoonfbhebhfaaGreatDoor
