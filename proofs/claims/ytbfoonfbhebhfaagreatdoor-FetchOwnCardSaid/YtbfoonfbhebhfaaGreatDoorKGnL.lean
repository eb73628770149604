/- Joined: NumW2, NumText, NumW3, NumW4. -/
import Derived.Test.YtbfoonfbhebhfaaGreatDoorKGnK
import Derived.Deep.QuietTactic
import Derived.BigQuiet
import Derived.Deep.RegionHeld3
namespace Go.Proofs.YtbfoonfbhebhfaaGreatDoor
open Go.RowKit Plain
theorem xor255 : ∀ c : Nat, c < 256 → bits .xor .u8 (if IntKind.u8.signed = true then -1 else IntKind.u8.max) (c : Int) = ((255 - c : Nat) : Int) := by decide +kernel
def tlN (l : List Nat) (k : Nat) : List Nat := flp (l.take k) ++ l.drop k
theorem tlN_length (l : List Nat) (k : Nat) (h : k ≤ l.length) : (tlN l k).length = l.length := by
 unfold tlN flp
 rw [List.length_append, List.length_map, List.length_take, List.length_drop]; omega
theorem tlN_get (l : List Nat) (k : Nat) (h : k < l.length) : (tlN l k).getD k 0 = l.getD k 0 := by
 have e : (flp (l.take k)).length = k := by simp [flp]; omega
 unfold tlN
 rw [List.getD_eq_getElem?_getD, List.getElem?_append_right (by omega), e, Nat.sub_self, List.getElem?_drop, Nat.add_zero, ← List.getD_eq_getElem?_getD]
theorem tlN_set (l : List Nat) (k : Nat) (h : k < l.length) : (tlN l k).set k (255 - l.getD k 0) = tlN l (k + 1) := by
 have e : (flp (l.take k)).length = k := by simp [flp]; omega
 unfold tlN
 rw [List.set_append, if_neg (by omega), e, Nat.sub_self, take_snoc' l k h, List.drop_eq_getElem_cons h, List.set_cons_zero]
 have hg : l.getD k 0 = l[k] := by rw [List.getD_eq_getElem?_getD, List.getElem?_eq_getElem h]; rfl
 unfold flp
 rw [List.map_append, List.append_assoc, hg]
 rfl
def TurnEnd (w0 : World) (s : ByteArray) (e : Ending) (w : World) : Prop := e = .returned (.string (strOf (flp (strN s)))) ∧ Below w0.heap.size w0 w
set_option maxRecDepth 100000 in
set_option maxHeartbeats 1000000 in
theorem turned_any (s : ByteArray) (w : World) (hs : s.size ≤ 9223372036854775806) : Calls Tryz.prog 126 #[.string s] w (TurnEnd w s) := by
 have hconv := fun (wx : World) (x : ByteArray) => Lib.run_convert_string_bytes (P := Tryz.prog) wx 9 115 5 x Tryz.underlying9 Tryz.underlying115 Tryz.underlying5
 have B0 := Lib.hid (bytesWorld_below (w := w) 5 s)
 have C0 := Lib.hid (crow_bytes w 5 s)
 have hlen : (strN s).length = s.size := strN_length s
 have HLEN := Lib.hid hlen
 clear hlen
 have n1 : (s.size : Int) ≤ 9223372036854775806 := by omega
 go_enter Tryz.func126, Tryz.ntmps126
 go_wp2_with fail
 generalize Lib.bytesWorld w 5 s = w1 at *
 generalize grownCap w s.size 0 5 = cp
 go_loopw [9] (fun iv wr => ∃ k : Nat, k ≤ s.size ∧ iv = .int .i64 (k : Int) ∧ CRow wr w.heap.size (tlN (strN s) k) ∧ Below w.heap.size w wr) (fun iv _ => s.size - (intOf iv).toNat)
 case atStart => exact ⟨0, Nat.zero_le _, rfl, by simpa [tlN, flp] using C0.out, B0.out⟩
 case round =>
  obtain ⟨k, hk, rfl, hrow, hbx⟩ := hrel
  have HROW := Lib.hid hrow
  have HBX := Lib.hid hbx
  clear hrow hbx B0 C0
  by_cases hlt : k < s.size
  ·
   have kk : (k : Int) < (s.size : Int) := by omega
   have k0 : (0 : Int) ≤ (k : Int) := Int.natCast_nonneg _
   have hkl : k < (strN s).length := by rw [HLEN.out]; exact hlt
   have hc := HROW.out.cell (k := k) (by rw [tlN_length _ _ (by omega)]; exact hkl)
   have hf := HROW.out.frozen (k := k) (by rw [tlN_length _ _ (by omega)]; exact hkl)
   rw [tlN_get _ _ hkl] at hc
   have hst := tlN_set (strN s) k hkl
   have hcl : (strN s).getD k 0 < 256 := by
    rw [List.getD_eq_getElem?_getD, List.getElem?_eq_getElem hkl]
    exact strN_lt s _ (List.getElem_mem hkl)
   have hx := xor255 _ hcl
   have HS := HROW.out.set k (255 - (strN s).getD k 0)
   rw [hst] at HS
   have BS := Lib.hid (HBX.out.setCell (p := ⟨w.heap.size, k, none⟩) (Nat.le_refl _) (.int .u8 ((255 - (strN s).getD k 0 : Nat) : Int)))
   have HS2 := Lib.hid HS
   generalize (strN s).getD k 0 = c at *
   generalize hd : 255 - c = d at *
   clear hd HS hst hcl hkl
   go_wp2_with fail
   go_roundw
   case rel => exact ⟨k + 1, by omega, by go_num, HS2.out, BS.out⟩
   case measure => simp [intOf]; omega
  ·
   obtain rfl : k = s.size := by omega
   have m1 : ¬ (s.size : Int) < (s.size : Int) := by omega
   have hfin : tlN (strN s) s.size = flp (strN s) := by
    unfold tlN
    rw [List.take_of_length_le (by rw [HLEN.out]; exact Nat.le_refl _), List.drop_eq_nil_of_le (by rw [HLEN.out]; exact Nat.le_refl _), List.append_nil]
   have hsz : (strOf (flp (strN s))).size = s.size := by rw [strOf_size]; simp [flp, HLEN.out]
   have hcv := Lib.run_convert_whole (P := Tryz.prog) wr 115 5 9 Tryz.underlying115 Tryz.underlying5 Tryz.underlying9 w.heap.size 0 (strOf (flp (strN s))) (HROW.out.bytes _ (by rw [hfin, strN_strOf _ (flp_lt _)])) cp
   rw [hsz] at hcv
   clear hfin hsz hlt
   go_wp2_with fail
   go_ret
   exact ⟨rfl, HBX.out⟩
theorem conv_bel (n : Nat) (h : n < 256) {w u : World} (hb : Below (w.alloc (.cells #[.int .u8 (n : Int)] 5)).drew.heap.size (w.alloc (.cells #[.int .u8 (n : Int)] 5)).drew u) :
  (convert 115 9 (.slice (some ⟨w.heap.size, 0, none⟩) 1 1)).run Tryz.prog u = .ok (.string (strOf [n])) u :=
 run_string_of_row (P := Tryz.prog) u 115 5 9 Tryz.underlying115 Tryz.underlying5 Tryz.underlying9 w.heap.size [n] (BRow.below (BRow.drew (BRow.new w 5 [n])) hb) (fun c hc => by simp at hc; omega) 1
def PutIEnd (w0 : World) (n : Int) (e : Ending) (w : World) : Prop := ∃ s : ByteArray, INum n (strN s) ∧ e = .returned (.string s) ∧ Below w0.heap.size w0 w
theorem strN_strs (l m : List Nat) (h1 : ∀ c ∈ l, c < 256) (h2 : ∀ c ∈ m, c < 256) : strN (strOf l ++ strOf m) = l ++ m := by
 rw [strOf_append, strN_strOf]
 intro c hc
 rcases List.mem_append.1 hc with h | h
 ·
  exact h1 c h
 ·
  exact h2 c h
set_option maxRecDepth 100000 in
set_option maxHeartbeats 1000000 in
theorem putInt_any (n : Int) (hn : -9223372036854775808 ≤ n ∧ n ≤ 9223372036854775807) (w : World) : Calls Tryz.prog 110 #[.int .i64 n] w (PutIEnd w n) := by
 by_cases h0 : n < 0
 ·
  obtain ⟨m, hm⟩ : ∃ m : Nat, -1 - n = (m : Int) := ⟨(-1 - n).toNat, by omega⟩
  have hm2 : m < 9223372036854775808 := by omega
  have HD := Lib.hid fun u => digits_any m (by omega) u
  have HMN : Hid ((-1 - n).toNat = m) := by show _ = _; omega
  have e1 : IntKind.u64.wrap (m : Int) = (m : Int) := by
   show (m : Int) % 18446744073709551616 = _
   omega
  have f0 : decide (n < 0) = true := decide_eq_true h0
  go_enter Tryz.func110, Tryz.ntmps110
  go_wp2_with fail
  refine (HD.out _).mono ?_
  rintro e w1 ⟨l, hl, rfl, hb1⟩
  have hl8 := hl.2.1
  have hsz : (strOf l).size = l.length := strOf_size l
  have HT : Hid (∀ u, Calls Tryz.prog 126 #[.string (strOf l)] u fun e w' => e = .returned (.string (strOf (flp (strN (strOf l))))) ∧ Below u.heap.size u w') := fun u => turned_any (strOf l) u (by rw [strOf_size]; omega)
  have HB1 := Lib.hid hb1
  clear hb1
  go_wp2_with fail
  obtain ⟨q, hq⟩ : ∃ q, q = 127 - l.length := ⟨_, rfl⟩
  have hq8 : q < 256 := by omega
  have e2 : (127 - (l.length : Int)) = (q : Int) := by omega
  have e3 : IntKind.i64.wrap (q : Int) = (q : Int) := wraps_i64 _ (by omega) (by omega)
  have e4 : IntKind.u8.wrap (q : Int) = (q : Int) := by
   show (q : Int) % 256 = _
   omega
  have hp1 := conv1 q hq8
  have hp2 := conv_bel q hq8 (Below.refl _ (w1.alloc (.cells #[.int .u8 (q : Int)] 5)).drew)
  have HQ := Lib.hid hq
  clear hq
  have hll : strN (strOf l) = l := strN_strOf l hl.1.1
  rw [hll] at HT
  have h63 : (strOf [q]).size + (strOf (flp l)).size ≤ 9223372036854775807 := by rw [strOf_size, strOf_size]; simp [flp]; omega
  have HN : Hid (INum n (strN (strOf [q] ++ strOf (flp l)))) := by
   show INum _ _
   rw [strN_strs [q] (flp l) (fun c hc => by simp at hc; omega) (flp_lt l)]
   exact .inr ⟨h0, l, by rw [HMN.out]; exact hl, by rw [HQ.out]; rfl⟩
  clear hll hl
  go_region_with (go_at_call 126; (with_reducible refine (HT.out _).mono ?_); rintro e w2 ⟨rfl, hb2⟩; (try have hp3 := conv_bel q hq8 hb2))
  all_goals go_wp2_with fail
  all_goals go_ret
  all_goals first
   | exact ⟨_, HN.out, rfl, Below.step (Below.drew (HB1.out.alloc HB1.out.size _)) hb2⟩
   | exact ⟨_, HN.out, rfl, (Below.step HB1.out.drew hb2).alloc (Nat.le_trans HB1.out.size hb2.size) _⟩
 ·
  obtain ⟨m, rfl⟩ := Int.eq_ofNat_of_zero_le (show 0 ≤ n by omega)
  have HD := Lib.hid fun u => digits_any m (by omega) u
  have e1 : IntKind.u64.wrap (m : Int) = (m : Int) := by
   show (m : Int) % 18446744073709551616 = _
   omega
  have f0 : decide ((m : Int) < 0) = false := decide_eq_false h0
  go_enter Tryz.func110, Tryz.ntmps110
  go_wp2_with fail
  refine (HD.out _).mono ?_
  rintro e w1 ⟨l, hl, rfl, hb1⟩
  have hl8 := hl.2.1
  have hsz : (strOf l).size = l.length := strOf_size l
  obtain ⟨q, hq⟩ : ∃ q, q = 128 + l.length := ⟨_, rfl⟩
  have hq8 : q < 256 := by omega
  have e2 : (128 + (l.length : Int)) = (q : Int) := by omega
  have e3 : IntKind.i64.wrap (q : Int) = (q : Int) := wraps_i64 _ (by omega) (by omega)
  have e4 : IntKind.u8.wrap (q : Int) = (q : Int) := by
   show (q : Int) % 256 = _
   omega
  have hp1 := conv1 q hq8
  have h63 : (strOf [q]).size + (strOf l).size ≤ 9223372036854775807 := by rw [strOf_size, strOf_size]; simp; omega
  have HN : Hid (INum (m : Int) (strN (strOf [q] ++ strOf l))) := by
   show INum _ _
   rw [strN_strs [q] l (fun c hc => by simp at hc; omega) hl.1.1]
   exact .inl ⟨by omega, l, hl, by rw [hq]; rfl⟩
  have BW := Lib.hid ((Below.alloc hb1 hb1.size (.cells #[.int .u8 (q : Int)] 5)))
  clear hl hb1 hq
  go_wp2_with fail
  go_ret
  exact ⟨_, HN.out, rfl, BW.out⟩
end Go.Proofs.YtbfoonfbhebhfaaGreatDoor
namespace Go.Proofs.YtbfoonfbhebhfaaGreatDoor
open Go.RowKit Plain
theorem countB_bound (s : ByteArray) (hs : s.size ≤ 1024) : s.size + Lib.countB s ⟨#[0]⟩ * (⟨#[0, 255]⟩ : ByteArray).size ≤ 140737488355328 := by
 have h := Lib.countB_le ⟨#[0]⟩ (by decide) s.size s (Nat.le_refl _)
 have : (⟨#[0, 255]⟩ : ByteArray).size = 2 := rfl
 rw [this]
 omega
def PutTEnd (w0 : World) (s : ByteArray) (e : Ending) (w : World) : Prop :=
 ((1024 < s.size ∧ e = .returned (.tuple #[.string ⟨#[]⟩, .int .i64 2])) ∨ (s.size ≤ 1024 ∧ e = .returned (.tuple #[.string (strOf (putT (strN s))), .int .i64 0]))) ∧ Below w0.heap.size w0 w
set_option maxRecDepth 100000 in
theorem putText_any (s : ByteArray) (m : Int) (w : World) (hs : s.size ≤ 9223372036854775807) (hm : w.cell? ⟨1, 0, none⟩ = some (.int .i64 m)) : Calls Tryz.prog 109 #[.string s] w (PutTEnd w s) := by
 by_cases h0 : 1024 < s.size
 ·
  have f0 : (1024 : Int) < (s.size : Int) := by omega
  clear hm
  go_enter Tryz.func109, Tryz.ntmps109
  go_wp2_with fail
  go_ret2
  exact ⟨.inl ⟨h0, rfl⟩, Below.refl _ _⟩
 ·
  have f0 : ¬ (1024 : Int) < (s.size : Int) := by omega
  have HR : Hid (Calls Tryz.prog 125 #[.string s, .string ⟨#[0]⟩, .string ⟨#[0, 255]⟩] w fun e w' => e = .returned (.string (strOf (esc (strN s)))) ∧ Below w.heap.size w w') := by
   refine (Tryz.strings_ReplaceAll s ⟨#[0]⟩ ⟨#[0, 255]⟩ m w (by omega) hm (by decide) (countB_bound s (by omega))).mono fun e w' ⟨he, hb⟩ => ⟨?_, hb⟩
   rw [he]
   exact congrArg (fun x => Ending.returned (.string x)) (esc_str s)
  have hel : (esc (strN s)).length ≤ 2048 := by
   have : ∀ l : List Nat, (esc l).length ≤ 2 * l.length := by
    intro l
    induction l with
    | nil => simp [esc]
    | cons a l ih => cases a <;> simp only [esc, List.length_cons] <;> omega
   have := this (strN s)
   rw [strN_length] at this
   omega
  have h63 : (strOf (esc (strN s))).size + (⟨#[0, 0]⟩ : ByteArray).size ≤ 9223372036854775807 := by
   rw [strOf_size]
   show _ + 2 ≤ _
   omega
  have hE : Hid (strOf (esc (strN s)) ++ (⟨#[0, 0]⟩ : ByteArray) = strOf (putT (strN s))) := by
   show _ = _
   rw [show (⟨#[0, 0]⟩ : ByteArray) = strOf [0, 0] from rfl, strOf_append]
   rfl
  clear hm hel
  go_enter Tryz.func109, Tryz.ntmps109
  go_wp2_with fail
  refine HR.out.mono ?_
  rintro e w1 ⟨rfl, hb1⟩
  have HB1 := Lib.hid hb1
  clear hb1 HR
  go_wp2_with fail
  go_ret2
  exact ⟨.inr ⟨by omega, by rw [← hE.out]; rfl⟩, HB1.out⟩
end Go.Proofs.YtbfoonfbhebhfaaGreatDoor
namespace Go.Proofs.YtbfoonfbhebhfaaGreatDoor
open Go.RowKit Plain
def GetTEnd (w0 : World) (s : ByteArray) (e : Ending) (w : World) : Prop :=
 ∃ (t : List Nat) (k c : Nat), GTEnd (strN s) t k c ∧ (∀ x ∈ t, x < 256) ∧ e = .returned (.tuple #[.string (strOf t), .int .i64 (k : Int), .int .i64 (c : Int)]) ∧ Below w0.heap.size w0 w
theorem GT.lt {s o : List Nat} {i : Nat} (hs : ∀ c ∈ s, c < 256) (h : GT s o i) : ∀ x ∈ o, x < 256 := by
 induction h with
 | start => simp
 | @plain o i _ h1 h2 h3 ih =>
  intro x hx
  rcases List.mem_append.1 hx with hx | hx
  ·
   exact ih x hx
  ·
   simp only [List.mem_singleton] at hx
   rw [hx, List.getD_eq_getElem?_getD, List.getElem?_eq_getElem h1]
   exact hs _ (List.getElem_mem h1)
 | @zero o i _ h1 h2 h3 h4 ih =>
  intro x hx
  rcases List.mem_append.1 hx with hx | hx
  ·
   exact ih x hx
  ·
   simp at hx; omega
theorem own_form1 {w : World} {base : Nat} {e : TypeId} {k : Nat} {v : Value} {n : Nat} {xs : List Value} (h : w.ownsRow base e k v n xs) : ∃ a c, v = .slice a n c := by
 rcases h.2 with ⟨hv, h3⟩ | ⟨g, cap, cur, hv, _⟩
 ·
  exact ⟨none, 0, by rw [hv, h3]⟩
 ·
  exact ⟨_, _, hv⟩
set_option maxRecDepth 100000 in
set_option maxHeartbeats 2000000 in
theorem getText_any (s : ByteArray) (w : World) (hs : s.size ≤ 9223372036854775806) : Calls Tryz.prog 135 #[.string s] w (GetTEnd w s) := by
 obtain ⟨i0, hi0, hz0, hz1, hz2⟩ := info_parts info_byte
 have hlen : (strN s).length = s.size := strN_length s
 have HLEN := Lib.hid hlen
 clear hlen
 have n1 : (s.size : Int) ≤ 9223372036854775806 := by omega
 go_enter Tryz.func135, Tryz.ntmps135
 go_wp2_with fail
 go_loopw [5, 6] (fun ov iv wr => ∃ (o : List Nat) (i : Nat) (oa : Option Addr) (oc : Nat), iv = .int .i64 (i : Int) ∧ ov = .slice oa o.length oc ∧ GT (strN s) o i ∧ wr.ownsRow w.heap.size 5 1 (.slice oa o.length oc) o.length (o.map bV) ∧ Below w.heap.size w wr) (fun _ iv _ => s.size - (intOf iv).toNat)
 case atStart => exact ⟨[], 0, none, 0, rfl, rfl, .start, World.ownsRow_nil _ _ _ _, Below.refl _ _⟩
 case round =>
  obtain ⟨o, i, oa, oc, rfl, rfl, hgt, hown, hbx⟩ := hrel
  have HGT := Lib.hid hgt
  have HOWN := Lib.hid hown
  have HBX := Lib.hid hbx
  have hgt1 := hgt.at
  have hi1 : i ≤ s.size := by rw [← HLEN.out]; exact hgt1.2.1
  have ho1 : o.length ≤ 1024 := hgt1.2.2.1
  have hwr := hbx.size
  clear hgt hown hbx hgt1
  have HOLT := Lib.hid (GT.lt (strN_lt s) HGT.out)
  by_cases hlt : i < s.size
  ·
   have ii : (i : Int) < (s.size : Int) := by omega
   have i00 : (0 : Int) ≤ (i : Int) := Int.natCast_nonneg _
   have hbt := byte_at' s i hlt
   obtain ⟨c, hc⟩ : ∃ c, (s[i]'hlt).toNat = c := ⟨_, rfl⟩
   rw [hc] at hbt
   have HBT := Lib.hid hbt
   have hc256 : c < 256 := by rw [← hc]; exact UInt8.toNat_lt _
   clear hbt
   by_cases hc0 : c = 0
   ·
    have f0 : ((c : Int) == 0) = true := by simpa using hc0
    by_cases hl2 : i + 1 = s.size
    ·
     have f1 : ((i : Int) + 1 == (s.size : Int)) = true := beq_iff_eq.2 (by omega)
     have HEND : Hid (GTEnd (strN s) [] 0 3) := .inr ⟨rfl, rfl, .inl ⟨rfl, o, i, HGT.out, .inr ⟨by rw [HLEN.out]; exact hl2, by rw [← HBT.out]; exact hc0⟩⟩⟩
     clear hc0 hl2
     go_wp2_with fail
     go_ret3
     exact ⟨[], 0, 3, HEND.out, by simp, rfl, HBX.out⟩
    ·
     have f1 : ((i : Int) + 1 == (s.size : Int)) = false := beq_eq_false_iff_ne.2 (by omega)
     have hlt2 : i + 1 < s.size := by omega
     have ii2 : (i : Int) + 1 < (s.size : Int) := by omega
     have i01 : (0 : Int) ≤ (i : Int) + 1 := by omega
     have e1 : ((i : Int) + 1).toNat = i + 1 := by omega
     have hbt2 := byte_at' s (i + 1) hlt2
     obtain ⟨d, hd⟩ : ∃ d, (s[i + 1]'hlt2).toNat = d := ⟨_, rfl⟩
     rw [hd] at hbt2
     have HBT2 := Lib.hid hbt2
     have hd256 : d < 256 := by rw [← hd]; exact UInt8.toNat_lt _
     clear hbt2 hl2
     by_cases hd0 : d = 0
     ·
      have f2 : ((d : Int) == 0) = true := by simpa using hd0
      have HEND : Hid (GTEnd (strN s) o (i + 2) 0) := .inl ⟨rfl, i, HGT.out, rfl, by rw [HLEN.out]; exact hlt2, by rw [← HBT.out]; exact hc0, by rw [← HBT2.out]; exact hd0⟩
      have hcv := run_string_own (P := Tryz.prog) wr 115 5 9 Tryz.underlying115 Tryz.underlying5 Tryz.underlying9 HOLT.out HOWN.out
      clear hc0 hd0
      go_wp2_with fail
      go_ret3
      exact ⟨o, i + 2, 0, HEND.out, HOLT.out, by show Ending.returned (.tuple #[_, .int .i64 ((i : Int) + 1 + 1), _]) = _; rw [show ((i : Int) + 1 + 1) = ((i + 2 : Nat) : Int) by omega]; rfl, HBX.out⟩
     ·
      have f2 : ((d : Int) == 0) = false := by simpa using hd0
      by_cases hd255 : d = 255
      ·
       have f3 : ((d : Int) == 255) = true := by simp; omega
       have HB : Hid (wr.heap.size = wr.heap.size) := rfl
       have D1 := Lib.hid (cells_new_at wr wr.heap.size rfl #[.int .u8 0] 5 ([0].map bV) rfl)
       have D2 : Hid (∀ u ∈ [0].map bV, u.oneCell' = true) := by intro u hu; simp [bV] at hu; subst hu; rfl
       have D3 : Hid (o.length + 1 ≤ maxLen) := by show _ ≤ _; unfold maxLen; omega
       have D4 : Hid ((o.length + 1) * 1 ≤ 140737488355328) := by show _ ≤ _; omega
       have D5 : Hid (w.heap.size ≤ (wr.alloc (.cells #[.int .u8 0] 5)).heap.size) := by show _ ≤ _; simp; omega
       have HZ : Hid ((strN s).getD i 0 = 0) := by show _ = _; rw [← HBT.out]; exact hc0
       have HZ2 : Hid ((strN s).getD (i + 1) 0 = 255) := by show _ = _; rw [← HBT2.out]; exact hd255
       clear hc0 hd0 hd255
       go_wp2_with (at_builtin; refine wpList_append_own _ rfl _ _ 115 rfl w.heap.size 5 i0 (.int .u8 0) 1 1 Tryz.underlying115 hi0 hz0 hz1 hz2 rfl (by decide) _ _ _ rfl (HOWN.out.alloc _) ⟨wr.heap.size, 0, none⟩ 1 1 ([0].map bV) rfl rfl D1.out D2.out D3.out D4.out D5.out ?_)
       intro v' w2 hown' hgrow _
       have BW := Lib.hid (below_own ((HBX.out.alloc hwr (.cells #[.int .u8 0] 5))) hgrow (by simp; omega) (HOWN.out.alloc _) (Nat.le_refl _))
       obtain ⟨oa2, oc2, rfl⟩ := own_form1 hown'
       have OW : Hid (w2.ownsRow w.heap.size 5 1 (.slice oa2 (o ++ [0]).length oc2) (o ++ [0]).length ((o ++ [0]).map bV)) := by
        show w2.ownsRow _ _ _ _ _ _
        rw [List.length_append, List.map_append]
        exact hown'
       clear hown' hgrow
       by_cases hl3 : o.length = 1024
       ·
        have f4 : (1024 : Int) < ((o.length : Nat) : Int) + 1 := by omega
        have HEND : Hid (GTEnd (strN s) [] 0 2) := .inr ⟨rfl, rfl, .inr (.inr ⟨rfl, o, i, HGT.out, hl3, by rw [HLEN.out]; exact hlt, .inr ⟨by rw [HLEN.out]; exact hlt2, HZ2.out⟩⟩)⟩
        clear hl3
        go_wp2_with fail
        go_ret3
        exact ⟨[], 0, 2, HEND.out, by simp, rfl, BW.out⟩
       ·
        have f4 : ¬ (1024 : Int) < ((o.length : Nat) : Int) + 1 := by omega
        have HNX : Hid (GT (strN s) (o ++ [0]) (i + 2)) := .zero HGT.out (by rw [HLEN.out]; exact hlt2) HZ.out HZ2.out (by omega)
        clear hl3
        go_wp2_with fail
        go_roundw
        case rel => exact ⟨o ++ [0], i + 2, oa2, oc2, by go_num, by rw [List.length_append]; rfl, HNX.out, OW.out, BW.out⟩
        case measure => simp [intOf]; omega
      ·
       have f3 : ((d : Int) == 255) = false := by simp; omega
       have HEND : Hid (GTEnd (strN s) [] 0 4) := .inr ⟨rfl, rfl, .inr (.inl ⟨rfl, o, i, HGT.out, by rw [HLEN.out]; exact hlt2, by rw [← HBT.out]; exact hc0, by rw [← HBT2.out]; exact hd0, by rw [← HBT2.out]; exact hd255⟩)⟩
       clear hc0 hd0 hd255
       go_wp2_with fail
       go_ret3
       exact ⟨[], 0, 4, HEND.out, by simp, rfl, HBX.out⟩
   ·
    have f0 : ((c : Int) == 0) = false := by simpa using hc0
    have D1 := Lib.hid (cells_new_at wr wr.heap.size rfl #[.int .u8 (c : Int)] 5 ([c].map bV) rfl)
    have D2 : Hid (∀ u ∈ [c].map bV, u.oneCell' = true) := by intro u hu; simp [bV] at hu; subst hu; rfl
    have D3 : Hid (o.length + 1 ≤ maxLen) := by show _ ≤ _; unfold maxLen; omega
    have D4 : Hid ((o.length + 1) * 1 ≤ 140737488355328) := by show _ ≤ _; omega
    have D5 : Hid (w.heap.size ≤ (wr.alloc (.cells #[.int .u8 (c : Int)] 5)).heap.size) := by show _ ≤ _; simp; omega
    have HZ : Hid ((strN s).getD i 0 ≠ 0) := by show _ ≠ _; rw [← HBT.out]; exact hc0
    clear hc0
    go_wp2_with (at_builtin; refine wpList_append_own _ rfl _ _ 115 rfl w.heap.size 5 i0 (.int .u8 0) 1 1 Tryz.underlying115 hi0 hz0 hz1 hz2 rfl (by decide) _ _ _ rfl (HOWN.out.alloc _) ⟨wr.heap.size, 0, none⟩ 1 1 ([c].map bV) rfl rfl D1.out D2.out D3.out D4.out D5.out ?_)
    intro v' w2 hown' hgrow _
    have BW := Lib.hid (below_own ((HBX.out.alloc hwr (.cells #[.int .u8 (c : Int)] 5))) hgrow (by simp; omega) (HOWN.out.alloc _) (Nat.le_refl _))
    obtain ⟨oa2, oc2, rfl⟩ := own_form1 hown'
    have OW : Hid (w2.ownsRow w.heap.size 5 1 (.slice oa2 (o ++ [c]).length oc2) (o ++ [c]).length ((o ++ [c]).map bV)) := by
     show w2.ownsRow _ _ _ _ _ _
     rw [List.length_append, List.map_append]
     exact hown'
    clear hown' hgrow
    by_cases hl3 : o.length = 1024
    ·
     have f4 : (1024 : Int) < ((o.length : Nat) : Int) + 1 := by omega
     have HEND : Hid (GTEnd (strN s) [] 0 2) := .inr ⟨rfl, rfl, .inr (.inr ⟨rfl, o, i, HGT.out, hl3, by rw [HLEN.out]; exact hlt, .inl HZ.out⟩)⟩
     clear hl3
     go_wp2_with fail
     go_ret3
     exact ⟨[], 0, 2, HEND.out, by simp, rfl, BW.out⟩
    ·
     have f4 : ¬ (1024 : Int) < ((o.length : Nat) : Int) + 1 := by omega
     have HNX : Hid (GT (strN s) (o ++ [c]) (i + 1)) := by
      have h := GT.plain HGT.out (by rw [HLEN.out]; exact hlt) HZ.out (by omega)
      rw [← HBT.out] at h
      exact h
     clear hl3
     go_wp2_with fail
     go_roundw
     case rel => exact ⟨o ++ [c], i + 1, oa2, oc2, by go_num, by rw [List.length_append]; rfl, HNX.out, OW.out, BW.out⟩
     case measure => simp [intOf]; omega
  ·
   have m1 : ¬ (i : Int) < (s.size : Int) := by omega
   have HEND : Hid (GTEnd (strN s) [] 0 3) := .inr ⟨rfl, rfl, .inl ⟨rfl, o, i, HGT.out, .inl (by rw [HLEN.out]; omega)⟩⟩
   go_wp2_with fail
   go_ret3
   exact ⟨[], 0, 3, HEND.out, by simp, rfl, HBX.out⟩
end Go.Proofs.YtbfoonfbhebhfaaGreatDoor
namespace Go.Proofs.YtbfoonfbhebhfaaGreatDoor
open Go.RowKit Plain
def GetIEnd (w0 : World) (s : ByteArray) (e : Ending) (w : World) : Prop :=
 e = .returned (.tuple #[.int .i64 (getI (strN s)).1, .int .i64 (((getI (strN s)).2.1 : Nat) : Int), .int .i64 (((getI (strN s)).2.2 : Nat) : Int)]) ∧ Below w0.heap.size w0 w
theorem below_q {w u : World} {n : Nat} (h : Below (w.drewN n).heap.size (w.drewN n) u) : Below w.heap.size w u := (below_dn (Below.refl w.heap.size w) n).trans h
set_option maxRecDepth 100000 in
set_option maxHeartbeats 8000000 in
theorem getInt_any (s : ByteArray) (w : World) (hs : s.size ≤ 9223372036854775806) : Calls Tryz.prog 136 #[.string s] w (GetIEnd w s) := by
 by_cases h0 : s.size = 0
 ·
  have hr := str_nil_of' h0
  subst hr
  clear h0 hs
  go_enter Tryz.func136, Tryz.ntmps136
  go_wp2_with fail
  go_ret3
  exact ⟨rfl, Below.refl _ _⟩
 ·
  have hp : 0 < s.size := by omega
  have f0 := isEmpty_false' h0
  have hcc := strN_cons s hp
  have hxl : ((strN s).drop 1).length = s.size - 1 := by rw [List.length_drop, strN_length]
  obtain ⟨x, hx⟩ : ∃ x, x = (strN s).drop 1 := ⟨_, rfl⟩
  rw [← hx] at hcc hxl
  obtain ⟨c, hc⟩ : ∃ c, c = (s[0]'hp).toNat := ⟨_, rfl⟩
  rw [← hc] at hcc
  have hpI : (0 : Int) < (s.size : Int) := by omega
  have hkk : (s[0]'hp).toNat = c := hc.symm
  have HC := Lib.hid hcc
  have HX := Lib.hid hx
  have hc256 : c < 256 := by rw [hc]; exact UInt8.toNat_lt _
  have w1' : IntKind.i64.wrap (c : Int) = (c : Int) := wraps_i64 _ (by omega) (by omega)
  have w1'' : IntKind.i64.wrap ((c : Int) - 128) = (c : Int) - 128 := IntWalk.i64_in _ (by omega)
  clear hc hcc hx h0
  by_cases hc128 : c < 128
  ·
   have b1 : decide ((c : Int) < 128) = true := decide_eq_true (by omega)
   obtain ⟨k, hk⟩ : ∃ k, k = 127 - c := ⟨_, rfl⟩
   have w2 : (127 : Int) - (c : Int) = (k : Int) := by omega
   have w3 : IntKind.i64.wrap (127 - (c : Int)) = (k : Int) := by rw [w2]; exact wraps_i64 _ (by omega) (by omega)
   have k0 : (0 : Int) ≤ (k : Int) := Int.natCast_nonneg _
   have hk127 : k ≤ 127 := by omega
   have HGI : Hid (getI (strN s) = getI (c :: x)) := by show _ = _; rw [HC.out]
   have HKD := Lib.hid hk
   have HGK : Hid (getI (c :: x) = if 8 < k then (0, 0, 4) else if x.length < k then (0, 0, 3) else if (0 < k ∧ (flp (x.take k)).getD 0 0 = 0) ∨ 9223372036854775807 < vl (flp (x.take k)) then (0, 0, 4) else (-1 - (vl (flp (x.take k)) : Int), 1 + k, 0)) := by
    show _ = _
    simp only [getI, if_pos hc128, ← HKD.out]
   clear hk
   by_cases h8 : 8 < k
   ·
    have f1 : decide ((8 : Int) < (k : Int)) = true := decide_eq_true (by omega)
    have f2 : (8 : Int) < (k : Int) := by omega
    have HG : Hid (getI (strN s) = (0, 0, 4)) := by show _ = _; rw [HGI.out, HGK.out, if_pos h8]
    go_enter Tryz.func136, Tryz.ntmps136
    go_wp2_with fail
    go_quiet (fail)
    go_wp2_with fail
    go_ret3
    exact ⟨by rw [HG.out]; rfl, below_dn (Below.refl _ _) _⟩
   ·
    have f1 : decide ((8 : Int) < (k : Int)) = false := decide_eq_false (by omega)
    have f2 : ¬ (8 : Int) < (k : Int) := by omega
    by_cases hl : s.size < 1 + k
    ·
     have f3 : decide ((s.size : Int) < 1 + (k : Int)) = true := decide_eq_true (by omega)
     have f4 : (s.size : Int) < 1 + (k : Int) := by omega
     have HG : Hid (getI (strN s) = (0, 0, 3)) := by show _ = _; rw [HGI.out, HGK.out, if_neg h8, if_pos (by omega)]
     go_enter Tryz.func136, Tryz.ntmps136
     go_wp2_with fail
     go_quiet (fail)
     go_wp2_with fail
     go_ret3
     exact ⟨by rw [HG.out]; rfl, below_dn (Below.refl _ _) _⟩
    ·
     have f3 : decide ((s.size : Int) < 1 + (k : Int)) = false := decide_eq_false (by omega)
     have f4 : ¬ (s.size : Int) < 1 + (k : Int) := by omega
     have e1 : (1 + (k : Int)).toNat = 1 + k := by omega
     have hXD : strN (s.extract 1 (1 + k)) = x.take k := by rw [extract_strN', Nat.add_sub_cancel_left, ← HX.out]
     have HT : Hid (∀ u, Calls Tryz.prog 126 #[.string (s.extract 1 (1 + k))] u fun e w' => e = .returned (.string (strOf (flp (x.take k)))) ∧ Below u.heap.size u w') := fun u => by
      have h := turned_any (s.extract 1 (1 + k)) u (by rw [ByteArray.size_extract]; omega)
      unfold TurnEnd at h
      rw [hXD] at h
      exact h
     obtain ⟨D, hD⟩ : ∃ D, D = strOf (flp (x.take k)) := ⟨_, rfl⟩
     have hDN : strN D = flp (x.take k) := by rw [hD, strN_strOf _ (flp_lt _)]
     rw [← hD] at HT
     clear hD
     have hDs : D.size = k := by rw [← strN_length, hDN]; simp [flp]; omega
     have HDN := Lib.hid hDN
     have HDS := Lib.hid hDs
     have HV := Lib.hid fun u => value_any D u (by omega)
     rw [hDN] at HV
     obtain ⟨v, hv⟩ : ∃ v, v = vl (flp (x.take k)) := ⟨_, rfl⟩
     have hv64 : v < 18446744073709551616 := by
      rw [hv, ← hDN]
      have h1 := vl_lt (strN D) (strN_lt D)
      have h2 : 256 ^ (strN D).length ≤ 256 ^ 8 := Nat.pow_le_pow_right (by decide) (by rw [strN_length]; omega)
      exact Nat.lt_of_lt_of_le h1 h2
     rw [← hv] at HV HGK
     clear hv hDN hXD
     by_cases hk0 : 0 < k
     ·
      have g1 : decide ((0 : Int) < (k : Int)) = true := decide_eq_true (by omega)
      have g2 : (0 : Int) < (k : Int) := by omega
      have hd0 : 0 < D.size := by omega
      have hdI : (0 : Int) < (D.size : Int) := by omega
      have hdb := byte_at' D 0 hd0
      rw [HDN.out] at hdb
      obtain ⟨d, hdd⟩ : ∃ d, (D[0]'hd0).toNat = d := ⟨_, rfl⟩
      rw [hdd] at hdb
      have HDB := Lib.hid hdb
      clear hdb hDs
      by_cases hz : d = 0
      ·
       have g3 : ((d : Int) == 0) = true := by simpa using hz
       have HG : Hid (getI (strN s) = (0, 0, 4)) := by show _ = _; rw [HGI.out, HGK.out, if_neg h8, if_neg (by omega), if_pos (.inl ⟨hk0, by rw [← HDB.out]; exact hz⟩)]
       clear hz
       go_enter Tryz.func136, Tryz.ntmps136
       go_wp2_with fail
       go_quiet (fail)
       go_wp2_with fail
       refine (HT.out _).mono ?_
       rintro e w1 ⟨rfl, hb1⟩
       have HB1 := Lib.hid (below_q hb1)
       clear hb1
       go_wp2_with fail
       refine (HV.out _).mono ?_
       rintro e w2 ⟨rfl, rfl⟩
       go_wp2_with fail
       go_ret3
       exact ⟨by rw [HG.out]; rfl, HB1.out⟩
      ·
       have g3 : ((d : Int) == 0) = false := by simpa using hz
       have hz2 : ¬ (0 < k ∧ (flp (x.take k)).getD 0 0 = 0) := fun h => hz (by rw [HDB.out]; exact h.2)
       clear hz
       by_cases hbig : 9223372036854775807 < v
       ·
        have g4 : (9223372036854775807 : Int) < (v : Int) := by omega
        have g5 : decide ((9223372036854775807 : Int) < (v : Int)) = true := decide_eq_true g4
        have HG : Hid (getI (strN s) = (0, 0, 4)) := by show _ = _; rw [HGI.out, HGK.out, if_neg h8, if_neg (by omega), if_pos (.inr hbig)]
        clear hbig hz2
        go_enter Tryz.func136, Tryz.ntmps136
        go_wp2_with fail
        go_quiet (fail)
        go_wp2_with fail
        refine (HT.out _).mono ?_
        rintro e w1 ⟨rfl, hb1⟩
        have HB1 := Lib.hid (below_q hb1)
        clear hb1
        go_wp2_with fail
        refine (HV.out _).mono ?_
        rintro e w2 ⟨rfl, rfl⟩
        go_wp2_with fail
        go_ret3
        exact ⟨by rw [HG.out]; rfl, HB1.out⟩
       ·
        have g4 : ¬ (9223372036854775807 : Int) < (v : Int) := by omega
        have g5 : decide ((9223372036854775807 : Int) < (v : Int)) = false := decide_eq_false g4
        have g6 : (v : Int) ≤ 9223372036854775807 := by omega
        have HG : Hid (getI (strN s) = (-1 - (v : Int), 1 + k, 0)) := by show _ = _; rw [HGI.out, HGK.out, if_neg h8, if_neg (by omega), if_neg (by rintro (h | h); exact hz2 h; exact hbig h)]
        clear hbig hz2
        go_enter Tryz.func136, Tryz.ntmps136
        go_wp2_with fail
        go_quiet (fail)
        go_wp2_with fail
        refine (HT.out _).mono ?_
        rintro e w1 ⟨rfl, hb1⟩
        have HB1 := Lib.hid (below_q hb1)
        clear hb1
        go_wp2_with fail
        refine (HV.out _).mono ?_
        rintro e w2 ⟨rfl, rfl⟩
        go_wp2_with fail
        go_ret3
        exact ⟨by rw [HG.out]; rfl, HB1.out⟩
     ·
      have g1 : decide ((0 : Int) < (k : Int)) = false := decide_eq_false (by omega)
      have g2 : ¬ (0 : Int) < (k : Int) := by omega
      have g7 : ¬ 0 < k := hk0
      have hz2 : ¬ (0 < k ∧ (flp (x.take k)).getD 0 0 = 0) := fun h => hk0 h.1
      clear hk0 hDs
      by_cases hbig : 9223372036854775807 < v
      ·
       have g4 : (9223372036854775807 : Int) < (v : Int) := by omega
       have g5 : decide ((9223372036854775807 : Int) < (v : Int)) = true := decide_eq_true g4
       have HG : Hid (getI (strN s) = (0, 0, 4)) := by show _ = _; rw [HGI.out, HGK.out, if_neg h8, if_neg (by omega), if_pos (.inr hbig)]
       clear hbig hz2
       go_enter Tryz.func136, Tryz.ntmps136
       go_wp2_with fail
       go_quiet (fail)
       go_wp2_with fail
       refine (HT.out _).mono ?_
       rintro e w1 ⟨rfl, hb1⟩
       have HB1 := Lib.hid (below_q hb1)
       clear hb1
       go_wp2_with fail
       refine (HV.out _).mono ?_
       rintro e w2 ⟨rfl, rfl⟩
       go_wp2_with fail
       go_ret3
       exact ⟨by rw [HG.out]; rfl, HB1.out⟩
      ·
       have g4 : ¬ (9223372036854775807 : Int) < (v : Int) := by omega
       have g5 : decide ((9223372036854775807 : Int) < (v : Int)) = false := decide_eq_false g4
       have g6 : (v : Int) ≤ 9223372036854775807 := by omega
       have HG : Hid (getI (strN s) = (-1 - (v : Int), 1 + k, 0)) := by show _ = _; rw [HGI.out, HGK.out, if_neg h8, if_neg (by omega), if_neg (by rintro (h | h); exact hz2 h; exact hbig h)]
       clear hbig hz2
       go_enter Tryz.func136, Tryz.ntmps136
       go_wp2_with fail
       go_quiet (fail)
       go_wp2_with fail
       refine (HT.out _).mono ?_
       rintro e w1 ⟨rfl, hb1⟩
       have HB1 := Lib.hid (below_q hb1)
       clear hb1
       go_wp2_with fail
       refine (HV.out _).mono ?_
       rintro e w2 ⟨rfl, rfl⟩
       go_wp2_with fail
       go_ret3
       exact ⟨by rw [HG.out]; rfl, HB1.out⟩
  ·
   have b1 : decide ((c : Int) < 128) = false := decide_eq_false (by omega)
   obtain ⟨k, hk⟩ : ∃ k, k = c - 128 := ⟨_, rfl⟩
   have w2 : (c : Int) - 128 = (k : Int) := by omega
   have k0 : (0 : Int) ≤ (k : Int) := Int.natCast_nonneg _
   have hk127 : k ≤ 127 := by omega
   have HGI : Hid (getI (strN s) = getI (c :: x)) := by show _ = _; rw [HC.out]
   have HKD := Lib.hid hk
   have HGK : Hid (getI (c :: x) = if 8 < k then (0, 0, 4) else if x.length < k then (0, 0, 3) else if (0 < k ∧ (x.take k).getD 0 0 = 0) ∨ 9223372036854775807 < vl (x.take k) then (0, 0, 4) else ((vl (x.take k) : Int), 1 + k, 0)) := by
    show _ = _
    simp only [getI, if_neg hc128, ← HKD.out]
   clear hk
   by_cases h8 : 8 < k
   ·
    have f1 : decide ((8 : Int) < (k : Int)) = true := decide_eq_true (by omega)
    have f2 : (8 : Int) < (k : Int) := by omega
    have HG : Hid (getI (strN s) = (0, 0, 4)) := by show _ = _; rw [HGI.out, HGK.out, if_pos h8]
    go_enter Tryz.func136, Tryz.ntmps136
    go_wp2_with fail
    go_quiet (fail)
    go_wp2_with fail
    go_ret3
    exact ⟨by rw [HG.out]; rfl, below_dn (Below.refl _ _) _⟩
   ·
    have f1 : decide ((8 : Int) < (k : Int)) = false := decide_eq_false (by omega)
    have f2 : ¬ (8 : Int) < (k : Int) := by omega
    by_cases hl : s.size < 1 + k
    ·
     have f3 : decide ((s.size : Int) < 1 + (k : Int)) = true := decide_eq_true (by omega)
     have f4 : (s.size : Int) < 1 + (k : Int) := by omega
     have HG : Hid (getI (strN s) = (0, 0, 3)) := by show _ = _; rw [HGI.out, HGK.out, if_neg h8, if_pos (by omega)]
     go_enter Tryz.func136, Tryz.ntmps136
     go_wp2_with fail
     go_quiet (fail)
     go_wp2_with fail
     go_ret3
     exact ⟨by rw [HG.out]; rfl, below_dn (Below.refl _ _) _⟩
    ·
     have f3 : decide ((s.size : Int) < 1 + (k : Int)) = false := decide_eq_false (by omega)
     have f4 : ¬ (s.size : Int) < 1 + (k : Int) := by omega
     have e1 : (1 + (k : Int)).toNat = 1 + k := by omega
     have hXD : strN (s.extract 1 (1 + k)) = x.take k := by rw [extract_strN', Nat.add_sub_cancel_left, ← HX.out]
     have hDs0 : (s.extract 1 (1 + k)).size = k := by rw [ByteArray.size_extract]; omega
     obtain ⟨D, hD⟩ : ∃ D, D = s.extract 1 (1 + k) := ⟨_, rfl⟩
     have hDN : strN D = x.take k := by rw [hD]; exact hXD
     have hDs : D.size = k := by rw [hD]; exact hDs0
     have HDD := Lib.hid hD
     clear hD
     have HDN := Lib.hid hDN
     have HDS := Lib.hid hDs
     have HV := Lib.hid fun u => value_any D u (by omega)
     rw [hDN] at HV
     obtain ⟨v, hv⟩ : ∃ v, v = vl (x.take k) := ⟨_, rfl⟩
     have hv64 : v < 18446744073709551616 := by
      rw [hv, ← hDN]
      have h1 := vl_lt (strN D) (strN_lt D)
      have h2 : 256 ^ (strN D).length ≤ 256 ^ 8 := Nat.pow_le_pow_right (by decide) (by rw [strN_length]; omega)
      exact Nat.lt_of_lt_of_le h1 h2
     rw [← hv] at HV HGK
     clear hv hDN hXD hDs0
     by_cases hk0 : 0 < k
     ·
      have g1 : decide ((0 : Int) < (k : Int)) = true := decide_eq_true (by omega)
      have g2 : (0 : Int) < (k : Int) := by omega
      have hd0 : 0 < D.size := by omega
      have hdI : (0 : Int) < (D.size : Int) := by omega
      have hdb := byte_at' D 0 hd0
      rw [HDN.out] at hdb
      obtain ⟨d, hdd⟩ : ∃ d, (D[0]'hd0).toNat = d := ⟨_, rfl⟩
      rw [hdd] at hdb
      have HDB := Lib.hid hdb
      clear hdb hDs
      by_cases hz : d = 0
      ·
       have g3 : ((d : Int) == 0) = true := by simpa using hz
       have HG : Hid (getI (strN s) = (0, 0, 4)) := by show _ = _; rw [HGI.out, HGK.out, if_neg h8, if_neg (by omega), if_pos (.inl ⟨hk0, by rw [← HDB.out]; exact hz⟩)]
       clear hz
       go_enter Tryz.func136, Tryz.ntmps136
       go_wp2_with fail
       go_quiet (fail)
       go_wp2_with fail
       rw [← HDD.out]
       refine (HV.out _).mono ?_
       rintro e w2 ⟨rfl, rfl⟩
       go_wp2_with fail
       go_ret3
       exact ⟨by rw [HG.out]; rfl, below_dn (Below.refl _ _) _⟩
      ·
       have g3 : ((d : Int) == 0) = false := by simpa using hz
       have hz2 : ¬ (0 < k ∧ (x.take k).getD 0 0 = 0) := fun h => hz (by rw [HDB.out]; exact h.2)
       clear hz
       by_cases hbig : 9223372036854775807 < v
       ·
        have g4 : (9223372036854775807 : Int) < (v : Int) := by omega
        have g5 : decide ((9223372036854775807 : Int) < (v : Int)) = true := decide_eq_true g4
        have HG : Hid (getI (strN s) = (0, 0, 4)) := by show _ = _; rw [HGI.out, HGK.out, if_neg h8, if_neg (by omega), if_pos (.inr hbig)]
        clear hbig hz2
        go_enter Tryz.func136, Tryz.ntmps136
        go_wp2_with fail
        go_quiet (fail)
        go_wp2_with fail
        rw [← HDD.out]
        refine (HV.out _).mono ?_
        rintro e w2 ⟨rfl, rfl⟩
        go_wp2_with fail
        go_ret3
        exact ⟨by rw [HG.out]; rfl, below_dn (Below.refl _ _) _⟩
       ·
        have g4 : ¬ (9223372036854775807 : Int) < (v : Int) := by omega
        have g5 : decide ((9223372036854775807 : Int) < (v : Int)) = false := decide_eq_false g4
        have g6 : (v : Int) ≤ 9223372036854775807 := by omega
        have HG : Hid (getI (strN s) = ((v : Int), 1 + k, 0)) := by show _ = _; rw [HGI.out, HGK.out, if_neg h8, if_neg (by omega), if_neg (by rintro (h | h); exact hz2 h; exact hbig h)]
        clear hbig hz2
        go_enter Tryz.func136, Tryz.ntmps136
        go_wp2_with fail
        go_quiet (fail)
        go_wp2_with fail
        rw [← HDD.out]
        refine (HV.out _).mono ?_
        rintro e w2 ⟨rfl, rfl⟩
        go_wp2_with fail
        go_ret3
        exact ⟨by rw [HG.out]; rfl, below_dn (Below.refl _ _) _⟩
     ·
      have g1 : decide ((0 : Int) < (k : Int)) = false := decide_eq_false (by omega)
      have g2 : ¬ (0 : Int) < (k : Int) := by omega
      have g7 : ¬ 0 < k := hk0
      have hz2 : ¬ (0 < k ∧ (x.take k).getD 0 0 = 0) := fun h => hk0 h.1
      clear hk0 hDs
      by_cases hbig : 9223372036854775807 < v
      ·
       have g4 : (9223372036854775807 : Int) < (v : Int) := by omega
       have g5 : decide ((9223372036854775807 : Int) < (v : Int)) = true := decide_eq_true g4
       have HG : Hid (getI (strN s) = (0, 0, 4)) := by show _ = _; rw [HGI.out, HGK.out, if_neg h8, if_neg (by omega), if_pos (.inr hbig)]
       clear hbig hz2
       go_enter Tryz.func136, Tryz.ntmps136
       go_wp2_with fail
       go_quiet (fail)
       go_wp2_with fail
       rw [← HDD.out]
       refine (HV.out _).mono ?_
       rintro e w2 ⟨rfl, rfl⟩
       go_wp2_with fail
       go_ret3
       exact ⟨by rw [HG.out]; rfl, below_dn (Below.refl _ _) _⟩
      ·
       have g4 : ¬ (9223372036854775807 : Int) < (v : Int) := by omega
       have g5 : decide ((9223372036854775807 : Int) < (v : Int)) = false := decide_eq_false g4
       have g6 : (v : Int) ≤ 9223372036854775807 := by omega
       have HG : Hid (getI (strN s) = ((v : Int), 1 + k, 0)) := by show _ = _; rw [HGI.out, HGK.out, if_neg h8, if_neg (by omega), if_neg (by rintro (h | h); exact hz2 h; exact hbig h)]
       clear hbig hz2
       go_enter Tryz.func136, Tryz.ntmps136
       go_wp2_with fail
       go_quiet (fail)
       go_wp2_with fail
       rw [← HDD.out]
       refine (HV.out _).mono ?_
       rintro e w2 ⟨rfl, rfl⟩
       go_wp2_with fail
       go_ret3
       exact ⟨by rw [HG.out]; rfl, below_dn (Below.refl _ _) _⟩
end Go.Proofs.YtbfoonfbhebhfaaGreatDoor
