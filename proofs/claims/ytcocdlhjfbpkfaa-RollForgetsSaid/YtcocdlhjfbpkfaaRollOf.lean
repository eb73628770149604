/- The walk of roll.Of: the checksum of the last bytes of a string; it writes nothing that was there. -/
import Derived.Test.YtcocdlhjfbpkfaaRollW
import Derived.Test.YtcocdlhjfbpkfaaRollSum
import Derived.Test.YtcocdlhjfbpkfaaMem
namespace Go.Proofs.Ytcocdlhjfbpkfaa
open Go.RowKit Plain
set_option maxRecDepth 100000 in
theorem shift_any (n : Nat) (w : World) (hn : n < 4294967296) :
    Calls Try.prog 29 #[.int .u32 n] w fun e w' => e = .returned (.int .u32 (shf n)) ∧ w = w' := by
  have hs : shf n = red (n * 256) := by unfold shf; rw [Nat.shiftLeft_eq]
  have H := Lib.hid hs
  clear hs
  go_enter Try.func29, Try.ntmps29
  go_wp2_with (go_at_call 31; refine (reduce_int _ _ (by omega) (by omega)).mono ?_; rintro e w' ⟨rfl, rfl⟩)
  go_ret
  refine ⟨ret_int ?_, rfl⟩
  rw [H.out]
  congr 2
theorem shift_int (n : Int) (w : World) (h0 : 0 ≤ n) (hn : n < 4294967296) :
    Calls Try.prog 29 #[.int .u32 n] w fun e w' => e = .returned (.int .u32 (shf n.toNat)) ∧ w = w' := by
  obtain ⟨A, rfl⟩ := Int.eq_ofNat_of_zero_le h0
  exact shift_any A w (by omega)
theorem rfold_take (l : List Nat) (k : Nat) (h : k < l.length) : rfold 0 (l.take (k + 1)) = shf (rfold 0 (l.take k)) ^^^ l.getD k 0 := by
  rw [List.take_succ_eq_append_getElem h, rfold_snoc, List.getD_eq_getElem?_getD, List.getElem?_eq_getElem h]
  rfl
set_option maxRecDepth 100000 in
theorem of_any (s : ByteArray) (w : World) (hs : s.size ≤ maxLen) :
    Calls Try.prog 14 #[.string s] w fun e w' => e = .returned (.int .u32 (rof (strN s))) ∧ Below w.heap.size w w' := by
  unfold maxLen at hs
  have hconv := fun (wx : World) (x : ByteArray) => Lib.run_convert_string_bytes (P := Try.prog) wx 9 22 5 x Try.underlying9 Try.underlying22 Try.underlying5
  have hm : (max 0 ((s.size : Int) - 16)).toNat = s.size - 16 := by omega
  have hr : rfold 0 (strN (s.extract (s.size - 16) s.size)) = rof (strN s) := by
    rw [extract_strN, rof, strN_length]
  have hlen : (strN (s.extract (s.size - 16) s.size)).length = s.size - (s.size - 16) := by
    rw [extract_strN, List.length_drop, strN_length]
  have hsz : (s.extract (s.size - 16) s.size).size = s.size - (s.size - 16) := by rw [← strN_length, hlen]
  have hc := bytesWorld_cellN w 5 (s.extract (s.size - 16) s.size)
  rw [hsz] at hc
  have HB := Lib.hid (bytesWorld_below (w := w) 5 (s.extract (s.size - 16) s.size))
  have HL := Lib.hid (fun k => rfold_lt 0 ((strN (s.extract (s.size - 16) s.size)).take k) (by decide) fun b hb => strN_lt _ b (List.mem_of_mem_take hb))
  have HR := Lib.hid hr
  have HN := Lib.hid hlen
  have HC := Lib.hid hc
  have HT := Lib.hid (strN_lt (s.extract (s.size - 16) s.size))
  clear hr hlen hc hsz
  go_enter Try.func14, Try.ntmps14
  go_wp2
  clear hm hconv
  generalize hw1 : Lib.bytesWorld w 5 (s.extract (s.size - 16) s.size) = w1 at *
  clear hw1
  generalize strN (s.extract (s.size - 16) s.size) = l at *
  go_loop [3, 14] (fun n i => ∃ k : Nat, k ≤ s.size - (s.size - 16) ∧ n = .int .u32 (rfold 0 (l.take k)) ∧ i = .int .i64 k) (fun _ i => (s.size - (s.size - 16)) - (intOf i).toNat)
  case atStart => exact ⟨0, Nat.zero_le _, rfl, rfl⟩
  case round =>
    obtain ⟨k, hk, rfl, rfl⟩ := hrel
    by_cases hlt : k < s.size - (s.size - 16)
    · have hcell := HC.out k hlt
      have hstep := rfold_take l k (by rw [HN.out]; exact hlt)
      have HS := Lib.hid hstep
      have hn : rfold 0 (l.take k) < 2147483648 := HL.out k
      have hb : l.getD k 0 < 256 := HT.out _ (by rw [List.getD_eq_getElem?_getD, List.getElem?_eq_getElem (by rw [HN.out]; exact hlt)]; exact List.getElem_mem _)
      have hsl := shf_lt (rfold 0 (l.take k)) (by omega)
      have hx := u32_xor_nat (shf (rfold 0 (l.take k))) (l.getD k 0) (by omega) (by omega)
      clear hstep
      generalize l.getD k 0 = b at *
      generalize rfold 0 (l.take k) = n at *
      go_wp2_with (go_at_call 29; refine (shift_int _ _ (by omega) (by omega)).mono ?_; rintro e w' ⟨rfl, rfl⟩)
      go_round
      case rel => exact ⟨k + 1, by omega, by rw [HS.out], by go_num⟩
      case measure => simp [intOf]; omega
    · obtain rfl : k = s.size - (s.size - 16) := by omega
      go_wp2
      go_ret
      exact ⟨ret_int (by rw [← HR.out, List.take_of_length_le (by rw [HN.out]; exact Nat.le_refl _)]), HB.out⟩
end Go.Proofs.Ytcocdlhjfbpkfaa
