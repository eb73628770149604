/- The walk of num.GetText. -/
import Derived.Test.YtpfmfigommmjiaaDoorNumText
namespace Go.Proofs.YtpfmfigommmjiaaDoor
open Go.RowKit Plain
def GetTEnd (w0 : World) (s : ByteArray) (e : Ending) (w : World) : Prop :=
  ∃ (t : List Nat) (k c : Nat), GTEnd (strN s) t k c ∧ (∀ x ∈ t, x < 256) ∧ e = .returned (.tuple #[.string (strOf t), .int .i64 (k : Int), .int .i64 (c : Int)]) ∧ Below w0.heap.size w0 w
theorem GT.lt {s o : List Nat} {i : Nat} (hs : ∀ c ∈ s, c < 256) (h : GT s o i) : ∀ x ∈ o, x < 256 := by
  induction h with
  | start => simp
  | @plain o i _ h1 h2 h3 ih =>
    intro x hx
    rcases List.mem_append.1 hx with hx | hx
    · exact ih x hx
    · simp only [List.mem_singleton] at hx
      rw [hx, List.getD_eq_getElem?_getD, List.getElem?_eq_getElem h1]
      exact hs _ (List.getElem_mem h1)
  | @zero o i _ h1 h2 h3 h4 ih =>
    intro x hx
    rcases List.mem_append.1 hx with hx | hx
    · exact ih x hx
    · simp at hx; omega
theorem own_form1 {w : World} {base : Nat} {e : TypeId} {k : Nat} {v : Value} {n : Nat} {xs : List Value} (h : w.ownsRow base e k v n xs) : ∃ a c, v = .slice a n c := by
  rcases h.2 with ⟨hv, h3⟩ | ⟨g, cap, cur, hv, _⟩
  · exact ⟨none, 0, by rw [hv, h3]⟩
  · exact ⟨_, _, hv⟩
set_option maxRecDepth 100000 in
set_option maxHeartbeats 2000000 in
theorem getText_any (s : ByteArray) (w : World) (hs : s.size ≤ 9223372036854775806) : Calls Tryd.prog 59 #[.string s] w (GetTEnd w s) := by
  obtain ⟨i0, hi0, hz0, hz1, hz2⟩ := info_parts info_byte
  have hlen : (strN s).length = s.size := strN_length s
  have HLEN := Lib.hid hlen
  clear hlen
  have n1 : (s.size : Int) ≤ 9223372036854775806 := by omega
  go_enter Tryd.func59, Tryd.ntmps59
  go_wp2_with fail
  go_loopw [5, 6] (fun ov iv wr => ∃ (o : List Nat) (i : Nat) (oa : Option Addr) (oc : Nat), iv = .int .i64 (i : Int) ∧ ov = .slice oa o.length oc ∧ GT (strN s) o i ∧ wr.ownsRow w.heap.size 5 1 (.slice oa o.length oc) o.length (o.map bV) ∧ Below w.heap.size w wr) (fun _ iv _ => s.size - (intOf iv).toNat)
  case atStart => exact ⟨[], 0, none, 0, rfl, rfl, .start, World.ownsRow_nil _ _ _ _, Below.refl _ _⟩
  case round =>
    obtain ⟨o, i, oa, oc, rfl, rfl, hgt, hown, hbx⟩ := hrel
    have HGT := Lib.hid hgt
    have HOWN := Lib.hid hown
    have HBX := Lib.hid hbx
    have hgt1 := hgt.at
    have hi1 : i ≤ s.size := by rw [← HLEN.out]; exact hgt1.2.1
    have ho1 : o.length ≤ 1024 := hgt1.2.2.1
    have hwr := hbx.size
    clear hgt hown hbx hgt1
    have HOLT := Lib.hid (GT.lt (strN_lt s) HGT.out)
    by_cases hlt : i < s.size
    · have ii : (i : Int) < (s.size : Int) := by omega
      have i00 : (0 : Int) ≤ (i : Int) := Int.natCast_nonneg _
      have hbt := byte_at' s i hlt
      obtain ⟨c, hc⟩ : ∃ c, (s[i]'hlt).toNat = c := ⟨_, rfl⟩
      rw [hc] at hbt
      have HBT := Lib.hid hbt
      have hc256 : c < 256 := by rw [← hc]; exact UInt8.toNat_lt _
      clear hbt
      by_cases hc0 : c = 0
      · have f0 : ((c : Int) == 0) = true := by simpa using hc0
        by_cases hl2 : i + 1 = s.size
        · have f1 : ((i : Int) + 1 == (s.size : Int)) = true := beq_iff_eq.2 (by omega)
          have HEND : Hid (GTEnd (strN s) [] 0 3) := .inr ⟨rfl, rfl, .inl ⟨rfl, o, i, HGT.out, .inr ⟨by rw [HLEN.out]; exact hl2, by rw [← HBT.out]; exact hc0⟩⟩⟩
          clear hc0 hl2
          go_wp2_with fail
          go_ret3
          exact ⟨[], 0, 3, HEND.out, by simp, rfl, HBX.out⟩
        · have f1 : ((i : Int) + 1 == (s.size : Int)) = false := beq_eq_false_iff_ne.2 (by omega)
          have hlt2 : i + 1 < s.size := by omega
          have ii2 : (i : Int) + 1 < (s.size : Int) := by omega
          have i01 : (0 : Int) ≤ (i : Int) + 1 := by omega
          have e1 : ((i : Int) + 1).toNat = i + 1 := by omega
          have hbt2 := byte_at' s (i + 1) hlt2
          obtain ⟨d, hd⟩ : ∃ d, (s[i + 1]'hlt2).toNat = d := ⟨_, rfl⟩
          rw [hd] at hbt2
          have HBT2 := Lib.hid hbt2
          have hd256 : d < 256 := by rw [← hd]; exact UInt8.toNat_lt _
          clear hbt2 hl2
          by_cases hd0 : d = 0
          · have f2 : ((d : Int) == 0) = true := by simpa using hd0
            have HEND : Hid (GTEnd (strN s) o (i + 2) 0) := .inl ⟨rfl, i, HGT.out, rfl, by rw [HLEN.out]; exact hlt2, by rw [← HBT.out]; exact hc0, by rw [← HBT2.out]; exact hd0⟩
            have hcv := run_string_own (P := Tryd.prog) wr 53 5 9 Tryd.underlying53 Tryd.underlying5 Tryd.underlying9 HOLT.out HOWN.out
            clear hc0 hd0
            go_wp2_with fail
            go_ret3
            exact ⟨o, i + 2, 0, HEND.out, HOLT.out, by show Ending.returned (.tuple #[_, .int .i64 ((i : Int) + 1 + 1), _]) = _; rw [show ((i : Int) + 1 + 1) = ((i + 2 : Nat) : Int) by omega]; rfl, HBX.out⟩
          · have f2 : ((d : Int) == 0) = false := by simpa using hd0
            by_cases hd255 : d = 255
            · have f3 : ((d : Int) == 255) = true := by simp; omega
              have HB : Hid (wr.heap.size = wr.heap.size) := rfl
              have D1 := Lib.hid (cells_new_at wr wr.heap.size rfl #[.int .u8 0] 5 ([0].map bV) rfl)
              have D2 : Hid (∀ u ∈ [0].map bV, u.oneCell' = true) := by intro u hu; simp [bV] at hu; subst hu; rfl
              have D3 : Hid (o.length + 1 ≤ maxLen) := by show _ ≤ _; unfold maxLen; omega
              have D4 : Hid ((o.length + 1) * 1 ≤ 140737488355328) := by show _ ≤ _; omega
              have D5 : Hid (w.heap.size ≤ (wr.alloc (.cells #[.int .u8 0] 5)).heap.size) := by show _ ≤ _; simp; omega
              have HZ : Hid ((strN s).getD i 0 = 0) := by show _ = _; rw [← HBT.out]; exact hc0
              have HZ2 : Hid ((strN s).getD (i + 1) 0 = 255) := by show _ = _; rw [← HBT2.out]; exact hd255
              clear hc0 hd0 hd255
              go_wp2_with (at_builtin; refine wpList_append_own _ rfl _ _ 53 rfl w.heap.size 5 i0 (.int .u8 0) 1 1 Tryd.underlying53 hi0 hz0 hz1 hz2 rfl (by decide) _ _ _ rfl (HOWN.out.alloc _) ⟨wr.heap.size, 0, none⟩ 1 1 ([0].map bV) rfl rfl D1.out D2.out D3.out D4.out D5.out ?_)
              intro v' w2 hown' hgrow _
              have BW := Lib.hid (below_own ((HBX.out.alloc hwr (.cells #[.int .u8 0] 5))) hgrow (by simp; omega) (HOWN.out.alloc _) (Nat.le_refl _))
              obtain ⟨oa2, oc2, rfl⟩ := own_form1 hown'
              have OW : Hid (w2.ownsRow w.heap.size 5 1 (.slice oa2 (o ++ [0]).length oc2) (o ++ [0]).length ((o ++ [0]).map bV)) := by
                show w2.ownsRow _ _ _ _ _ _
                rw [List.length_append, List.map_append]
                exact hown'
              clear hown' hgrow
              by_cases hl3 : o.length = 1024
              · have f4 : (1024 : Int) < ((o.length : Nat) : Int) + 1 := by omega
                have HEND : Hid (GTEnd (strN s) [] 0 2) := .inr ⟨rfl, rfl, .inr (.inr ⟨rfl, o, i, HGT.out, hl3, by rw [HLEN.out]; exact hlt, .inr ⟨by rw [HLEN.out]; exact hlt2, HZ2.out⟩⟩)⟩
                clear hl3
                go_wp2_with fail
                go_ret3
                exact ⟨[], 0, 2, HEND.out, by simp, rfl, BW.out⟩
              · have f4 : ¬ (1024 : Int) < ((o.length : Nat) : Int) + 1 := by omega
                have HNX : Hid (GT (strN s) (o ++ [0]) (i + 2)) := .zero HGT.out (by rw [HLEN.out]; exact hlt2) HZ.out HZ2.out (by omega)
                clear hl3
                go_wp2_with fail
                go_roundw
                case rel => exact ⟨o ++ [0], i + 2, oa2, oc2, by go_num, by rw [List.length_append]; rfl, HNX.out, OW.out, BW.out⟩
                case measure => simp [intOf]; omega
            · have f3 : ((d : Int) == 255) = false := by simp; omega
              have HEND : Hid (GTEnd (strN s) [] 0 4) := .inr ⟨rfl, rfl, .inr (.inl ⟨rfl, o, i, HGT.out, by rw [HLEN.out]; exact hlt2, by rw [← HBT.out]; exact hc0, by rw [← HBT2.out]; exact hd0, by rw [← HBT2.out]; exact hd255⟩)⟩
              clear hc0 hd0 hd255
              go_wp2_with fail
              go_ret3
              exact ⟨[], 0, 4, HEND.out, by simp, rfl, HBX.out⟩
      · have f0 : ((c : Int) == 0) = false := by simpa using hc0
        have D1 := Lib.hid (cells_new_at wr wr.heap.size rfl #[.int .u8 (c : Int)] 5 ([c].map bV) rfl)
        have D2 : Hid (∀ u ∈ [c].map bV, u.oneCell' = true) := by intro u hu; simp [bV] at hu; subst hu; rfl
        have D3 : Hid (o.length + 1 ≤ maxLen) := by show _ ≤ _; unfold maxLen; omega
        have D4 : Hid ((o.length + 1) * 1 ≤ 140737488355328) := by show _ ≤ _; omega
        have D5 : Hid (w.heap.size ≤ (wr.alloc (.cells #[.int .u8 (c : Int)] 5)).heap.size) := by show _ ≤ _; simp; omega
        have HZ : Hid ((strN s).getD i 0 ≠ 0) := by show _ ≠ _; rw [← HBT.out]; exact hc0
        clear hc0
        go_wp2_with (at_builtin; refine wpList_append_own _ rfl _ _ 53 rfl w.heap.size 5 i0 (.int .u8 0) 1 1 Tryd.underlying53 hi0 hz0 hz1 hz2 rfl (by decide) _ _ _ rfl (HOWN.out.alloc _) ⟨wr.heap.size, 0, none⟩ 1 1 ([c].map bV) rfl rfl D1.out D2.out D3.out D4.out D5.out ?_)
        intro v' w2 hown' hgrow _
        have BW := Lib.hid (below_own ((HBX.out.alloc hwr (.cells #[.int .u8 (c : Int)] 5))) hgrow (by simp; omega) (HOWN.out.alloc _) (Nat.le_refl _))
        obtain ⟨oa2, oc2, rfl⟩ := own_form1 hown'
        have OW : Hid (w2.ownsRow w.heap.size 5 1 (.slice oa2 (o ++ [c]).length oc2) (o ++ [c]).length ((o ++ [c]).map bV)) := by
          show w2.ownsRow _ _ _ _ _ _
          rw [List.length_append, List.map_append]
          exact hown'
        clear hown' hgrow
        by_cases hl3 : o.length = 1024
        · have f4 : (1024 : Int) < ((o.length : Nat) : Int) + 1 := by omega
          have HEND : Hid (GTEnd (strN s) [] 0 2) := .inr ⟨rfl, rfl, .inr (.inr ⟨rfl, o, i, HGT.out, hl3, by rw [HLEN.out]; exact hlt, .inl HZ.out⟩)⟩
          clear hl3
          go_wp2_with fail
          go_ret3
          exact ⟨[], 0, 2, HEND.out, by simp, rfl, BW.out⟩
        · have f4 : ¬ (1024 : Int) < ((o.length : Nat) : Int) + 1 := by omega
          have HNX : Hid (GT (strN s) (o ++ [c]) (i + 1)) := by
            have h := GT.plain HGT.out (by rw [HLEN.out]; exact hlt) HZ.out (by omega)
            rw [← HBT.out] at h
            exact h
          clear hl3
          go_wp2_with fail
          go_roundw
          case rel => exact ⟨o ++ [c], i + 1, oa2, oc2, by go_num, by rw [List.length_append]; rfl, HNX.out, OW.out, BW.out⟩
          case measure => simp [intOf]; omega
    · have m1 : ¬ (i : Int) < (s.size : Int) := by omega
      have HEND : Hid (GTEnd (strN s) [] 0 3) := .inr ⟨rfl, rfl, .inl ⟨rfl, o, i, HGT.out, .inl (by rw [HLEN.out]; omega)⟩⟩
      go_wp2_with fail
      go_ret3
      exact ⟨[], 0, 3, HEND.out, by simp, rfl, HBX.out⟩
end Go.Proofs.YtpfmfigommmjiaaDoor
