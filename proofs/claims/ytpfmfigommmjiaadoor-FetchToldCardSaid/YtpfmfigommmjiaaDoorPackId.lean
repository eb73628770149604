/- Pack: kinds, and the identifier of a blob. -/
import Derived.Test.YtpfmfigommmjiaaDoorEqBytes
import Derived.Test.YtpfmfigommmjiaaDoorNumW
import Derived.Test.YtpfmfigommmjiaaDoorRowKit
import Derived.Test.YtpfmfigommmjiaaDoorNumOut
import Derived.Test.YtpfmfigommmjiaaDoorPressNum
namespace Go.Proofs.YtpfmfigommmjiaaDoor
open Go.RowKit Plain
set_option linter.unusedVariables false
set_option linter.unusedSimpArgs false
abbrev Bl := Int × ByteArray
def blC (b : Bl) : List Value := [.int .i64 b.1, .string b.2]
theorem blC_length (b : Bl) : (blC b).length = 2 := rfl
theorem blC_one (b : Bl) : ∀ u ∈ blC b, u.oneCell' = true := by intro u hu; simp only [blC, List.mem_cons, List.not_mem_nil, or_false] at hu; rcases hu with rfl | rfl <;> rfl
/-- what pack.ID says of a blob -/
def pcode (b : Bl) : Nat := if 1 ≤ b.1 ∧ b.1 ≤ 3 then (if 4096 < b.2.size then 2 else 0) else 5
def z8 : List Nat := [0, 0, 0, 0, 0, 0, 0, 0]
def pidL (b : Bl) : List Nat := if pcode b = 0 then be8 (hsum (b.1.toNat :: strN b.2)) else z8
theorem pcode_kind {b : Bl} (h : ¬ (1 ≤ b.1 ∧ b.1 ≤ 3)) : pcode b = 5 := by unfold pcode; rw [if_neg h]
theorem pcode_large {b : Bl} (h : 1 ≤ b.1 ∧ b.1 ≤ 3) (h1 : 4096 < b.2.size) : pcode b = 2 := by unfold pcode; rw [if_pos h, if_pos h1]
theorem pcode_ok {b : Bl} (h : 1 ≤ b.1 ∧ b.1 ≤ 3) (h1 : ¬ 4096 < b.2.size) : pcode b = 0 := by unfold pcode; rw [if_pos h, if_neg h1]
theorem pcode_zero {b : Bl} (h : pcode b = 0) : (1 ≤ b.1 ∧ b.1 ≤ 3) ∧ b.2.size ≤ 4096 := by
  unfold pcode at h
  split at h
  · rename_i h1
    split at h
    · cases h
    · exact ⟨h1, by omega⟩
  · cases h
theorem pidL_bad {b : Bl} (h : pcode b ≠ 0) : pidL b = z8 := by unfold pidL; rw [if_neg h]
theorem pidL_ok {b : Bl} (h : pcode b = 0) : pidL b = be8 (hsum (b.1.toNat :: strN b.2)) := by unfold pidL; rw [if_pos h]
theorem pidL_length (b : Bl) : (pidL b).length = 8 := by unfold pidL; split <;> rfl
theorem pidL_lt (b : Bl) : ∀ c ∈ pidL b, c < 256 := by
  unfold pidL
  split
  · exact be8_lt _
  · intro c hc; simp only [z8, List.mem_cons, List.not_mem_nil, or_false] at hc; omega
set_option maxRecDepth 100000 in
theorem pkn_any (k : Int) (w : World) : Calls Tryd.prog 23 #[.int .i64 k] w fun e w' => e = .returned (.bool (decide (1 ≤ k ∧ k ≤ 3))) ∧ w' = w := by
  by_cases h1 : 1 ≤ k
  · by_cases h2 : k ≤ 3
    · have hd : decide (1 ≤ k ∧ k ≤ 3) = true := decide_eq_true ⟨h1, h2⟩
      rw [hd]
      clear hd
      go_enter Tryd.func23, Tryd.ntmps23
      go_wp2_with fail
      go_ret
      exact ⟨rfl, rfl⟩
    · have hd : decide (1 ≤ k ∧ k ≤ 3) = false := decide_eq_false (fun h => h2 h.2)
      rw [hd]
      clear hd
      go_enter Tryd.func23, Tryd.ntmps23
      go_wp2_with fail
      go_ret
      exact ⟨rfl, rfl⟩
  · have hd : decide (1 ≤ k ∧ k ≤ 3) = false := decide_eq_false (fun h => h1 h.1)
    rw [hd]
    clear hd
    go_enter Tryd.func23, Tryd.ntmps23
    go_wp2_with fail
    go_ret
    exact ⟨rfl, rfl⟩
def PidEnd (b : Bl) (w0 : World) (e : Ending) (w : World) : Prop := e = .returned (.tuple #[.agg (bC (pidL b)), .int .i64 (pcode b : Int)]) ∧ Below w0.heap.size w0 w
abbrev z8A : Array Value := #[.int .u8 0, .int .u8 0, .int .u8 0, .int .u8 0, .int .u8 0, .int .u8 0, .int .u8 0, .int .u8 0]
theorem bC_z8 : bC z8 = z8A := rfl
theorem info_id8 : (Tryd.prog.info? 43).map (·.size) = some 8 := by kernel_rfl
theorem info_idB {l : List Nat} (hl : l.length = 8) : (Tryd.prog.info? 43).map (·.size) = some (bC l).size := by rw [bC_size, hl]; exact info_id8
theorem there_idB {w : World} {B : Nat} {l : List Nat} {cs : Array Value} {T : TypeId} (h : w.heap[B]? = some (.cells cs T (0, 0))) (hc : cs.size = 8) (hl : l.length = 8) : w.there B 0 (bC l).size := there_part h (by rw [bC_size, hl, hc]; omega)
theorem row_idB {w : World} {B : Nat} {l : List Nat} {cs : Array Value} {T : TypeId} (h : w.heap[B]? = some (.cells cs T (0, 0))) (hc : cs.size = 8) (hl : l.length = 8) : (w.setCells B 0 (bC l).toList).heap[B]? = some (.cells (bC l) T (0, 0)) := row_full h (by rw [bC_size, hl, hc])
theorem bC_oneP (l : List Nat) : (bC l).all (·.oneCell') = true := bC_one l
set_option maxRecDepth 100000 in
set_option maxHeartbeats 4000000 in
theorem pid_any (b : Bl) (w : World) : Calls Tryd.prog 18 #[.agg #[.int .i64 b.1, .string b.2]] w (PidEnd b w) := by
  obtain ⟨k, s⟩ := b
  have h2 := heap_twoK w (.cells #[.int .i64 k, .string s] 28) (.cells z8A 43)
  have c0 := cell_of_row _ _ 0 _ _ _ h2.1
  have c1 := cell_of_row _ _ 1 _ _ _ h2.1
  simp only [List.getElem?_toArray, List.getElem?_cons_succ, List.getElem?_cons_zero] at c0 c1
  have HR2 := Lib.hid h2.2
  have HB2 := Lib.hid (((Below.refl w.heap.size w).alloc (Nat.le_refl _) (.cells #[.int .i64 k, .string s] 28)).alloc (by simp) (.cells z8A 43))
  have HTH0 : Hid (((w.alloc (.cells #[.int .i64 k, .string s] 28)).alloc (.cells z8A 43)).there (w.heap.size + 1) 0 z8A.size) := there_part h2.2 (by show 0 + 8 ≤ 8; omega)
  have HI0 : Hid ((Tryd.prog.info? 43).map (·.size) = some z8A.size) := info_id8
  have HO0 : Hid (z8A.all (·.oneCell') = true) := by show _ = _; simp [Value.oneCell']
  have HRW0 : Hid ((((w.alloc (.cells #[.int .i64 k, .string s] 28)).alloc (.cells z8A 43)).setCells (w.heap.size + 1) 0 z8A.toList).heap[w.heap.size + 1]? = some (.cells z8A 43 (0, 0))) := row_full h2.2 rfl
  have HBW0 : Hid (Below w.heap.size w (((w.alloc (.cells #[.int .i64 k, .string s] 28)).alloc (.cells z8A 43)).setCells (w.heap.size + 1) 0 z8A.toList)) := below_setCells (Nat.le_succ _) _ _ HB2.out
  clear h2
  have HK := Lib.hid fun wx => pkn_any k wx
  go_enter Tryd.func18, Tryd.ntmps18
  go_wp2_with fail
  refine (HK.out _).mono ?_
  rintro e w1 ⟨rfl, rfl⟩
  by_cases hk : 1 ≤ k ∧ k ≤ 3
  · rw [decide_eq_true hk]
    by_cases hs : 4096 < s.size
    · have z1 : (4096 : Int) < (s.size : Int) := by omega
      have HP : Hid (pcode (k, s) = 2) := pcode_large hk hs
      clear hk hs
      go_wp2_with (with_reducible refine wpList_store_mid rfl 43 (.tmp 2) (.tmp 15) rfl (w.heap.size + 1) 0 z8A rfl rfl HTH0.out HI0.out HO0.out ?_)
      refine bodyPost_ret (results_row_tmp1 rfl _ _ (w.heap.size + 1) 43 z8A (0, 0) _ rfl HRW0.out Tryd.underlying43 rfl HI0.out) rfl ?_
      exact ⟨by rw [HP.out, pidL_bad (by rw [HP.out]; decide), bC_z8]; rfl, HBW0.out⟩
    · have z1 : ¬ (4096 : Int) < (s.size : Int) := by omega
      have hp := pcode_ok (b := (k, s)) hk hs
      have hid := pidL_ok hp
      obtain ⟨n, rfl⟩ := Int.eq_ofNat_of_zero_le (show 0 ≤ k by omega)
      have z2 : (0 : Int) ≤ (n : Int) := Int.natCast_nonneg _
      have z3 : (n : Int) < 256 := by omega
      have hcv := conv1 n (by omega) ((w.alloc (.cells #[.int .i64 (n : Int), .string s] 28)).alloc (.cells z8A 43))
      simp only [World.size_alloc] at hcv
      have hmx : ¬ 9223372036854775807 < (strOf [n]).size + s.size := by rw [strOf_size]; show ¬ _ < 1 + _; omega
      have HID := Lib.hid fun wx => id_any (strOf [n] ++ s) wx (by rw [ByteArray.size_append]; omega)
      have hst : strN (strOf [n] ++ s) = n :: strN s := by rw [strN_add, strN_strOf [n] (by intro c hc; rw [List.mem_singleton] at hc; omega)]; rfl
      rw [hst] at HID
      rw [Int.toNat_natCast] at hid
      have HPC := Lib.hid hp
      have HPI := Lib.hid hid
      have hbl : (be8 (hsum (n :: strN s))).length = 8 := rfl
      generalize be8 (hsum (n :: strN s)) = idl at *
      have HBL := Lib.hid hbl
      clear hk hs hst hp hid hbl HTH0 HRW0 HBW0
      go_wp2_with fail
      refine (HID.out _).mono ?_
      rintro e w3 ⟨rfl, hb3⟩
      clear hcv
      have hb2' := HB2.out.alloc HB2.out.size (.cells #[.int .u8 (n : Int)] 5)
      have HB3 := Lib.hid (hb2'.trans (hb3.mono hb2'.size))
      have hr3 : w3.heap[w.heap.size + 1]? = some (.cells z8A 43 (0, 0)) := (hb3.block _ (by simp)).trans ((Below.heap_alloc _ _ _ (by simp)).trans HR2.out)
      have HTH : Hid (w3.there (w.heap.size + 1) 0 (bC idl).size) := there_idB hr3 rfl HBL.out
      have HIB : Hid ((Tryd.prog.info? 43).map (·.size) = some (bC idl).size) := info_idB HBL.out
      have HOB : Hid ((bC idl).all (·.oneCell') = true) := bC_oneP idl
      have HRW : Hid ((w3.setCells (w.heap.size + 1) 0 (bC idl).toList).heap[w.heap.size + 1]? = some (.cells (bC idl) 43 (0, 0))) := row_idB hr3 rfl HBL.out
      have HBW : Hid (Below w.heap.size w (w3.setCells (w.heap.size + 1) 0 (bC idl).toList)) := below_setCells (Nat.le_succ _) _ _ HB3.out
      clear hb3 hb2' hr3
      go_wp2_with (with_reducible refine wpList_store_mid rfl 43 (.tmp 2) (.tmp 24) rfl (w.heap.size + 1) 0 (bC idl) rfl rfl HTH.out HIB.out HOB.out ?_)
      refine bodyPost_ret (results_row_tmp1 rfl _ _ (w.heap.size + 1) 43 (bC idl) (0, 0) _ rfl HRW.out Tryd.underlying43 rfl HIB.out) rfl ?_
      exact ⟨by rw [HPC.out, HPI.out]; rfl, HBW.out⟩
  · rw [decide_eq_false hk]
    have HP : Hid (pcode (k, s) = 5) := pcode_kind hk
    clear hk
    go_wp2_with (with_reducible refine wpList_store_mid rfl 43 (.tmp 2) (.tmp 9) rfl (w.heap.size + 1) 0 z8A rfl rfl HTH0.out HI0.out HO0.out ?_)
    refine bodyPost_ret (results_row_tmp1 rfl _ _ (w.heap.size + 1) 43 z8A (0, 0) _ rfl HRW0.out Tryd.underlying43 rfl HI0.out) rfl ?_
    exact ⟨by rw [HP.out, pidL_bad (by rw [HP.out]; decide), bC_z8]; rfl, HBW0.out⟩
end Go.Proofs.YtpfmfigommmjiaaDoor
