/- The walks of room's reader: number; room.check's and room.Write's closures. -/
import Derived.Test.YtinjnclpiiohcaaDoorRoomPlain
import Derived.Test.YtinjnclpiiohcaaDoorTreeR
import Derived.Test.YtinjnclpiiohcaaDoorNumOut
namespace Go.Proofs.YtinjnclpiiohcaaDoor
open Go.RowKit Plain
def RSB (w : World) (R : Nat) (l : ByteArray) (b : Bool) : Prop := w.heap[R]? = some (.cells #[.string l, .bool b] 99 (0, 0))
theorem RSB.c0 {w : World} {R : Nat} {l : ByteArray} {b : Bool} (h : RSB w R l b) : w.cell? ⟨R, 0, none⟩ = some (.string l) := by
  have := cell_of_row _ _ 0 _ _ _ h
  simpa using this
theorem RSB.c1 {w : World} {R : Nat} {l : ByteArray} {b : Bool} (h : RSB w R l b) : w.cell? ⟨R, 1, none⟩ = some (.bool b) := by
  have := cell_of_row _ _ 1 _ _ _ h
  simpa using this
theorem RSB.fz {w : World} {R : Nat} {l : ByteArray} {b : Bool} (h : RSB w R l b) (i : Nat) : w.frozen? ⟨R, i, none⟩ = false := frozen_of_row _ _ _ _ _ h
theorem RSB.below {w w' : World} {R : Nat} {l : ByteArray} {b : Bool} (h : RSB w R l b) (hb : Below w.heap.size w w') : RSB w' R l b := (hb.block _ (lt_of_block h)).trans h
theorem RSB.set0 {w : World} {R : Nat} {l : ByteArray} {b : Bool} (h : RSB w R l b) (l' : ByteArray) : RSB (w.setCell ⟨R, 0, none⟩ (.string l')) R l' b := rst_set h 0 _
theorem RSB.set1 {w : World} {R : Nat} {l : ByteArray} {b : Bool} (h : RSB w R l b) (b' : Bool) : RSB (w.setCell ⟨R, 1, none⟩ (.bool b')) R l b' := rst_set h 1 _
/-- a part read, or a fault -/
def PEB {α : Type} (p : List Nat → Option (α × List Nat)) (z : α) (V : α → Value) (R : Nat) (l : ByteArray) (b : Bool) (w0 : World) (en : Ending) (w : World) : Prop :=
  ∃ (a : α) (l' : ByteArray) (b' : Bool), en = .returned (V a) ∧ RSB w R l' b' ∧ BX R w0 w ∧ l'.size ≤ l.size ∧ ((b = false ∧ p (strN l) = some (a, strN l') ∧ b' = false) ∨ ((b = true ∨ p (strN l) = none) ∧ a = z ∧ b' = true))
set_option maxRecDepth 100000 in
theorem rput_any (n : Nat) (hn : n < 9223372036854775808) (w : World) : Calls Tryd.prog 40 #[.int .i64 (n : Int)] w fun e w' => e = .returned (.string (numS n)) ∧ Below w.heap.size w w' := by
  have HP := Lib.hid (putD_any n (by omega) w)
  have e1 : IntKind.u64.wrap (n : Int) = (n : Int) := wraps_u64 _ (by omega) (by omega)
  go_enter Tryd.func40, Tryd.ntmps40
  go_wp2_with fail
  refine HP.out.mono ?_
  rintro e w1 ⟨rfl, hb⟩
  go_wp2_with fail
  go_ret
  exact ⟨rfl, hb⟩
set_option maxRecDepth 100000 in
theorem rin_any (n : Int) (w : World) : Calls Tryd.prog 65 #[.int .i64 n] w fun e w' => e = .returned (.bool (decide (0 ≤ n ∧ n ≤ 65536))) ∧ w' = w := by
  by_cases h0 : 0 ≤ n
  · by_cases h1 : n ≤ 65536
    · have d : decide (0 ≤ n ∧ n ≤ 65536) = true := decide_eq_true ⟨h0, h1⟩
      rw [d]
      clear d
      go_enter Tryd.func65, Tryd.ntmps65
      go_wp2_with fail
      go_ret
      exact ⟨rfl, rfl⟩
    · have d : decide (0 ≤ n ∧ n ≤ 65536) = false := decide_eq_false (fun h => h1 h.2)
      rw [d]
      clear d
      go_enter Tryd.func65, Tryd.ntmps65
      go_wp2_with fail
      go_ret
      exact ⟨rfl, rfl⟩
  · have d : decide (0 ≤ n ∧ n ≤ 65536) = false := decide_eq_false (fun h => h0 h.1)
    rw [d]
    clear d
    go_enter Tryd.func65, Tryd.ntmps65
    go_wp2_with fail
    go_ret
    exact ⟨rfl, rfl⟩
set_option maxRecDepth 100000 in
set_option maxHeartbeats 1000000 in
theorem rnumber_any (R : Nat) (l : ByteArray) (b : Bool) (most : Nat) (w : World) (hl : l.size ≤ 9223372036854775806) (hm : most < 4294967296) (h : RSB w R l b) : Calls Tryd.prog 41 #[.pointer (some ⟨R, 0, none⟩), .int .u64 (most : Int)] w (PEB (pNum most) 0 (fun n : Nat => .int .i64 (n : Int)) R l b w) := by
  obtain ⟨n, k, c, hg⟩ : ∃ n k c, getN (strN l) = (n, k, c) := ⟨_, _, _, rfl⟩
  have hkb := getN_bound (strN l)
  rw [hg, strN_length] at hkb
  have hk1 : k ≤ l.size := hkb.1
  have hk9 : k ≤ 9 := hkb.2
  have HG : Hid (∀ u, Calls Tryd.prog 29 #[.string l] u fun e w' => e = .returned (.tuple #[.int .u64 (n : Int), .int .i64 (k : Int), .int .i64 (c : Int)]) ∧ u = w') := fun u => by
    have h := get_any l u (by omega)
    unfold GetEnd at h
    rw [hg] at h
    exact h
  have HGN := Lib.hid hg
  have h0 := h.c0
  have h1 := h.c1
  have z0 := h.fz 0
  have z1 := h.fz 1
  have HR := Lib.hid h
  clear h hg hkb
  cases b with
  | false =>
    by_cases hc : c = 0
    · subst hc
      by_cases hn : n ≤ most
      · have f1 : decide ((n : Int) > (most : Int)) = false := decide_eq_false (by omega)
        have f2 : ¬ (most : Int) < (n : Int) := by omega
        have e1 : IntKind.i64.wrap (n : Int) = (n : Int) := wraps_i64 _ (by omega) (by omega)
        have k0 : (0 : Int) ≤ (k : Int) := Int.natCast_nonneg _
        have k1 : (k : Int) ≤ (l.size : Int) := by omega
        obtain ⟨D, hD⟩ : ∃ D, l.extract k l.size = D := ⟨_, rfl⟩
        have hDN : strN D = (strN l).drop k := by rw [← hD]; exact extract_strN l k
        have HP : Hid (pNum most (strN l) = some (n, strN D)) := by
          show _ = _
          unfold pNum
          rw [HGN.out, if_pos ⟨rfl, hn⟩, hDN]
        have HZ : Hid (D.size ≤ l.size) := by show _ ≤ _; rw [← strN_length, hDN, List.length_drop, strN_length]; omega
        clear hn hDN
        go_enter Tryd.func41, Tryd.ntmps41
        go_wp2_with fail
        refine (HG.out _).mono ?_
        rintro e w1 ⟨rfl, rfl⟩
        go_wp2_with fail
        go_ret
        exact ⟨n, D, false, rfl, HR.out.set0 D, (BX.refl R w).set 0 _, HZ.out, .inl ⟨rfl, HP.out, rfl⟩⟩
      · have f1 : decide ((n : Int) > (most : Int)) = true := decide_eq_true (by omega)
        have f2 : (most : Int) < (n : Int) := by omega
        have HP : Hid (pNum most (strN l) = none) := by
          show _ = _
          unfold pNum
          rw [HGN.out, if_neg (by rintro ⟨_, h⟩; exact hn h)]
        clear hn
        go_enter Tryd.func41, Tryd.ntmps41
        go_wp2_with fail
        refine (HG.out _).mono ?_
        rintro e' w1 ⟨rfl, rfl⟩
        go_wp2_with fail
        go_ret
        exact ⟨0, l, true, rfl, HR.out.set1 true, (BX.refl R w).set 1 _, Nat.le_refl _, .inr ⟨.inr HP.out, rfl, rfl⟩⟩
    · have f1 : ((c : Int) == 0) = false := by simp; omega
      have f2 : ((c : Int) != 0) = true := by simp; omega
      have HP : Hid (pNum most (strN l) = none) := by
        show _ = _
        unfold pNum
        rw [HGN.out, if_neg (by rintro ⟨h, _⟩; exact hc h)]
      clear hc
      go_enter Tryd.func41, Tryd.ntmps41
      go_wp2_with fail
      refine (HG.out _).mono ?_
      rintro e' w1 ⟨rfl, rfl⟩
      go_wp2_with fail
      go_ret
      exact ⟨0, l, true, rfl, HR.out.set1 true, (BX.refl R w).set 1 _, Nat.le_refl _, .inr ⟨.inr HP.out, rfl, rfl⟩⟩
  | true =>
    go_enter Tryd.func41, Tryd.ntmps41
    go_wp2_with fail
    refine (HG.out _).mono ?_
    rintro e' w1 ⟨rfl, rfl⟩
    go_wp2_with fail
    go_ret
    exact ⟨0, l, true, rfl, HR.out.set1 true, (BX.refl R w).set 1 _, Nat.le_refl _, .inr ⟨.inl rfl, rfl, rfl⟩⟩
end Go.Proofs.YtinjnclpiiohcaaDoor
