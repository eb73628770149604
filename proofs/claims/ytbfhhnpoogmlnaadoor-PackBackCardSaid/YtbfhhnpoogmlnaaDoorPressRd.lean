/- Press: the reader of bits: next, bit, rest. -/
import Derived.Test.YtbfhhnpoogmlnaaDoorNumW
import Derived.Test.YtbfhhnpoogmlnaaDoorBase1
import Derived.Test.YtbfhhnpoogmlnaaDoorBase2
import Derived.Lib.BufferOwn
import Derived.Deep.QuietTactic
import Derived.BigQuiet
namespace Go.Proofs.YtbfhhnpoogmlnaaDoor
open Go.RowKit Plain
set_option linter.unusedVariables false
set_option linter.unusedSimpArgs false
/-- a reader: what is left of the string, and how many bits of its first byte -/
def RdAt (o : Nat) (s : ByteArray) (k : Nat) (w : World) : Prop := w.heap[o]? = some (.cells #[.string s, .int .i64 (k : Int)] 200 (0, 0))
theorem RdAt.below {o : Nat} {s : ByteArray} {k : Nat} {w w' : World} (h : RdAt o s k w) (hb : Below w.heap.size w w') : RdAt o s k w' := (hb.block _ (lt_of_block h)).trans h
theorem rd_set0 {o : Nat} {s s' : ByteArray} {k : Nat} {w : World} (h : RdAt o s k w) : RdAt o s' k (w.setCell ⟨o, 0, none⟩ (.string s')) := heap_setCell_same w o 0 _ _ (.string s') h
theorem rd_set1 {o : Nat} {s : ByteArray} {k k' : Nat} {w : World} (h : RdAt o s k w) : RdAt o s k' (w.setCell ⟨o, 1, none⟩ (.int .i64 (k' : Int))) := heap_setCell_same w o 1 _ _ (.int .i64 (k' : Int)) h
def NxEnd (o : Nat) (s : ByteArray) (k : Nat) (w0 : World) (e : Ending) (w : World) : Prop := e = .returned (.tuple #[]) ∧ w0.grownBy w (some o) ∧ RdAt o (s.extract 1 s.size) (if s.size = 1 then k else 8) w
set_option maxRecDepth 100000 in
set_option maxHeartbeats 1000000 in
theorem next_any (o : Nat) (s : ByteArray) (k : Nat) (w : World) (h : RdAt o s k w) (hs : 0 < s.size) (hm : s.size ≤ 9223372036854775807) :
    Calls Tryd.prog 176 #[.pointer (some ⟨o, 0, none⟩)] w (NxEnd o s k w) := by
  have H0 := Lib.hid h
  have hf := full_str (s := s) (by omega)
  have c0 := cell_of_row _ _ 0 _ _ _ h
  have f0 := frozen_of_row w o 0 _ _ h
  simp only [List.getElem?_toArray, List.getElem?_cons_succ, List.getElem?_cons_zero] at c0
  have H1 := Lib.hid (rd_set0 (s' := s.extract 1 s.size) h)
  have G1 := Lib.hid (grown_set (grown_refl w (some o)) 0 (.string (s.extract 1 s.size)))
  have d0 := cell_of_row _ _ 0 _ _ _ H1.out
  have f1 := frozen_of_row _ o 1 _ _ H1.out
  have d1 := cell_of_row _ _ 1 _ _ _ H1.out
  simp only [List.getElem?_toArray, List.getElem?_cons_succ, List.getElem?_cons_zero] at d0 d1
  have z1 : (1 : Int) ≤ (s.size : Int) := by omega
  have hx : (s.extract 1 s.size).size = s.size - 1 := by rw [← strN_length, extract_strN, List.length_drop, strN_length]
  have HSZ := Lib.hid hx
  by_cases h1 : s.size = 1
  · have he := empty_str (s := s.extract 1 s.size) (by omega)
    have H11 := Lib.hid h1
    clear h hx h1
    go_enter Tryd.func176, Tryd.ntmps176
    go_wp2_with fail
    go_end0
    exact ⟨rfl, G1.out, by rw [if_pos H11.out]; exact H1.out⟩
  · have he := full_str (s := s.extract 1 s.size) (by omega)
    have H2 := Lib.hid (rd_set1 (k' := 8) H1.out)
    have G2 := Lib.hid (grown_set G1.out 1 (.int .i64 8))
    have H11 := Lib.hid h1
    clear h hx h1
    go_enter Tryd.func176, Tryd.ntmps176
    go_wp2_with fail
    go_end0
    exact ⟨rfl, G2.out, by rw [if_neg H11.out]; exact H2.out⟩
theorem and_one : ∀ m : Nat, m < 256 → wrap64 (bits .and .u8 (m : Int) 1) = ((m % 2 : Nat) : Int) := by decide +kernel
/-- the next bit -/
def bitOf (s : ByteArray) (k : Nat) : Nat := (strN s).getD 0 0 / 2 ^ (k - 1) % 2
def BtEnd (o : Nat) (s : ByteArray) (k : Nat) (w0 : World) (e : Ending) (w : World) : Prop :=
  if k = 0 then e = .returned (.tuple #[.int .i64 0, .bool false]) ∧ w = w0 else e = .returned (.tuple #[.int .i64 (bitOf s k : Int), .bool true]) ∧ w0.grownBy w (some o) ∧ if k = 1 then RdAt o (s.extract 1 s.size) (if s.size = 1 then 0 else 8) w else RdAt o s (k - 1) w
set_option maxRecDepth 100000 in
set_option maxHeartbeats 1000000 in
theorem bit_any (o : Nat) (s : ByteArray) (k : Nat) (w : World) (h : RdAt o s k w) (hs : 0 < k → 0 < s.size) (hk : k ≤ 8) (hm : s.size ≤ 9223372036854775807) :
    Calls Tryd.prog 156 #[.pointer (some ⟨o, 0, none⟩)] w (BtEnd o s k w) := by
  have H0 := Lib.hid h
  have c0 := cell_of_row _ _ 0 _ _ _ h
  have c1 := cell_of_row _ _ 1 _ _ _ h
  have f1 := frozen_of_row w o 1 _ _ h
  simp only [List.getElem?_toArray, List.getElem?_cons_succ, List.getElem?_cons_zero] at c0 c1
  by_cases h0 : k = 0
  · subst h0
    clear h
    go_enter Tryd.func156, Tryd.ntmps156
    go_wp2_with fail
    go_ret2
    exact (if_pos rfl).mpr ⟨rfl, rfl⟩
  obtain ⟨j, rfl⟩ : ∃ j, k = j + 1 := ⟨k - 1, by omega⟩
  have hsz := hs (by omega)
  have z0 : ((((j + 1 : Nat) : Int)) == 0) = false := by simp; omega
  have zj : IntKind.i64.wrap (((j + 1 : Nat) : Int) - 1) = (j : Int) := by rw [IntKind.wrap_i64]; omega
  have H1 := Lib.hid (rd_set1 (k' := j) h)
  have d0 := cell_of_row _ _ 0 _ _ _ H1.out
  have d1 := cell_of_row _ _ 1 _ _ _ H1.out
  simp only [List.getElem?_toArray, List.getElem?_cons_succ, List.getElem?_cons_zero] at d0 d1
  have z2 : (0 : Int) < (s.size : Int) := by omega
  have z3 : (0 : Int) ≤ (j : Int) := Int.natCast_nonneg _
  have hb0 : bitOf s (j + 1) = (s[0]'hsz).toNat / 2 ^ j % 2 := by
    unfold bitOf
    rw [byte0 hsz, Nat.add_sub_cancel]
  have HB0 := Lib.hid hb0
  have hle : (s[0]'hsz).toNat < 256 := UInt8.toNat_lt _
  have hwb : wrap64 (bits .and .u8 (((s[0]'hsz).toNat : Int) / (2 : Int) ^ j) 1) = ((bitOf s (j + 1) : Nat) : Int) := by
    rw [hb0]
    have hm : (s[0]'hsz).toNat / 2 ^ j < 256 := Nat.lt_of_le_of_lt (Nat.div_le_self _ _) hle
    have he : (((s[0]'hsz).toNat : Int) / (2 : Int) ^ j) = (((s[0]'hsz).toNat / 2 ^ j : Nat) : Int) := by simp
    rw [he]
    exact and_one _ hm
  have HWB := Lib.hid hwb
  have G1 := Lib.hid (grown_set (grown_refl w (some o)) 1 (.int .i64 (j : Int)))
  have GN : Hid (∀ n, w.grownBy ((w.setCell ⟨o, 1, none⟩ (.int .i64 (j : Int))).drewN n) (some o)) := fun n => ⟨G1.out.os, G1.out.tape, G1.out.output, G1.out.size, G1.out.block⟩
  have HN : Hid (∀ n, RdAt o s j ((w.setCell ⟨o, 1, none⟩ (.int .i64 (j : Int))).drewN n)) := fun n => H1.out
  clear h h0 hb0 hle hwb
  by_cases hj : j = 0
  · have zz : ((j : Int) == 0) = true := by simp [hj]
    have HJ := Lib.hid hj
    clear hj
    go_enter Tryd.func156, Tryd.ntmps156
    go_wp2_with fail
    go_quiet (fail)
    rw [HWB.out]
    go_wp2_with fail
    refine (next_any o s j _ (HN.out _) hsz hm).mono ?_
    rintro e w1 ⟨rfl, hg, hr⟩
    have HG := Lib.hid (Lib.grownBy_trans (GN.out _) hg)
    rw [HJ.out] at hr
    have HR := Lib.hid hr
    clear hg hr
    go_wp2_with fail
    go_ret2
    exact (if_neg (by omega)).mpr ⟨rfl, HG.out, (if_pos (by have := HJ.out; omega)).mpr HR.out⟩
  · have zz : ((j : Int) == 0) = false := beq_eq_false_iff_ne.2 (by omega)
    go_enter Tryd.func156, Tryd.ntmps156
    go_wp2_with fail
    go_quiet (fail)
    rw [HWB.out]
    go_wp2_with fail
    go_ret2
    exact (if_neg (by omega)).mpr ⟨rfl, GN.out _, (if_neg (by omega)).mpr (HN.out _)⟩
theorem rest_one : ∀ k : Nat, k < 8 → ∀ n : Nat, n < 256 → (bits .and .u8 (n : Int) (((2 : Int) ^ k - 1) % 256) == 0) = (n % 2 ^ k == 0) := by decide +kernel
/-- nothing but zero bits of a byte that was begun -/
def restOf (s : ByteArray) (k : Nat) : Bool := if s.size = 0 then true else if k = 8 ∨ 1 < s.size then false else (strN s).getD 0 0 % 2 ^ k == 0
set_option maxRecDepth 100000 in
set_option maxHeartbeats 1000000 in
theorem rest_any (o : Nat) (s : ByteArray) (k : Nat) (w : World) (h : RdAt o s k w) (hk : k ≤ 8) (hm : s.size ≤ 9223372036854775807) :
    Calls Tryd.prog 116 #[.pointer (some ⟨o, 0, none⟩)] w fun e w' => e = .returned (.bool (restOf s k)) ∧ Below w.heap.size w w' := by
  have c0 := cell_of_row _ _ 0 _ _ _ h
  have c1 := cell_of_row _ _ 1 _ _ _ h
  simp only [List.getElem?_toArray, List.getElem?_cons_succ, List.getElem?_cons_zero] at c0 c1
  have HN : Hid (∀ n, Below w.heap.size w (w.drewN n)) := fun n => below_dn (Below.refl _ _) n
  by_cases h0 : s.size = 0
  · have he := empty_str (s := s) h0
    have HR : Hid (restOf s k = true) := by show _ = _; unfold restOf; rw [if_pos h0]
    clear h h0
    go_enter Tryd.func116, Tryd.ntmps116
    go_wp2_with fail
    go_ret
    exact ⟨by rw [HR.out]; rfl, Below.refl _ _⟩
  have he := full_str (s := s) h0
  by_cases h8 : k = 8
  · subst h8
    have HR : Hid (restOf s 8 = false) := by show _ = _; unfold restOf; rw [if_neg h0, if_pos (.inl rfl)]
    clear h h0
    go_enter Tryd.func116, Tryd.ntmps116
    go_wp2_with fail
    go_ret
    exact ⟨by rw [HR.out]; rfl, Below.refl _ _⟩
  have z8 : ((k : Int) == 8) = false := beq_eq_false_iff_ne.2 (by omega)
  by_cases h1 : 1 < s.size
  · have z1 : (1 : Int) < (s.size : Int) := by omega
    have HR : Hid (restOf s k = false) := by show _ = _; unfold restOf; rw [if_neg h0, if_pos (.inr h1)]
    clear h h0 h8 h1
    go_enter Tryd.func116, Tryd.ntmps116
    go_wp2_with fail
    go_ret
    exact ⟨by rw [HR.out]; rfl, Below.refl _ _⟩
  have hsz : 0 < s.size := by omega
  have z1 : ¬ (1 : Int) < (s.size : Int) := by omega
  have z2 : (0 : Int) < (s.size : Int) := by omega
  have z3 : (0 : Int) ≤ (k : Int) := Int.natCast_nonneg _
  have HR : Hid (restOf s k = ((s[0]'hsz).toNat % 2 ^ k == 0)) := by show _ = _; unfold restOf; rw [if_neg h0, if_neg (by omega), byte0 hsz]
  have HK : Hid (k < 8) := by show _ < _; omega
  clear h h0 h8 h1
  go_enter Tryd.func116, Tryd.ntmps116
  go_wp2_with fail
  go_quiet (fail)
  go_wp2_with fail
  go_ret
  exact ⟨by rw [HR.out, ← rest_one _ HK.out _ (UInt8.toNat_lt _)]; rfl, HN.out _⟩
end Go.Proofs.YtbfhhnpoogmlnaaDoor
