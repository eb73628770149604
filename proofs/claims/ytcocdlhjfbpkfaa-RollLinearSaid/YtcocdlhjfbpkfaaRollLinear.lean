/- The walk of the law RollLinear: it returns true. -/
import Derived.Test.YtcocdlhjfbpkfaaRollOf
import Derived.BigRegion
import Derived.RegionTactic
import Derived.Deep.RegionHeld3
namespace Go.Proofs.Ytcocdlhjfbpkfaa
open Go.RowKit Plain
theorem info_u8 : (Try.prog.info? 5).map (fun i => (i.zero, i.size, i.bytes)) = some (some (.int .u8 0), 1, 1) := by kernel_rfl
theorem zip_getD (a b : List Nat) (k : Nat) (ha : k < a.length) (hb : k < b.length) : (List.zipWith (· ^^^ ·) a b).getD k 0 = a.getD k 0 ^^^ b.getD k 0 := by
  simp [List.getD_eq_getElem?_getD, List.getElem?_zipWith, List.getElem?_eq_getElem ha, List.getElem?_eq_getElem hb]
theorem list_ext_getD {a b : List Nat} (h : a.length = b.length) (h2 : ∀ i, i < a.length → a.getD i 0 = b.getD i 0) : a = b := by
  apply List.ext_getElem h
  intro i h1 h3
  have := h2 i h1
  simpa [List.getD_eq_getElem?_getD, List.getElem?_eq_getElem h1, List.getElem?_eq_getElem h3] using this
theorem set_getD (l : List Nat) (k v i : Nat) (hk : k < l.length) : (l.set k v).getD i 0 = if i = k then v else l.getD i 0 := by
  simp only [List.getD_eq_getElem?_getD, List.getElem?_set]
  by_cases h : i = k
  · subst h; simp [hk]
  · simp [h, Ne.symm h]
theorem byte_getD (s : ByteArray) (k : Nat) (h : k < s.size) : (s[k]).toNat = (strN s).getD k 0 := by
  rw [← strN_getD, List.getD_eq_getElem?_getD, List.getElem?_eq_getElem (by rw [Array.length_toList]; exact h)]
  rfl
set_option maxRecDepth 100000 in
set_option maxHeartbeats 1000000 in
theorem rollLinear_walk (s t : ByteArray) (w : World) (hs : s.size ≤ 140737488351232) (ht : t.size ≤ 140737488351232) :
    Calls Try.prog 3 #[.string s, .string t] w fun e w' => e = .returned (.bool true) ∧ Below w.heap.size w w' := by
  have hmk := fun (wx : World) => run_make_bytes (P := Try.prog) wx 22 5 Try.underlying22 info_u8 (min (s.size : Int) (t.size : Int)) (by omega) (by omega)
  have hn : (min (s.size : Int) (t.size : Int)).toNat = min s.size t.size := by omega
  have HB0 := Lib.hid (BRow.zeros w 5 (min s.size t.size))
  rw [hn] at hmk
  go_enter Try.func3, Try.ntmps3
  go_wp2
  clear hmk
  have HBel := Lib.hid (((Below.refl _ _).alloc (Nat.le_refl _) _ : Below w.heap.size w (w.alloc (.cells (Array.replicate (min s.size t.size) (bV 0)) 5))))
  generalize w.alloc (.cells (Array.replicate (min s.size t.size) (bV 0)) 5) = w1 at *
  have hn1 : min s.size t.size ≤ s.size := Nat.min_le_left _ _
  have hn2 : min s.size t.size ≤ t.size := Nat.min_le_right _ _
  generalize hN : min s.size t.size = N at *
  have HN := Lib.hid hN
  clear hN
  go_loopw [17] (fun i wr => ∃ (k : Nat) (l : List Nat), k ≤ N ∧ l.length = N ∧ (∀ j, j < k → l.getD j 0 = (strN s).getD j 0 ^^^ (strN t).getD j 0) ∧ BRow wr 5 w.heap.size l ∧ Below w.heap.size w wr ∧ i = .int .i64 k) (fun i _ => N - (intOf i).toNat)
  case atStart => exact ⟨0, _, Nat.zero_le _, List.length_replicate, fun j hj => absurd hj (by omega), HB0.out, HBel.out, rfl⟩
  case round =>
    obtain ⟨k, l, hk, hl, hj, hrow, hbel, rfl⟩ := hrel
    have HL := Lib.hid hl
    have HJ := Lib.hid hj
    have HR := Lib.hid hrow
    have HW := Lib.hid hbel
    clear hl hj hrow hbel
    by_cases hlt : k < N
    · have hcell := HR.out.cell (k := k) (by rw [HL.out]; exact hlt)
      have hfr := HR.out.frozen k
      have ks : (k : Int) < s.size := by omega
      have kt : (k : Int) < t.size := by omega
      go_wp2
      go_region
      go_wp2
      have hks : k < s.size := by omega
      have hkt : k < t.size := by omega
      have hx : bits .xor .u8 (((s[k]'hks).toNat : Nat) : Int) (((t[k]'hkt).toNat : Nat) : Int) = (((strN s).getD k 0 ^^^ (strN t).getD k 0 : Nat) : Int) := by
        rw [u8_xor_nat _ _ (UInt8.toNat_lt _) (UInt8.toNat_lt _), byte_getD, byte_getD]
      rw [hx]
      go_roundw
      case rel =>
        refine ⟨k + 1, l.set k ((strN s).getD k 0 ^^^ (strN t).getD k 0), by omega, by rw [List.length_set]; exact HL.out, ?_, (HR.out.set k _).drew, (HW.out.setCell (Nat.le_refl _) _).drew, by go_num⟩
        intro j hj
        rw [set_getD _ _ _ _ (by rw [HL.out]; exact hlt)]
        by_cases e : j = k
        · rw [if_pos e, e]
        · rw [if_neg e]; exact HJ.out j (by omega)
      case measure => simp [intOf]; omega
    · obtain rfl : k = N := by omega
      have hlx : l = List.zipWith (· ^^^ ·) ((strN s).take k) ((strN t).take k) := by
        apply list_ext_getD
        · rw [HL.out, List.length_zipWith, List.length_take, List.length_take, strN_length, strN_length]; omega
        · intro i hi
          rw [HL.out] at hi
          rw [zip_getD _ _ _ (by rw [List.length_take, strN_length]; omega) (by rw [List.length_take, strN_length]; omega), HJ.out i hi]
          simp [List.getD_eq_getElem?_getD, hi]
      have hlb : ∀ c ∈ l, c < 256 := by
        intro c hc
        obtain ⟨i, hi, rfl⟩ := List.mem_iff_getElem.1 hc
        have h1 := HJ.out i (by rw [← HL.out]; exact hi)
        rw [List.getD_eq_getElem?_getD, List.getElem?_eq_getElem hi] at h1
        simp only [Option.getD_some] at h1
        rw [h1]
        have b1 : ∀ (x : ByteArray) (j : Nat), (strN x).getD j 0 < 2 ^ 8 := fun x j => by rw [← strN_getD]; exact UInt8.toNat_lt _
        exact Nat.xor_lt_two_pow (b1 s i) (b1 t i)
      have hmin : min (s.size : Int) (t.size : Int) = (k : Int) := by have := HN.out; omega
      have e2 : strN (s.extract 0 k) = (strN s).take k := by rw [extract_strN', List.drop_zero, Nat.sub_zero]
      have e3 : strN (t.extract 0 k) = (strN t).take k := by rw [extract_strN', List.drop_zero, Nat.sub_zero]
      have hrof : rof (strN (strOf l)) = rof (strN (s.extract 0 k)) ^^^ rof (strN (t.extract 0 k)) := by
        rw [strN_strOf l hlb, e2, e3, hlx]
        exact rof_xor _ _ (by rw [List.length_take, List.length_take, strN_length, strN_length]; omega)
      have z1 : (strOf l).size ≤ maxLen := by rw [strOf_size, HL.out]; unfold maxLen; omega
      have z2 : (s.extract 0 k).size ≤ maxLen := by rw [← strN_length, e2, List.length_take, strN_length]; unfold maxLen; omega
      have z3 : (t.extract 0 k).size ≤ maxLen := by rw [← strN_length, e3, List.length_take, strN_length]; unfold maxLen; omega
      have hstr := fun (wx : World) (h : BRow wx 5 w.heap.size l) (cap : Nat) => run_string_of_row (P := Try.prog) wx 22 5 9 Try.underlying22 Try.underlying5 Try.underlying9 w.heap.size l h hlb cap
      rw [HL.out] at hstr
      clear e2 e3 hlx hlb
      generalize hx1 : strOf l = x1 at *
      generalize hx2 : s.extract 0 k = x2 at *
      generalize hx3 : t.extract 0 k = x3 at *
      have q0 : (((rof (strN ⟨#[97, 98]⟩) : Nat) : Int) == 24930) = true := by decide +kernel
      have q1 := natEq hrof
      have r2 : rof (strN x2) < 2147483648 := rof_lt _ (strN_lt _)
      have r3 : rof (strN x3) < 2147483648 := rof_lt _ (strN_lt _)
      have hx := u32_xor_nat (rof (strN x2)) (rof (strN x3)) (by omega) (by omega)
      have Z0 : (ByteArray.mk #[97, 98]).size ≤ maxLen := by decide
      have Z1 := Lib.hid z1
      have Z2 := Lib.hid z2
      have Z3 := Lib.hid z3
      clear z1 z2 z3 hrof hx1
      have hS : BRow wr 5 w.heap.size l ∧ Below w.heap.size w wr := ⟨HR.out, HW.out⟩
      go_wp2
      go_region_held3 (fun w' => BRow w' 5 w.heap.size l ∧ Below w.heap.size w w') (first | exact ⟨hS.1.drew, hS.2.drew⟩ | go_keep | (go_split_ands; exact ⟨BRow.below (by assumption) hb, Below.step (by assumption) hb⟩)) (first | (go_at_call 14; refine (of_any _ _ ?_).mono ?_; (first | exact Z0 | exact Z1.out | exact Z2.out | exact Z3.out); rintro e w2 ⟨rfl, hb⟩))
      go_wp2
      go_ret
      refine ⟨rfl, ?_⟩
      go_split_ands
      assumption
end Go.Proofs.Ytcocdlhjfbpkfaa
