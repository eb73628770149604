/- Joined: NumLib, BytesOwn. -/
import Derived.Test.YtbfoonfbhebhfaaGreatDoorKGnH
import Derived.Test.YtbfoonfbhebhfaaGreatDoorKGnB
import Derived.Lib.TrimByte
import Derived.Lib.Replace
import Derived.Lib.BufferRead
namespace Go.Proofs.YtbfoonfbhebhfaaGreatDoor
open Go.RowKit Plain
theorem str_data (l : List Nat) : (strOf l).data.toList = l.map UInt8.ofNat := by simp [strOf]
theorem strip_lib : ∀ l : List Nat, (∀ c ∈ l, c < 256) → Lib.trimLeftB (l.map UInt8.ofNat) 0 = (strip l).map UInt8.ofNat
 | [], _ => rfl
 | 0 :: x, h => by
  have ih := strip_lib x fun c hc => h c (List.mem_cons_of_mem _ hc)
  unfold Lib.trimLeftB at ih ⊢
  rw [List.map_cons, List.dropWhile_cons, if_pos (by decide), ih]
  rfl
 | (a + 1) :: x, h => by
  have ha := h (a + 1) (by simp)
  unfold Lib.trimLeftB
  rw [List.map_cons, List.dropWhile_cons, if_neg]
  ·
   rfl
  ·
   intro e
   have e2 := congrArg UInt8.toNat (beq_iff_eq.1 e)
   rw [UInt8.toNat_ofNat', Nat.mod_eq_of_lt ha] at e2
   exact Nat.succ_ne_zero a e2
theorem trim_str (l : List Nat) (h : ∀ c ∈ l, c < 256) : (⟨(Lib.trimLeftB (strOf l).data.toList 0).toArray⟩ : ByteArray) = strOf (strip l) := by
 rw [str_data, strip_lib l h]
 rfl
theorem index_cons_ne (b c : UInt8) (l : List UInt8) (h : b ≠ c) : Lib.index (b :: l) [c] = if Lib.index l [c] == -1 then -1 else Lib.index l [c] + 1 := by
 have hp : ([c] : List UInt8).isPrefixOf (b :: l) = false := by simp [List.isPrefixOf, Ne.symm h]
 rw [Lib.index, hp]
 simp
theorem index_cons_eq (c : UInt8) (l : List UInt8) : Lib.index (c :: l) [c] = 0 := by
 rw [Lib.index]; simp [List.isPrefixOf]
def sub1 (c : UInt8) (r : List UInt8) : List UInt8 → List UInt8
 | [] => []
 | b :: l => if b = c then r ++ sub1 c r l else b :: sub1 c r l
theorem replaceK_cons_ne (c : UInt8) (r : List UInt8) (b : UInt8) (l : List UInt8) (h : b ≠ c) : ∀ k, k = Lib.count l [c] → Lib.replaceK [c] r k (b :: l) = b :: Lib.replaceK [c] r k l
 | 0, _ => rfl
 | k + 1, hk => by
  obtain ⟨i, hi⟩ := Lib.index_of_count (s := l) (old := [c]) (by omega)
  have hi2 : Lib.index (b :: l) [c] = ((i + 1 : Nat) : Int) := by
   rw [index_cons_ne b c l h, hi]
   have : ¬ (((i : Nat) : Int) == -1) = true := fun e => by have := beq_iff_eq.1 e; omega
   rw [if_neg this]
   omega
  rw [Lib.replaceK_hit [c] r k l i hi, Lib.replaceK_hit [c] r k (b :: l) (i + 1) hi2]
  simp
theorem replaceK_sub1 (c : UInt8) (r : List UInt8) : ∀ (l : List UInt8), Lib.replaceK [c] r (Lib.count l [c]) l = sub1 c r l
 | [] => by rw [Lib.count_one]; rfl
 | b :: l => by
  have ih := replaceK_sub1 c r l
  by_cases h : b = c
  ·
   subst h
   rw [Lib.count_cons_eq, Nat.add_comm, Lib.replaceK_hit [b] r _ (b :: l) 0 (index_cons_eq b l)]
   simp only [sub1, if_true, List.take_zero, List.nil_append, List.length_singleton, Nat.zero_add, List.drop_succ_cons, List.drop_zero, ih]
  ·
   rw [Lib.count_cons_ne b c l h, replaceK_cons_ne c r b l h _ rfl, ih]
   simp [sub1, h]
theorem replaceAll_sub1 (c : UInt8) (r : List UInt8) (hr : [c] ≠ r) (l : List UInt8) : Lib.replaceAll l [c] r = sub1 c r l := by
 have hb : ¬ ([c] == r) = true := fun e => hr (beq_iff_eq.1 e)
 rw [Lib.replaceAll, Lib.replace, if_neg hb, ← replaceK_sub1 c r l]
 congr 1
theorem sub1_esc : ∀ l : List Nat, (∀ c ∈ l, c < 256) → sub1 0 [0, 255] (l.map UInt8.ofNat) = (esc l).map UInt8.ofNat
 | [], _ => rfl
 | 0 :: x, h => by
  have ih := sub1_esc x fun c hc => h c (List.mem_cons_of_mem _ hc)
  rw [List.map_cons, sub1, if_pos (by decide), ih]
  rfl
 | (a + 1) :: x, h => by
  have ih := sub1_esc x fun c hc => h c (List.mem_cons_of_mem _ hc)
  have ha := h (a + 1) (by simp)
  rw [List.map_cons, sub1, if_neg, ih]
  ·
   rfl
  ·
   intro e
   have e2 := congrArg UInt8.toNat e
   rw [UInt8.toNat_ofNat', Nat.mod_eq_of_lt ha] at e2
   exact Nat.succ_ne_zero a e2
theorem strN_data (s : ByteArray) : s.data.toList = (strN s).map UInt8.ofNat := by
 rw [← str_data, strOf_strN]
theorem esc_str (s : ByteArray) : (⟨(Lib.replaceAll s.data.toList [0] [0, 255]).toArray⟩ : ByteArray) = strOf (esc (strN s)) := by
 rw [replaceAll_sub1 0 [0, 255] (by decide), strN_data, sub1_esc _ (strN_lt s)]
 rfl
end Go.Proofs.YtbfoonfbhebhfaaGreatDoor
namespace Go.Proofs.YtbfoonfbhebhfaaGreatDoor
open Go.RowKit
theorem byte_get (s : ByteArray) (k : Nat) (h : k < s.size) : (s[k]).toNat = (strN s).getD k 0 := by
 rw [← strN_getD, List.getD_eq_getElem?_getD, List.getElem?_eq_getElem (by rw [Array.length_toList]; exact h)]
 rfl
theorem run_string_own {P : Program} (w : World) (src e dst : TypeId) (hs : P.underlying src = some (.slice e)) (he : P.underlying e = some (.int .u8)) (hd : P.underlying dst = some .string) {base : Nat} {v : Value} {l : List Nat} (hl : ∀ c ∈ l, c < 256)
  (h : w.ownsRow base e 1 v l.length (l.map bV)) : (convert src dst v).run P w = .ok (.string (strOf l)) w := by
 rcases h.2 with ⟨rfl, h0⟩ | ⟨g, cap, cur, rfl, hb, hg, h3, h4, h5, h6⟩
 ·
  obtain rfl := List.eq_nil_of_length_eq_zero h0
  exact Lib.run_convert_nil_bytes (P := P) w src dst e 0 hs he hd
 ·
  have hbytes : Lib.Bytes w g 0 (strOf l) := by
   intro i hi
   rw [strOf_size] at hi
   rw [Nat.zero_add, cell_of_row _ _ _ _ _ _ hg]
   have h7 : (cur.toList.take (l.length * 1))[i]? = (l.map bV)[i]? := by rw [h6]
   rw [List.getElem?_take, if_pos (by omega), List.getElem?_map, List.getElem?_eq_getElem hi] at h7
   rw [← Array.getElem?_toList, h7]
   have hlt := hl _ (List.getElem_mem hi)
   have hb : ((strOf l)[i]'(by rw [strOf_size]; exact hi)).toNat = l[i] := by
    rw [byte_get, strN_strOf l hl, List.getD_eq_getElem?_getD, List.getElem?_eq_getElem hi]
    rfl
   rw [hb]
   rfl
  have := Lib.run_convert_whole (P := P) w src e dst hs he hd g 0 (strOf l) hbytes cap
  rwa [strOf_size] at this
end Go.Proofs.YtbfoonfbhebhfaaGreatDoor
