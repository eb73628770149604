/- Numbers and texts laid out by num: what Put and PutText hand back. -/
import Derived.Test.YtpfmfigommmjiaaDoorNumW
import Derived.Test.YtpfmfigommmjiaaDoorNumW3
namespace Go.Proofs.YtpfmfigommmjiaaDoor
open Go.RowKit Plain
/-- a number's text -/
def numS (n : Nat) : ByteArray := strOf ((strip (be8 n)).length :: strip (be8 n))
theorem numS_num (n : Nat) (h : n < 18446744073709551616) : Num n (strN (numS n)) := by
  have hd := digs_be8 n h
  have : Num n ((strip (be8 n)).length :: strip (be8 n)) := ⟨_, hd, rfl⟩
  unfold numS
  rw [strN_strOf _ this.lt]
  exact this
theorem putD_any (n : Nat) (hn : n < 18446744073709551616) (w : World) : Calls Tryd.prog 26 #[.int .u64 (n : Int)] w fun e w' => e = .returned (.string (numS n)) ∧ Below w.heap.size w w' := by
  refine (put_any n hn w).mono ?_
  rintro e w' ⟨s, hs, rfl, hb⟩
  have : s = numS n := by
    rw [← strOf_strN s, ← strOf_strN (numS n), hs.unique (numS_num n hn)]
  rw [this]
  exact ⟨rfl, hb⟩
theorem numS_size (n : Nat) (h : n < 18446744073709551616) : (numS n).size ≤ 9 := by
  have := (numS_num n h).length.2
  rwa [strN_length] at this
theorem strN_add (x y : ByteArray) : strN (x ++ y) = strN x ++ strN y := by simp [strN]
theorem size_add (x y : ByteArray) : (x ++ y).size = x.size + y.size := by simp
theorem conv_front {l : List Nat} {r : List Value} {w : World} {B : Nat} {t : TypeId} (hl : ∀ c ∈ l, c < 256) (h : w.heap[B]? = some (.cells (l.map bV ++ r).toArray t (0, 0))) (cap : Nat) :
    (convert 53 9 (.slice (some ⟨B, 0, none⟩) l.length cap)).run Tryd.prog w = .ok (.string (strOf l)) w := by
  have hb : Lib.Bytes w B 0 (strOf l) := by
    intro i hi
    rw [strOf_size] at hi
    rw [Nat.zero_add, cell_of_row _ _ _ _ _ _ h, List.getElem?_toArray, List.getElem?_append_left (by simpa using hi), List.getElem?_map, List.getElem?_eq_getElem hi]
    have := byte_at' (strOf l) i (by rw [strOf_size]; exact hi)
    rw [this, strN_strOf _ hl, List.getD_eq_getElem?_getD, List.getElem?_eq_getElem hi]
    rfl
  have := Lib.run_convert_whole (P := Tryd.prog) w 53 5 9 Tryd.underlying53 Tryd.underlying5 Tryd.underlying9 B 0 (strOf l) hb cap
  rwa [strOf_size] at this
/-- the cell of bytealg.MaxLen holds a number -/
def MaxC (w : World) : Prop := ∃ m : Int, w.cell? ⟨4, 0, none⟩ = some (.int .i64 m)
theorem MaxC.below {w w' : World} (h : MaxC w) (hb : Below w.heap.size w w') : MaxC w' := by
  obtain ⟨m, hm⟩ := h
  have hlt : 4 < w.heap.size := by
    rcases Nat.lt_or_ge 4 w.heap.size with h | h
    · exact h
    · rw [World.cell?, Array.getElem?_eq_none h] at hm; cases hm
  exact ⟨m, (hb.cell (p := ⟨4, 0, none⟩) hlt).trans hm⟩
theorem putTextM (s : ByteArray) (hs : s.size ≤ 9223372036854775807) (w : World) (hm : MaxC w) : Calls Tryd.prog 27 #[.string s] w (PutTEnd w s) := by
  obtain ⟨m, hm⟩ := hm
  exact putText_any s m w hs hm
theorem putT_length (l : List Nat) : (putT l).length ≤ 2 * l.length + 2 := by
  have h2 : ∀ l : List Nat, (esc l).length ≤ 2 * l.length := by
    intro l
    induction l with
    | nil => simp [esc]
    | cons a l ih => cases a <;> simp only [esc, List.length_cons] <;> omega
  have := h2 l
  simp only [putT, List.length_append, List.length_cons, List.length_nil]
  omega
end Go.Proofs.YtpfmfigommmjiaaDoor
