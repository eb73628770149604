/- The walk of roll.Of: the checksum of the last bytes of a string; it writes nothing that was there. -/
import Derived.Test.YtbmklkjjkjgehaaRollW
import Derived.Test.YtbmklkjjkjgehaaRollSum
import Derived.Test.YtbmklkjjkjgehaaMem
namespace Go.Proofs.Ytbmklkjjkjgehaa
open Go.RowKit Plain
set_option maxRecDepth 100000 in
theorem shift_any (n : Nat) (w : World) (hn : n < 4294967296) :
    Calls Try.prog 85 #[.int .u32 n] w fun e w' => e = .returned (.int .u32 (shf n)) ∧ w = w' := by
  have hs : shf n = red (n * 256) := by unfold shf; rw [Nat.shiftLeft_eq]
  have H := Lib.hid hs
  clear hs
  go_enter Try.func85, Try.ntmps85
  go_wp2_with (go_at_call 86; refine (reduce_int _ _ (by omega) (by omega)).mono ?_; rintro e w' ⟨rfl, rfl⟩)
  go_ret
  refine ⟨ret_int ?_, rfl⟩
  rw [H.out]
  congr 2
theorem shift_int (n : Int) (w : World) (h0 : 0 ≤ n) (hn : n < 4294967296) :
    Calls Try.prog 85 #[.int .u32 n] w fun e w' => e = .returned (.int .u32 (shf n.toNat)) ∧ w = w' := by
  obtain ⟨A, rfl⟩ := Int.eq_ofNat_of_zero_le h0
  exact shift_any A w (by omega)
theorem rfold_take (l : List Nat) (k : Nat) (h : k < l.length) : rfold 0 (l.take (k + 1)) = shf (rfold 0 (l.take k)) ^^^ l.getD k 0 := by
  rw [List.take_succ_eq_append_getElem h, rfold_snoc, List.getD_eq_getElem?_getD, List.getElem?_eq_getElem h]
  rfl
end Go.Proofs.Ytbmklkjjkjgehaa
