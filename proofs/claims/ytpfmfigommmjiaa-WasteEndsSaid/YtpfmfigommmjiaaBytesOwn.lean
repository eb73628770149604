/- Bytes that the call gathers by append, and the string that is made of them. -/
import Derived.Test.YtpfmfigommmjiaaMem
import Derived.Test.YtpfmfigommmjiaaAppend
import Derived.Lib.BufferRead
namespace Go.Proofs.Ytpfmfigommmjiaa
open Go.RowKit
theorem byte_get (s : ByteArray) (k : Nat) (h : k < s.size) : (s[k]).toNat = (strN s).getD k 0 := by
  rw [← strN_getD, List.getD_eq_getElem?_getD, List.getElem?_eq_getElem (by rw [Array.length_toList]; exact h)]
  rfl
/-- 'string(b)' of bytes of the call's own, nil let in -/
theorem run_string_own {P : Program} (w : World) (src e dst : TypeId) (hs : P.underlying src = some (.slice e)) (he : P.underlying e = some (.int .u8)) (hd : P.underlying dst = some .string) {base : Nat} {v : Value} {l : List Nat} (hl : ∀ c ∈ l, c < 256)
    (h : w.ownsRow base e 1 v l.length (l.map bV)) : (convert src dst v).run P w = .ok (.string (strOf l)) w := by
  rcases h.2 with ⟨rfl, h0⟩ | ⟨g, cap, cur, rfl, hb, hg, h3, h4, h5, h6⟩
  · obtain rfl := List.eq_nil_of_length_eq_zero h0
    exact Lib.run_convert_nil_bytes (P := P) w src dst e 0 hs he hd
  · have hbytes : Lib.Bytes w g 0 (strOf l) := by
      intro i hi
      rw [strOf_size] at hi
      rw [Nat.zero_add, cell_of_row _ _ _ _ _ _ hg]
      have h7 : (cur.toList.take (l.length * 1))[i]? = (l.map bV)[i]? := by rw [h6]
      rw [List.getElem?_take, if_pos (by omega), List.getElem?_map, List.getElem?_eq_getElem hi] at h7
      rw [← Array.getElem?_toList, h7]
      have hlt := hl _ (List.getElem_mem hi)
      have hb : ((strOf l)[i]'(by rw [strOf_size]; exact hi)).toNat = l[i] := by
        rw [byte_get, strN_strOf l hl, List.getD_eq_getElem?_getD, List.getElem?_eq_getElem hi]
        rfl
      rw [hb]
      rfl
    have := Lib.run_convert_whole (P := P) w src e dst hs he hd g 0 (strOf l) hbytes cap
    rwa [strOf_size] at this
end Go.Proofs.Ytpfmfigommmjiaa
