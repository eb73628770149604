/- Calls of the library over slices of strings: strings.Join without a separator, slices.Equal. -/
import Derived.Test.YtpfmfigommmjiaaDoorStrs
import Derived.Lib.Join
import Derived.Test.YtpfmfigommmjiaaDoorShelf
namespace Go.Proofs.YtpfmfigommmjiaaDoor
open Go.RowKit
theorem str_data2 (l : List Nat) : (strOf l).data.toList = l.map UInt8.ofNat := by simp [strOf]
theorem strN_data2 (s : ByteArray) : s.data.toList = (strN s).map UInt8.ofNat := by
  rw [← str_data2, strOf_strN]
theorem join_nosep : ∀ xs : List (List UInt8), Lib.join xs [] = xs.flatten
  | [] => rfl
  | [x] => by simp [Lib.join, List.intercalate, List.intersperse]
  | x :: y :: l => by
    have ih := join_nosep (y :: l)
    simp only [Lib.join, List.intercalate] at ih ⊢
    rw [show List.intersperse ([] : List UInt8) (x :: y :: l) = x :: [] :: List.intersperse [] (y :: l) from rfl, List.flatten_cons, List.flatten_cons, ih]
    rfl
theorem flat_data : ∀ l : List ByteArray, (l.map (·.data.toList)).flatten = ((l.map strN).flatten).map UInt8.ofNat
  | [] => rfl
  | s :: l => by rw [List.map_cons, List.flatten_cons, flat_data l, List.map_cons, List.flatten_cons, List.map_append, strN_data2 s]
def JoinEnd (w0 : World) (l : List ByteArray) (e : Ending) (w : World) : Prop := e = .returned (.string (strOf ((l.map strN).flatten))) ∧ Below w0.heap.size w0 w
theorem join_any (a : Option Addr) (cap : Nat) (l : List ByteArray) (w : World) (h : SAt 1 sC w a l) (hN : l.length ≤ 140737488355328) (hc : l.length ≤ cap) (hlen : (l.map strN).flatten.length ≤ 140737488355328) :
    Calls Tryd.prog 21 #[.slice a l.length cap, .string ⟨#[]⟩] w (JoinEnd w l) := by
  cases l with
  | nil => exact (Tryd.strings_Join_none a cap ⟨#[]⟩ w).mono fun e w' ⟨he, hw⟩ => ⟨he, hw ▸ Below.refl _ _⟩
  | cons s l =>
    obtain ⟨g, off, rfl, hg, _⟩ := h 0 (by simp)
    have e1 : Lib.join ((s :: l).map (·.data.toList)) (⟨#[]⟩ : ByteArray).data.toList = (((s :: l).map strN).flatten).map UInt8.ofNat := by
      rw [← flat_data]; exact join_nosep _
    refine (Tryd.strings_Join g off cap (s :: l) ⟨#[]⟩ w (fun j x hx => ?_) hg hN hc (by rw [e1, List.length_map]; exact hlen)).mono fun e w' ⟨he, hw⟩ => ⟨?_, hw⟩
    · obtain ⟨hj, rfl⟩ := List.getElem?_eq_some_iff.1 hx
      obtain ⟨g2, off2, e, hcell⟩ := str_cell h j hj
      cases e
      exact hcell
    · rw [he, e1]; rfl
theorem SAt.tail {α : Type} {n : Nat} {c : α → List Value} {w : World} {g off : Nat} {l : List α} (h : SAt n c w (some ⟨g, off, none⟩) l) (i : Nat) : SAt n c w (some ⟨g, off + i * n, none⟩) (l.drop i) := by
  intro k hk
  rw [List.length_drop] at hk
  obtain ⟨g2, off2, e, hg, hr⟩ := h (i + k) (by omega)
  cases e
  refine ⟨g, off + i * n, rfl, hg, ?_⟩
  rw [List.getElem_drop, Nat.add_assoc, ← Nat.add_mul]
  exact hr
end Go.Proofs.YtpfmfigommmjiaaDoor
