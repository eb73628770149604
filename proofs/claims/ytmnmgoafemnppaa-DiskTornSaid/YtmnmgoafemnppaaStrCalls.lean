/- Calls of the library over slices of strings: strings.Join without a separator, slices.Equal. -/
import Derived.Test.YtmnmgoafemnppaaStrs
import Derived.Lib.Join
import Derived.Test.YtmnmgoafemnppaaShelf
namespace Go.Proofs.Ytmnmgoafemnppaa
open Go.RowKit
theorem str_data2 (l : List Nat) : (strOf l).data.toList = l.map UInt8.ofNat := by simp [strOf]
theorem strN_data2 (s : ByteArray) : s.data.toList = (strN s).map UInt8.ofNat := by
  rw [← str_data2, strOf_strN]
theorem join_nosep : ∀ xs : List (List UInt8), Lib.join xs [] = xs.flatten
  | [] => rfl
  | [x] => by simp [Lib.join, List.intercalate, List.intersperse]
  | x :: y :: l => by
    have ih := join_nosep (y :: l)
    simp only [Lib.join, List.intercalate] at ih ⊢
    rw [show List.intersperse ([] : List UInt8) (x :: y :: l) = x :: [] :: List.intersperse [] (y :: l) from rfl, List.flatten_cons, List.flatten_cons, ih]
    rfl
theorem flat_data : ∀ l : List ByteArray, (l.map (·.data.toList)).flatten = ((l.map strN).flatten).map UInt8.ofNat
  | [] => rfl
  | s :: l => by rw [List.map_cons, List.flatten_cons, flat_data l, List.map_cons, List.flatten_cons, List.map_append, strN_data2 s]
def JoinEnd (w0 : World) (l : List ByteArray) (e : Ending) (w : World) : Prop := e = .returned (.string (strOf ((l.map strN).flatten))) ∧ Below w0.heap.size w0 w
theorem eqStr_any (a b : Option Addr) (ca cb : Nat) (l m : List ByteArray) (w : World) (hl : SAt 1 sC w a l) (hm : SAt 1 sC w b m) (nl : l.length ≤ 9223372036854775807) (nm : m.length ≤ 9223372036854775807) :
    Calls Try.prog 13 #[.slice a l.length ca, .slice b m.length cb] w fun e w' => e = .returned (.bool (decide (l = m))) ∧ ∃ q, w' = w.drewN q := by
  by_cases hne : l.length = m.length
  · cases l with
    | nil =>
      obtain rfl : m = [] := List.eq_nil_of_length_eq_zero (by simpa using hne.symm)
      exact (Try.slices_Equal_string_empty a b ca 0 cb w nm).mono fun e w' ⟨he, hw⟩ => ⟨by rw [he]; rfl, 0, hw⟩
    | cons x l =>
      cases m with
      | nil => simp at hne
      | cons y m =>
        obtain ⟨g, off, rfl, _, _⟩ := hl 0 (by simp)
        obtain ⟨g2, off2, rfl, _, _⟩ := hm 0 (by simp)
        have cell : ∀ {g off : Nat} {l : List ByteArray}, SAt 1 sC w (some ⟨g, off, none⟩) l → ∀ j, j < l.length → w.cell? ⟨g, off + j, none⟩ = some (.string (l.getD j ByteArray.empty)) := by
          intro g off l h j hj
          obtain ⟨g3, off3, e, hc⟩ := str_cell h j hj
          cases e
          rw [hc, List.getD_eq_getElem?_getD, List.getElem?_eq_getElem hj]
          rfl
        refine (Try.slices_Equal_string g off (x :: l).length ca g2 off2 (y :: m).length cb (x :: l) (y :: m) w (Nat.le_refl _) (Nat.le_refl _) nl nm (cell hl) (cell hm)).mono fun e w' ⟨he, hw⟩ => ⟨?_, hw⟩
        rw [he, List.take_length, List.take_length]
  · refine (Try.slices_Equal_string_lens a b l.length ca m.length cb w hne).mono fun e w' ⟨he, hw⟩ => ⟨?_, 0, hw⟩
    rw [he, decide_eq_false]
    rintro rfl
    exact hne rfl
theorem SAt.tail {α : Type} {n : Nat} {c : α → List Value} {w : World} {g off : Nat} {l : List α} (h : SAt n c w (some ⟨g, off, none⟩) l) (i : Nat) : SAt n c w (some ⟨g, off + i * n, none⟩) (l.drop i) := by
  intro k hk
  rw [List.length_drop] at hk
  obtain ⟨g2, off2, e, hg, hr⟩ := h (i + k) (by omega)
  cases e
  refine ⟨g, off + i * n, rfl, hg, ?_⟩
  rw [List.getElem_drop, Nat.add_assoc, ← Nat.add_mul]
  exact hr
end Go.Proofs.Ytmnmgoafemnppaa
