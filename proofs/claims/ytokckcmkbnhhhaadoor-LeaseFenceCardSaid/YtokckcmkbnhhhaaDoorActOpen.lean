/- A slice of acts that came in. -/
import Derived.Test.YtokckcmkbnhhhaaDoorLeaseAloneW2
import Derived.Test.YtokckcmkbnhhhaaDoorRows
namespace Go.Proofs.YtokckcmkbnhhhaaDoor
open Go.RowKit Go.ChangeShapes Go.WideShapes Go.ChangeAt
theorem cells_act : Tryd.prog.cellsOf 27 = 3 := by kernel_rfl
theorem read_act {H : Type} {enc : TypeId × Value → H} {W : World} {base : Nat} {sp : Nat → Bool} {held : Bool} (fuel : Nat) (cs : List Value) (x : DataW H × List MemPlace) (h : DataW.trod enc Tryd.prog W base sp held fuel 27 cs = some x) : ∃ y : Act3, cs = aC y ∧ True := by
  obtain ⟨hl, hf⟩ := trod_fields Tryd.underlying27 (by kernel_rfl) cells_act h
  obtain ⟨u0, m0, y0, e0, t0⟩ := hf 0 _ rfl
  obtain ⟨u1, m1, y1, e1, t1⟩ := hf 1 _ rfl
  obtain ⟨u2, m2, y2, e2, t2⟩ := hf 2 _ rfl
  obtain ⟨a, ha, _, _⟩ := DataW.trod_int Tryd.underlying3 t0
  obtain ⟨b, hb, _, _⟩ := DataW.trod_int Tryd.underlying3 t1
  obtain ⟨c, hc, _, _⟩ := DataW.trod_int Tryd.underlying3 t2
  simp only [List.cons.injEq, and_true] at ha hb hc
  subst ha hb hc
  match cs, hl, e0, e1, e2 with
  | [c0, c1, c2], _, e0, e1, e2 =>
    simp at e0 e1 e2
    subst e0 e1 e2
    exact ⟨(a, b, c), rfl, trivial⟩
set_option maxRecDepth 100000 in
theorem open_acts {H : Type} {enc : TypeId × Value → H} {W : World} {r : Reach} {base b0 : Nat} {sp : Nat → Bool} {held : Bool} {v : Value} {d : DataW H} {p : List MemPlace} (ho : Value.okWide Tryd.prog W r b0 22 v) (hd : DataW.Trod enc Tryd.prog W base sp held 22 v d p) :
    ∃ (a : Option Addr) (l : List Act3) (cap : Nat), v = .slice a l.length cap ∧ l.length ≤ 9223372036854775807 ∧ SAt 3 aC W a l ∧ (l = [] ∨ ∃ elems spare, d = .slice elems spare ∧ elems.length = l.length) := by
  obtain ⟨a, l, cap, hv, h1, h2, _, h4, h5⟩ := SAt.open_ (n := 3) (c := aC) (fun _ => True) Tryd.underlying22 cells_act (by decide) aC_length read_act ho hd
  exact ⟨a, l, cap, hv, Nat.le_trans h1 h2, h4, h5⟩
theorem upto_one {H : Type} (d : DataW H) : 1 ≤ Rows.uptoBulk d := by
  cases d with
  | lit l => cases l <;> simp [Rows.uptoBulk]
  | _ => simp [Rows.uptoBulk]
theorem upto_len {H : Type} : ∀ l : List (DataW H), l.length ≤ Rows.uptoBulkAll l
  | [] => Nat.zero_le _
  | d :: l => by
    have := upto_len l
    have := upto_one d
    simp only [List.length_cons, Rows.uptoBulkAll]
    omega
end Go.Proofs.YtokckcmkbnhhhaaDoor
