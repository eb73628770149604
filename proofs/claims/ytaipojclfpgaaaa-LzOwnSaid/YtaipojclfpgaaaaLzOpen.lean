/- Tokens that came in. -/
import Derived.Test.YtaipojclfpgaaaaLzW
namespace Go.Proofs.Ytaipojclfpgaaaa
open Go.RowKit Go.ChangeShapes Go.WideShapes Go.ChangeAt Plain
theorem cells_tok : Try.prog.cellsOf 60 = 3 := by kernel_rfl
theorem read_tok {H : Type} {enc : TypeId × Value → H} {W : World} {base : Nat} {sp : Nat → Bool} {held : Bool} (fuel : Nat) (cs : List Value) (x : DataW H × List MemPlace) (h : DataW.trod enc Try.prog W base sp held fuel 60 cs = some x) : ∃ t : Tok, cs = tC t ∧ t.1 < 256 := by
  obtain ⟨hl, hf⟩ := trod_fields Try.underlying60 (by kernel_rfl) cells_tok h
  obtain ⟨u0, m0, y0, e0, t0⟩ := hf 0 _ rfl
  obtain ⟨u1, m1, y1, e1, t1⟩ := hf 1 _ rfl
  obtain ⟨u2, m2, y2, e2, t2⟩ := hf 2 _ rfl
  obtain ⟨a, ha, _, wa⟩ := DataW.trod_int Try.underlying5 t0
  obtain ⟨b, hb, _, _⟩ := DataW.trod_int Try.underlying3 t1
  obtain ⟨c, hc, _, _⟩ := DataW.trod_int Try.underlying3 t2
  obtain ⟨n, rfl, hn⟩ := byteOf wa
  simp only [List.cons.injEq, and_true] at ha hb hc
  subst ha hb hc
  match cs, hl, e0, e1, e2 with
  | [c0, c1, c2], _, e0, e1, e2 =>
    simp at e0 e1 e2
    subst e0 e1 e2
    exact ⟨(n, b, c), rfl, hn⟩
set_option maxRecDepth 100000 in
theorem open_toks {H : Type} {enc : TypeId × Value → H} {W : World} {r : Reach} {base b0 : Nat} {sp : Nat → Bool} {held : Bool} {v : Value} {d : DataW H} {p : List MemPlace} (ho : Value.okWide Try.prog W r b0 55 v) (hd : DataW.Trod enc Try.prog W base sp held 55 v d p) :
    ∃ (a : Option Addr) (l : List Tok) (cap : Nat), v = .slice a l.length cap ∧ l.length ≤ 9223372036854775807 ∧ (∀ t ∈ l, t.1 < 256) ∧ SAt 3 tC W a l := by
  obtain ⟨a, l, cap, rfl, h1, h2, h3, h4, _⟩ := SAt.open_ (n := 3) (c := tC) (fun t : Tok => t.1 < 256) Try.underlying55 cells_tok (by decide) tC_length read_tok ho hd
  exact ⟨a, l, cap, rfl, by omega, h3, h4⟩
end Go.Proofs.Ytaipojclfpgaaaa
