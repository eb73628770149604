/- Shards and strings that came in, bounded by what they weigh. -/
import Derived.Test.YtigdpmeeibkifaaShBase
import Derived.Test.YtigdpmeeibkifaaStrs
namespace Go.Proofs.Ytigdpmeeibkifaa
open Go.RowKit Go.ChangeShapes Go.WideShapes Go.ChangeAt Plain
theorem len_wtS {H : Type} {P : Program} {t e : TypeId} {α : Type} {l : List α} {d : DataW H} {n : Nat} (ht : P.underlying t = some (.slice e)) (hn : P.bytesOf e = n) (h : l = [] ∨ ∃ elems spare, d = .slice elems spare ∧ elems.length = l.length) (hw : ∀ q ∈ d.weights P t, q ≤ reachBytes) : l.length * n ≤ reachBytes := by
  rcases h with rfl | ⟨e', s, rfl, h⟩
  · simp
  · have := hw ((e'.length + s.length) * P.bytesOf e) (by simp only [DataW.weights, ht]; exact List.mem_cons_self)
    rw [hn, Nat.add_mul, h] at this
    omega
theorem cells_sh : Try.prog.cellsOf 28 = 2 := by kernel_rfl
theorem read_sh {H : Type} {enc : TypeId × Value → H} {W : World} {base : Nat} {sp : Nat → Bool} {held : Bool} (fuel : Nat) (cs : List Value) (x : DataW H × List MemPlace) (h : DataW.trod enc Try.prog W base sp held fuel 28 cs = some x) : ∃ y : ShT, cs = shC y ∧ True := by
  obtain ⟨hl, hf⟩ := trod_fields Try.underlying28 (by kernel_rfl) cells_sh h
  obtain ⟨u0, m0, y0, e0, t0⟩ := hf 0 _ rfl
  obtain ⟨u1, m1, y1, e1, t1⟩ := hf 1 _ rfl
  obtain ⟨b, hb, _⟩ := DataW.trod_bool Try.underlying4 t0
  obtain ⟨t, ht, _⟩ := DataW.trod_string Try.underlying9 t1
  simp only [List.cons.injEq, and_true] at hb ht
  subst hb ht
  match cs, hl, e0, e1 with
  | [c0, c1], _, e0, e1 =>
    simp at e0 e1
    subst e0 e1
    exact ⟨(b, t), rfl, trivial⟩
set_option maxRecDepth 100000 in
theorem open_shardsW {H : Type} {enc : TypeId × Value → H} {W : World} {r : Reach} {base b0 : Nat} {sp : Nat → Bool} {held : Bool} {v : Value} {d : DataW H} {p : List MemPlace} (ho : Value.okWide Try.prog W r b0 24 v) (hd : DataW.Trod enc Try.prog W base sp held 24 v d p) (hw : ∀ q ∈ d.weights Try.prog 24, q ≤ reachBytes) :
    ∃ (a : Option Addr) (l : List ShT) (cap : Nat), v = .slice a l.length cap ∧ l.length ≤ 5864062014634 ∧ SAt 2 shC W a l := by
  obtain ⟨a, l, cap, rfl, h1, h2, h3, h4, h5⟩ := SAt.open_ (n := 2) (c := shC) (fun _ : ShT => True) Try.underlying24 cells_sh (by decide) shC_length read_sh ho hd
  have h6 := len_wtS (n := 24) Try.underlying24 (by kernel_rfl) h5 hw
  unfold reachBytes at h6
  exact ⟨a, l, cap, rfl, by omega, h4⟩
set_option maxRecDepth 100000 in
theorem open_strsW {H : Type} {enc : TypeId × Value → H} {W : World} {r : Reach} {base b0 : Nat} {sp : Nat → Bool} {held : Bool} {v : Value} {d : DataW H} {p : List MemPlace} (ho : Value.okWide Try.prog W r b0 22 v) (hd : DataW.Trod enc Try.prog W base sp held 22 v d p) (hw : ∀ q ∈ d.weights Try.prog 22, q ≤ reachBytes) :
    ∃ (a : Option Addr) (l : List ByteArray) (cap : Nat), v = .slice a l.length cap ∧ l.length ≤ 8796093021952 ∧ SAt 1 sC W a l := by
  obtain ⟨a, l, cap, rfl, h1, h2, h3, h4, h5⟩ := open_strs ho hd
  have h6 := len_wtS (n := 16) Try.underlying22 (by kernel_rfl) h5 hw
  unfold reachBytes at h6
  exact ⟨a, l, cap, rfl, by omega, h4⟩
end Go.Proofs.Ytigdpmeeibkifaa
