/- Joined: TreeOwnO, TabsLaid. -/
import Derived.Test.YtpfmfigommmjiaaDoorToAV
import Derived.Test.YtpfmfigommmjiaaDoorToAD
import Derived.Test.YtpfmfigommmjiaaDoorRows
namespace Go.Proofs.YtpfmfigommmjiaaDoor
open Go.RowKit Plain
set_option linter.unusedVariables false
set_option linter.unusedSimpArgs false
theorem len_wtN {H : Type} {P : Program} {t e : TypeId} {k : Nat} {d : DataW H} {n : Nat} (ht : P.underlying t = some (.slice e)) (hn : P.bytesOf e = n) (h : k = 0 ∨ ∃ elems spare, d = .slice elems spare ∧ elems.length = k) (hw : ∀ q ∈ d.weights P t, q ≤ reachBytes) : k * n ≤ reachBytes := by
  rcases h with rfl | ⟨e', s, rfl, h⟩
  · simp
  · have := hw ((e'.length + s.length) * P.bytesOf e) (by simp only [DataW.weights, ht]; exact List.mem_cons_self)
    rw [hn, Nat.add_mul, h] at this
    omega
theorem slice_len {w : World} {H : Type} {P : Program} {enc : TypeId × Value → H} {base : Nat} {sp : Nat → Bool} {held : Bool} {t e : TypeId} {d : DataW H} {p : List MemPlace} {a : Option Addr} {n c : Nat} (ht : P.underlying t = some (.slice e)) (hd : DataW.Trod enc P w base sp held t (.slice a n c) d p) : n = 0 ∨ ∃ elems spare, d = .slice elems spare ∧ elems.length = n := by
  obtain ⟨fuel, hf⟩ := hd
  rcases Go.Deep.open_slice ht hf with ⟨hcs, _⟩ | ⟨a', len, cap, m, k, D, Pl, hcs, _, hl, hm, hmm, hxd, hx⟩
  · simp only [Value.cells, List.cons.injEq, and_true, Value.slice.injEq] at hcs
    exact .inl hcs.2.1
  · simp only [Value.cells, List.cons.injEq, and_true, Value.slice.injEq] at hcs
    obtain ⟨rfl, rfl, rfl⟩ := hcs
    exact .inr ⟨_, _, congrArg Prod.fst hxd, by simp⟩
def NInW (W : World) (m : MN) : Prop := NIn W m ∧ m.2.2.2.2.2.1.2.2.length ≤ 17592186043904
set_option maxRecDepth 100000 in
theorem read_ndW {H : Type} {enc : TypeId × Value → H} {W : World} {base : Nat} {sp : Nat → Bool} {held : Bool} (fuel : Nat) (cs : List Value) (x : DataW H × List MemPlace) (h : DataW.trod enc Tryd.prog W base sp held fuel 40 cs = some x) (hw : ∀ n ∈ x.1.weights Tryd.prog 40, n ≤ reachBytes) : ∃ p : MN, cs = mnC p ∧ NInW W p := by
  obtain ⟨m, rfl, hin⟩ := read_nd fuel cs x h hw
  refine ⟨m, rfl, hin, ?_⟩
  obtain ⟨xs, n, rfl, rfl, hlen, hxl, hf⟩ := DataW.trod_struct Tryd.underlying40 h
  have hx5 : xs.length = 7 := hxl
  have f5 : DataW.trod enc Tryd.prog W base sp held n 38 (((mnC m).drop 5).take (Tryd.prog.cellsOf 38)) = xs[5]? := hf 5 _ rfl
  rw [cells_idsN] at f5
  rw [List.getElem?_eq_getElem (by omega)] at f5
  obtain ⟨p5, l5, c5, g5, _, _, _, _, h55⟩ := SAt.trod (n := 8) (c := idC) (fun t : ID8 => ∀ c ∈ idL t, c < 256) Tryd.underlying38 cells_idI (by decide) idC_length read_id8 f5
  have he : m.2.2.2.2.2.1.2.2.length = l5.length := by
    have g5 : [Value.slice m.2.2.2.2.2.1.1 m.2.2.2.2.2.1.2.2.length m.2.2.2.2.2.1.2.1] = [.slice p5 l5.length c5] := g5
    simp only [List.cons.injEq, and_true, Value.slice.injEq] at g5
    exact g5.2.1
  rw [he]
  have := len_wtN (k := l5.length) (d := (xs[5]'(by omega)).1) (n := 8) Tryd.underlying38 (by kernel_rfl) (by
    rcases h55 with h | h
    · exact .inl (by rw [h]; rfl)
    · exact .inr h) (fun q hq => hw q (by
      simp only [DataW.weights, Tryd.underlying40]
      refine DataW.weights_mem_each (j := 5) (t := 38) (d := (xs[5]'(by omega)).1) rfl ?_ _ hq
      rw [List.getElem?_map, List.getElem?_eq_getElem (by omega)]; rfl))
  have hr : reachBytes = 140737488351232 := rfl
  omega
set_option maxRecDepth 100000 in
theorem open_nodesW {H : Type} {enc : TypeId × Value → H} {W : World} {r : Reach} {base b0 : Nat} {sp : Nat → Bool} {held : Bool} {v : Value} {d : DataW H} {p : List MemPlace} (ho : Value.okWide Tryd.prog W r b0 34 v) (hd : DataW.Trod enc Tryd.prog W base sp held 34 v d p) (hw : ∀ n ∈ d.weights Tryd.prog 34, n ≤ reachBytes) :
    ∃ (a : Option Addr) (l : List MN) (cap : Nat), v = .slice a l.length cap ∧ l.length * 88 ≤ 140737488355328 ∧ (∀ m ∈ l, MZ m ∧ -9223372036854775808 ≤ m.2.2.2.1 ∧ m.2.2.2.1 ≤ 9223372036854775807) ∧ (∀ m ∈ l, m.2.2.2.2.2.1.2.2.length ≤ 17592186043904) ∧ NAt W a l := by
  obtain ⟨a, l, cap, rfl, h1, h2, h3, h4⟩ := SAt.open3 (n := 7) (c := mnC) (NInW W) Tryd.underlying34 cells_nd (by decide) mnC_length read_ndW ho hd hw
  have := len_wtN (n := 88) Tryd.underlying34 (by kernel_rfl) (slice_len Tryd.underlying34 hd) hw
  have hr : reachBytes = 140737488351232 := rfl
  exact ⟨a, l, cap, rfl, by omega, fun m hm => (h3 m hm).1.2, fun m hm => (h3 m hm).2, h4, fun m hm => (h3 m hm).1.1⟩
end Go.Proofs.YtpfmfigommmjiaaDoor
namespace Go.Proofs.YtpfmfigommmjiaaDoor
open Go.RowKit Plain Go.Proofs
theorem first_data : Rows.laid_unicode_utf8_first = Lib.firstData := by kernel_rfl
theorem accept_data : Rows.laid_unicode_utf8_acceptRanges = Lib.acceptData := by kernel_rfl
theorem tabs_of {W : World} (hL : laidMet Tryd.prog [("unicode/utf8.acceptRanges", Rows.laid_unicode_utf8_acceptRanges), ("unicode/utf8.first", Rows.laid_unicode_utf8_first)] W) : Tabs W := by
  rw [first_data, accept_data] at hL
  exact utf8Tabs_of_readsT (U8Types.of196 Tryd.lays196) ⟨by kernel_rfl, by kernel_rfl, by kernel_rfl, by kernel_rfl, by kernel_rfl, by kernel_rfl, by kernel_rfl⟩ (Lib.laidMet.reads hL (.tail _ (.head _))) (Lib.laidMet.reads hL (.head _))
end Go.Proofs.YtpfmfigommmjiaaDoor
