/- Slices of ints: their cells, opened, compared. -/
import Derived.Test.YtpfmfigommmjiaaRows
import Derived.Test.YtpfmfigommmjiaaSlices
import Derived.Test.YtpfmfigommmjiaaAppend
import Derived.Test.YtpfmfigommmjiaaBits
import Derived.WalkSpells
import Derived.WalkLawsBesides
import Derived.Deep.QuietTactic
import Derived.BigQuiet
namespace Go.Proofs.Ytpfmfigommmjiaa
open Go.RowKit Go.ChangeShapes Go.WideShapes Go.ChangeAt
/-- the cell of an int -/
def iC (n : Int) : List Value := [.int .i64 n]
theorem iC_length (n : Int) : (iC n).length = 1 := rfl
theorem iC_flat (l : List Int) : l.flatMap iC = l.map (Value.int .i64) := by
  induction l with
  | nil => rfl
  | cons a l ih => rw [List.flatMap_cons, ih]; rfl
theorem cells_int : Try.prog.cellsOf 3 = 1 := by kernel_rfl
theorem SAt.int {w : World} {a : Option Addr} {l : List Int} (h : SAt 1 iC w a l) (i : Nat) (hi : i < l.length) : ∃ g off, a = some ⟨g, off, none⟩ ∧ g < w.heap.size ∧ w.cell? ⟨g, off + i, none⟩ = some (.int .i64 l[i]) := by
  obtain ⟨g, off, e, hg, hr⟩ := h i hi
  have := hr 0 _ rfl
  exact ⟨g, off, e, hg, by rwa [Nat.mul_one, Nat.add_zero] at this⟩
def I64 (n : Int) : Prop := -9223372036854775808 ≤ n ∧ n ≤ 9223372036854775807
/-- an int that is read -/
theorem read_int {H : Type} {enc : TypeId × Value → H} {W : World} {base : Nat} {sp : Nat → Bool} {held : Bool} (fuel : Nat) (cs : List Value) (x : DataW H × List MemPlace) (h : DataW.trod enc Try.prog W base sp held fuel 3 cs = some x) : ∃ n : Int, cs = iC n ∧ I64 n := by
  obtain ⟨n, hn, _, wn⟩ := DataW.trod_int Try.underlying3 h
  exact ⟨n, hn, i64Of wn⟩
theorem trod_ints {H : Type} {enc : TypeId × Value → H} {W : World} {base : Nat} {sp : Nat → Bool} {held : Bool} (fuel : Nat) (cs : List Value) (x : DataW H × List MemPlace) (h : DataW.trod enc Try.prog W base sp held fuel 24 cs = some x) :
    ∃ (a : Option Addr) (l : List Int) (cap : Nat), cs = [.slice a l.length cap] ∧ l.length ≤ 9223372036854775807 ∧ (∀ n ∈ l, I64 n) ∧ SAt 1 iC W a l := by
  obtain ⟨a, l, cap, hv, h1, h2, h3, h4, _⟩ := SAt.trod (n := 1) (c := iC) I64 Try.underlying24 cells_int (by decide) iC_length read_int h
  exact ⟨a, l, cap, hv, Nat.le_trans h1 h2, h3, h4⟩
set_option maxRecDepth 100000 in
theorem open_intsS {H : Type} {enc : TypeId × Value → H} {W : World} {r : Reach} {base b0 : Nat} {sp : Nat → Bool} {held : Bool} {v : Value} {d : DataW H} {p : List MemPlace} (ho : Value.okWide Try.prog W r b0 24 v) (hd : DataW.Trod enc Try.prog W base sp held 24 v d p) :
    ∃ (a : Option Addr) (l : List Int) (cap : Nat), v = .slice a l.length cap ∧ l.length ≤ 9223372036854775807 ∧ (∀ n ∈ l, I64 n) ∧ SAt 1 iC W a l ∧ (l = [] ∨ ∃ elems spare, d = .slice elems spare ∧ elems.length = l.length) := by
  obtain ⟨a, l, cap, hv, h1, h2, h3, h4, h5⟩ := SAt.open_ (n := 1) (c := iC) I64 Try.underlying24 cells_int (by decide) iC_length read_int ho hd
  exact ⟨a, l, cap, hv, Nat.le_trans h1 h2, h3, h4, h5⟩
set_option maxRecDepth 100000 in
theorem eqInt_any (a b : Option Addr) (ca cb : Nat) (l m : List Int) (w : World) (hl : SAt 1 iC w a l) (hm : SAt 1 iC w b m) (nl : l.length ≤ 9223372036854775807) (nm : m.length ≤ 9223372036854775807) :
    Calls Try.prog 6 #[.slice a l.length ca, .slice b m.length cb] w fun e w' => e = .returned (.bool (decide (l = m))) ∧ Below w.heap.size w w' := by
  have HL := Lib.hid hl
  have HM := Lib.hid hm
  clear hl hm
  by_cases hlen : l.length = m.length
  · have f1 : ((l.length : Int) != (m.length : Int)) = false := by simp [hlen]
    have HLEN := Lib.hid hlen
    clear hlen
    go_enter Try.func6, Try.ntmps6
    go_wp2_with fail
    go_loopw [13] (fun iv wr => ∃ i : Nat, i ≤ l.length ∧ iv = .int .i64 (i : Int) ∧ Below w.heap.size w wr ∧ l.take i = m.take i) (fun iv _ => l.length - (intOf iv).toNat)
    case atStart => exact ⟨0, by omega, rfl, Below.refl _ _, by simp⟩
    case round =>
      obtain ⟨i, hi, rfl, hbr, hall⟩ := hrel
      have HBR := Lib.hid hbr
      have HALL := Lib.hid hall
      clear hbr hall
      by_cases hlt : i < l.length
      · have m1 : (i : Int) < (l.length : Int) := by omega
        have hlt2 : i < m.length := by have := HLEN.out; omega
        have m2 : (i : Int) < (m.length : Int) := by omega
        obtain ⟨g, off, rfl, hg, hr⟩ := (HL.out.below HBR.out).int i hlt
        obtain ⟨g', off', rfl, hg', hr'⟩ := (HM.out.below HBR.out).int i hlt2
        have HST : Hid (l[i] = m[i] → l.take (i + 1) = m.take (i + 1)) := fun h => by rw [List.take_succ_eq_append_getElem hlt, List.take_succ_eq_append_getElem hlt2, HALL.out, h]
        have HNE : Hid (l[i] ≠ m[i] → l ≠ m) := fun h e => h (by subst e; rfl)
        generalize l[i] = t at *
        generalize m[i] = u at *
        clear hg hg'
        by_cases e1 : t = u
        · have HST2 := Lib.hid (HST.out e1)
          have n1 : (t != u) = false := by simp [e1]
          clear e1
          go_wp2_with fail
          go_quiet (fail)
          go_wp2_with fail
          go_roundw
          case rel => exact ⟨i + 1, by omega, by go_num, below_dn HBR.out _, HST2.out⟩
          case measure => simp [intOf]; omega
        · have HD := Lib.hid (HNE.out e1)
          have n1 : (t != u) = true := by simp [e1]
          clear e1
          go_wp2_with fail
          go_quiet (fail)
          go_wp2_with fail
          go_ret
          exact ⟨by rw [decide_eq_false HD.out]; rfl, below_dn HBR.out _⟩
      · have m1 : ¬ (i : Int) < (l.length : Int) := by omega
        have HE : Hid (l = m) := by
          have h := HALL.out
          have := HLEN.out
          show _ = _
          rwa [List.take_of_length_le (by omega), List.take_of_length_le (by omega)] at h
        go_wp2_with fail
        go_ret
        exact ⟨by rw [decide_eq_true HE.out]; rfl, HBR.out⟩
  · have f1 : ((l.length : Int) != (m.length : Int)) = true := by simp; omega
    have HE : Hid (l ≠ m) := fun h => hlen (by rw [h])
    clear hlen
    go_enter Try.func6, Try.ntmps6
    go_wp2_with fail
    go_ret
    exact ⟨by rw [decide_eq_false HE.out]; rfl, Below.refl _ _⟩
end Go.Proofs.Ytpfmfigommmjiaa
