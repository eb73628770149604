/- Slices of bools: read off a row, opened, compared; what Reach leaves as a list that can be read. -/
import Derived.Test.YthfjonicolhjnaaOrder
import Derived.Test.YthfjonicolhjnaaReach
namespace Go.Proofs.Ythfjonicolhjnaa
open Go.RowKit Plain Go.ChangeShapes Go.WideShapes Go.ChangeAt
theorem sat_row {α : Type} {n : Nat} {c : α → List Value} {w : World} {l : List α} {g : Nat} {cs : Array Value} {t : TypeId} (hg : w.heap[g]? = some (.cells cs t (0, 0))) (hcs : cs.toList = l.flatMap c) (hc : ∀ y, (c y).length = n) : SAt n c w (some ⟨g, 0, none⟩) l := by
  intro i hi
  refine ⟨g, 0, rfl, lt_of_block hg, fun j u hu => ?_⟩
  have hj : j < n := by
    rcases Nat.lt_or_ge j n with h | h
    · exact h
    · rw [List.getElem?_eq_none (by rw [hc]; exact h)] at hu; cases hu
  rw [Nat.zero_add, cell_of_row _ _ _ _ _ _ hg, ← hu, ← flat_get hc l i j hi hj, ← hcs]
  simp
def bC (b : Bool) : List Value := [.bool b]
theorem bC_length (b : Bool) : (bC b).length = 1 := rfl
theorem bC_flat (l : List Bool) : l.flatMap bC = l.map Value.bool := by
  induction l with
  | nil => rfl
  | cons a l ih => rw [List.flatMap_cons, ih]; rfl
theorem sat_oC {w : World} {g : Nat} {o : List Bool} (h : w.heap[g]? = some (.cells (oC o) 4 (0, 0))) : SAt 1 bC w (some ⟨g, 0, none⟩) o := sat_row h (by rw [bC_flat]; rfl) bC_length
theorem SAt.bool {w : World} {a : Option Addr} {l : List Bool} (h : SAt 1 bC w a l) (i : Nat) (hi : i < l.length) : ∃ g off, a = some ⟨g, off, none⟩ ∧ g < w.heap.size ∧ w.cell? ⟨g, off + i, none⟩ = some (.bool l[i]) := by
  obtain ⟨g, off, e, hg, hr⟩ := h i hi
  have := hr 0 _ rfl
  exact ⟨g, off, e, hg, by rwa [Nat.mul_one, Nat.add_zero] at this⟩
theorem cells_bool : Try.prog.cellsOf 4 = 1 := by kernel_rfl
theorem read_bool {H : Type} {enc : TypeId × Value → H} {W : World} {base : Nat} {sp : Nat → Bool} {held : Bool} (fuel : Nat) (cs : List Value) (x : DataW H × List MemPlace) (h : DataW.trod enc Try.prog W base sp held fuel 4 cs = some x) : ∃ b : Bool, cs = bC b ∧ True := by
  obtain ⟨n, hn, _⟩ := DataW.trod_bool Try.underlying4 h
  exact ⟨n, hn, trivial⟩
set_option maxRecDepth 100000 in
theorem open_boolsS {H : Type} {enc : TypeId × Value → H} {W : World} {r : Reach} {base b0 : Nat} {sp : Nat → Bool} {held : Bool} {v : Value} {d : DataW H} {p : List MemPlace} (ho : Value.okWide Try.prog W r b0 50 v) (hd : DataW.Trod enc Try.prog W base sp held 50 v d p) :
    ∃ (a : Option Addr) (l : List Bool) (cap : Nat), v = .slice a l.length cap ∧ l.length ≤ 9223372036854775807 ∧ SAt 1 bC W a l := by
  obtain ⟨a, l, cap, hv, h1, h2, _, h4, _⟩ := SAt.open_ (n := 1) (c := bC) (fun _ => True) Try.underlying50 cells_bool (by decide) bC_length read_bool ho hd
  exact ⟨a, l, cap, hv, Nat.le_trans h1 h2, h4⟩
set_option maxRecDepth 100000 in
theorem eqBool_any (a b : Option Addr) (ca cb : Nat) (l m : List Bool) (w : World) (hl : SAt 1 bC w a l) (hm : SAt 1 bC w b m) (nl : l.length ≤ 9223372036854775807) (nm : m.length ≤ 9223372036854775807) :
    Calls Try.prog 24 #[.slice a l.length ca, .slice b m.length cb] w fun e w' => e = .returned (.bool (decide (l = m))) ∧ Below w.heap.size w w' := by
  have HL := Lib.hid hl
  have HM := Lib.hid hm
  clear hl hm
  by_cases hlen : l.length = m.length
  · have f1 : ((l.length : Int) != (m.length : Int)) = false := by simp [hlen]
    have HLEN := Lib.hid hlen
    clear hlen
    go_enter Try.func24, Try.ntmps24
    go_wp2_with fail
    go_loopw [13] (fun iv wr => ∃ i : Nat, i ≤ l.length ∧ iv = .int .i64 (i : Int) ∧ Below w.heap.size w wr ∧ l.take i = m.take i) (fun iv _ => l.length - (intOf iv).toNat)
    case atStart => exact ⟨0, by omega, rfl, Below.refl _ _, by simp⟩
    case round =>
      obtain ⟨i, hi, rfl, hbr, hall⟩ := hrel
      have HBR := Lib.hid hbr
      have HALL := Lib.hid hall
      clear hbr hall
      by_cases hlt : i < l.length
      · have m1 : (i : Int) < (l.length : Int) := by omega
        have hlt2 : i < m.length := by have := HLEN.out; omega
        have m2 : (i : Int) < (m.length : Int) := by omega
        obtain ⟨g, off, rfl, hg, hr⟩ := (HL.out.below HBR.out).bool i hlt
        obtain ⟨g', off', rfl, hg', hr'⟩ := (HM.out.below HBR.out).bool i hlt2
        have HST : Hid (l[i] = m[i] → l.take (i + 1) = m.take (i + 1)) := fun h => by rw [List.take_succ_eq_append_getElem hlt, List.take_succ_eq_append_getElem hlt2, HALL.out, h]
        have HNE : Hid (l[i] ≠ m[i] → l ≠ m) := fun h e => h (by subst e; rfl)
        generalize l[i] = t at *
        generalize m[i] = u at *
        clear hg hg'
        cases t <;> cases u
        · have HST2 := Lib.hid (HST.out rfl)
          clear HST HNE
          go_wp2_with fail
          go_quiet (fail)
          go_wp2_with fail
          go_roundw
          case rel => exact ⟨i + 1, by omega, by go_num, below_dn HBR.out _, HST2.out⟩
          case measure => simp [intOf]; omega
        · have HD := Lib.hid (HNE.out (by decide))
          clear HST HNE
          go_wp2_with fail
          go_quiet (fail)
          go_wp2_with fail
          go_ret
          exact ⟨by rw [decide_eq_false HD.out]; rfl, below_dn HBR.out _⟩
        · have HD := Lib.hid (HNE.out (by decide))
          clear HST HNE
          go_wp2_with fail
          go_quiet (fail)
          go_wp2_with fail
          go_ret
          exact ⟨by rw [decide_eq_false HD.out]; rfl, below_dn HBR.out _⟩
        · have HST2 := Lib.hid (HST.out rfl)
          clear HST HNE
          go_wp2_with fail
          go_quiet (fail)
          go_wp2_with fail
          go_roundw
          case rel => exact ⟨i + 1, by omega, by go_num, below_dn HBR.out _, HST2.out⟩
          case measure => simp [intOf]; omega
      · have m1 : ¬ (i : Int) < (l.length : Int) := by omega
        have HE : Hid (l = m) := by
          have h := HALL.out
          have := HLEN.out
          show _ = _
          rwa [List.take_of_length_le (by omega), List.take_of_length_le (by omega)] at h
        go_wp2_with fail
        go_ret
        exact ⟨by rw [decide_eq_true HE.out]; rfl, HBR.out⟩
  · have f1 : ((l.length : Int) != (m.length : Int)) = true := by simp; omega
    have HE : Hid (l ≠ m) := fun h => hlen (by rw [h])
    clear hlen
    go_enter Try.func24, Try.ntmps24
    go_wp2_with fail
    go_ret
    exact ⟨by rw [decide_eq_false HE.out]; rfl, Below.refl _ _⟩
/-- the little graph of 'chained' -/
def g3 : List (List Int) := [[1], [], []]
theorem g3_ok : Gok g3 := by refine ⟨by decide, ?_⟩; decide
theorem g3_rok : Rok g3 [0] := by refine ⟨by decide, ?_⟩; decide
theorem g3_spec : GSpec g3 [0] [true, true, false] := by
  refine ⟨rfl, fun k => ⟨fun h => ?_, fun h => ?_⟩⟩
  · match k, h with
    | 0, _ => exact .root (by decide)
    | 1, _ => exact .step (i := 0) (.root (by decide)) (by decide)
    | k + 2, h => match k, h with
      | 0, h => exact absurd h (by decide)
      | k + 1, h => simp at h
  · refine least (s := fun k => [true, true, false].getD k false = true) ?_ ?_ h
    · intro k hk
      have : k = 0 := by simpa using hk
      subst this; rfl
    · intro i k _ hk
      match i, hk with
      | 0, hk =>
        have : (k : Int) = 1 := by simpa [g3] using hk
        have : k = 1 := by omega
        subst this; rfl
      | 1, hk => simp [g3] at hk
      | 2, hk => simp [g3] at hk
      | i + 3, hk => simp [g3] at hk
theorem g3_ord : ord g3 g3.length (List.replicate g3.length false) [] = some [1, 0, 2] := by decide
theorem g3_at {w : World} {g h : Nat} (h1 : w.heap[g]? = some (.cells #[.int .i64 1] 3 (0, 0))) (h2 : w.heap[h]? = some (.cells #[.slice (some ⟨g, 0, none⟩) 1 1, .slice none 0 0, .slice none 0 0] 49 (0, 0))) : GAt w (some ⟨h, 0, none⟩) [(some ⟨g, 0, none⟩, 1, [1]), (none, 0, []), (none, 0, [])] := by
  refine ⟨sat_row h2 rfl gC_length, fun r hr => ?_⟩
  simp only [List.mem_cons, List.not_mem_nil, or_false] at hr
  rcases hr with rfl | rfl | rfl
  · exact ⟨sat_row h1 rfl iC_length, by simp⟩
  · exact ⟨SAt.nil, by simp⟩
  · exact ⟨SAt.nil, by simp⟩
theorem heap_two (w : World) (o1 o2 : Obj) : ((w.alloc o1).alloc o2).heap[w.heap.size]? = some o1 ∧ ((w.alloc o1).alloc o2).heap[w.heap.size + 1]? = some o2 := by
  constructor
  · exact (Below.heap_alloc (w.alloc o1) o2 w.heap.size (by simp)).trans (heap_alloc_new w o1)
  · have := heap_alloc_new (w.alloc o1) o2
    simpa using this
theorem heap_three (w : World) (o1 o2 o3 : Obj) : (((w.alloc o1).alloc o2).alloc o3).heap[w.heap.size]? = some o1 ∧ (((w.alloc o1).alloc o2).alloc o3).heap[w.heap.size + 1]? = some o2 :=
  ⟨(Below.heap_alloc ((w.alloc o1).alloc o2) o3 w.heap.size (by simp; omega)).trans (heap_two w o1 o2).1, (Below.heap_alloc ((w.alloc o1).alloc o2) o3 (w.heap.size + 1) (by simp)).trans (heap_two w o1 o2).2⟩
end Go.Proofs.Ythfjonicolhjnaa
