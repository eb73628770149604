/- Slices of bools: read off a row, opened, compared; what Reach leaves as a list that can be read. -/
import Derived.Test.YtgoocmocdimnoaaOrder
import Derived.Test.YtgoocmocdimnoaaReach
namespace Go.Proofs.Ytgoocmocdimnoaa
open Go.RowKit Plain Go.ChangeShapes Go.WideShapes Go.ChangeAt
theorem sat_row {α : Type} {n : Nat} {c : α → List Value} {w : World} {l : List α} {g : Nat} {cs : Array Value} {t : TypeId} (hg : w.heap[g]? = some (.cells cs t (0, 0))) (hcs : cs.toList = l.flatMap c) (hc : ∀ y, (c y).length = n) : SAt n c w (some ⟨g, 0, none⟩) l := by
  intro i hi
  refine ⟨g, 0, rfl, lt_of_block hg, fun j u hu => ?_⟩
  have hj : j < n := by
    rcases Nat.lt_or_ge j n with h | h
    · exact h
    · rw [List.getElem?_eq_none (by rw [hc]; exact h)] at hu; cases hu
  rw [Nat.zero_add, cell_of_row _ _ _ _ _ _ hg, ← hu, ← flat_get hc l i j hi hj, ← hcs]
  simp
def bC (b : Bool) : List Value := [.bool b]
theorem bC_length (b : Bool) : (bC b).length = 1 := rfl
theorem bC_flat (l : List Bool) : l.flatMap bC = l.map Value.bool := by
  induction l with
  | nil => rfl
  | cons a l ih => rw [List.flatMap_cons, ih]; rfl
theorem sat_oC {w : World} {g : Nat} {o : List Bool} (h : w.heap[g]? = some (.cells (oC o) 4 (0, 0))) : SAt 1 bC w (some ⟨g, 0, none⟩) o := sat_row h (by rw [bC_flat]; rfl) bC_length
theorem SAt.bool {w : World} {a : Option Addr} {l : List Bool} (h : SAt 1 bC w a l) (i : Nat) (hi : i < l.length) : ∃ g off, a = some ⟨g, off, none⟩ ∧ g < w.heap.size ∧ w.cell? ⟨g, off + i, none⟩ = some (.bool l[i]) := by
  obtain ⟨g, off, e, hg, hr⟩ := h i hi
  have := hr 0 _ rfl
  exact ⟨g, off, e, hg, by rwa [Nat.mul_one, Nat.add_zero] at this⟩
theorem cells_bool : Try.prog.cellsOf 4 = 1 := by kernel_rfl
theorem read_bool {H : Type} {enc : TypeId × Value → H} {W : World} {base : Nat} {sp : Nat → Bool} {held : Bool} (fuel : Nat) (cs : List Value) (x : DataW H × List MemPlace) (h : DataW.trod enc Try.prog W base sp held fuel 4 cs = some x) : ∃ b : Bool, cs = bC b ∧ True := by
  obtain ⟨n, hn, _⟩ := DataW.trod_bool Try.underlying4 h
  exact ⟨n, hn, trivial⟩
set_option maxRecDepth 100000 in
theorem open_boolsS {H : Type} {enc : TypeId × Value → H} {W : World} {r : Reach} {base b0 : Nat} {sp : Nat → Bool} {held : Bool} {v : Value} {d : DataW H} {p : List MemPlace} (ho : Value.okWide Try.prog W r b0 24 v) (hd : DataW.Trod enc Try.prog W base sp held 24 v d p) :
    ∃ (a : Option Addr) (l : List Bool) (cap : Nat), v = .slice a l.length cap ∧ l.length ≤ 9223372036854775807 ∧ SAt 1 bC W a l := by
  obtain ⟨a, l, cap, hv, h1, h2, _, h4, _⟩ := SAt.open_ (n := 1) (c := bC) (fun _ => True) Try.underlying24 cells_bool (by decide) bC_length read_bool ho hd
  exact ⟨a, l, cap, hv, Nat.le_trans h1 h2, h4⟩
set_option maxRecDepth 100000 in
theorem eqBool_any (a b : Option Addr) (ca cb : Nat) (l m : List Bool) (w : World) (hl : SAt 1 bC w a l) (hm : SAt 1 bC w b m) (nl : l.length ≤ 9223372036854775807) (nm : m.length ≤ 9223372036854775807) :
    Calls Try.prog 39 #[.slice a l.length ca, .slice b m.length cb] w fun e w' => e = .returned (.bool (decide (l = m))) ∧ Below w.heap.size w w' := by
  have HL := Lib.hid hl
  have HM := Lib.hid hm
  clear hl hm
  by_cases hlen : l.length = m.length
  · have f1 : ((l.length : Int) != (m.length : Int)) = false := by simp [hlen]
    have HLEN := Lib.hid hlen
    clear hlen
    go_enter Try.func39, Try.ntmps39
    go_wp2_with fail
    go_loopw [13] (fun iv wr => ∃ i : Nat, i ≤ l.length ∧ iv = .int .i64 (i : Int) ∧ Below w.heap.size w wr ∧ l.take i = m.take i) (fun iv _ => l.length - (intOf iv).toNat)
    case atStart => exact ⟨0, by omega, rfl, Below.refl _ _, by simp⟩
    case round =>
      obtain ⟨i, hi, rfl, hbr, hall⟩ := hrel
      have HBR := Lib.hid hbr
      have HALL := Lib.hid hall
      clear hbr hall
      by_cases hlt : i < l.length
      · have m1 : (i : Int) < (l.length : Int) := by omega
        have hlt2 : i < m.length := by have := HLEN.out; omega
        have m2 : (i : Int) < (m.length : Int) := by omega
        obtain ⟨g, off, rfl, hg, hr⟩ := (HL.out.below HBR.out).bool i hlt
        obtain ⟨g', off', rfl, hg', hr'⟩ := (HM.out.below HBR.out).bool i hlt2
        have HST : Hid (l[i] = m[i] → l.take (i + 1) = m.take (i + 1)) := fun h => by rw [List.take_succ_eq_append_getElem hlt, List.take_succ_eq_append_getElem hlt2, HALL.out, h]
        have HNE : Hid (l[i] ≠ m[i] → l ≠ m) := fun h e => h (by subst e; rfl)
        generalize l[i] = t at *
        generalize m[i] = u at *
        clear hg hg'
        cases t <;> cases u
        · have HST2 := Lib.hid (HST.out rfl)
          clear HST HNE
          go_wp2_with fail
          go_quiet (fail)
          go_wp2_with fail
          go_roundw
          case rel => exact ⟨i + 1, by omega, by go_num, below_dn HBR.out _, HST2.out⟩
          case measure => simp [intOf]; omega
        · have HD := Lib.hid (HNE.out (by decide))
          clear HST HNE
          go_wp2_with fail
          go_quiet (fail)
          go_wp2_with fail
          go_ret
          exact ⟨by rw [decide_eq_false HD.out]; rfl, below_dn HBR.out _⟩
        · have HD := Lib.hid (HNE.out (by decide))
          clear HST HNE
          go_wp2_with fail
          go_quiet (fail)
          go_wp2_with fail
          go_ret
          exact ⟨by rw [decide_eq_false HD.out]; rfl, below_dn HBR.out _⟩
        · have HST2 := Lib.hid (HST.out rfl)
          clear HST HNE
          go_wp2_with fail
          go_quiet (fail)
          go_wp2_with fail
          go_roundw
          case rel => exact ⟨i + 1, by omega, by go_num, below_dn HBR.out _, HST2.out⟩
          case measure => simp [intOf]; omega
      · have m1 : ¬ (i : Int) < (l.length : Int) := by omega
        have HE : Hid (l = m) := by
          have h := HALL.out
          have := HLEN.out
          show _ = _
          rwa [List.take_of_length_le (by omega), List.take_of_length_le (by omega)] at h
        go_wp2_with fail
        go_ret
        exact ⟨by rw [decide_eq_true HE.out]; rfl, HBR.out⟩
  · have f1 : ((l.length : Int) != (m.length : Int)) = true := by simp; omega
    have HE : Hid (l ≠ m) := fun h => hlen (by rw [h])
    clear hlen
    go_enter Try.func39, Try.ntmps39
    go_wp2_with fail
    go_ret
    exact ⟨by rw [decide_eq_false HE.out]; rfl, Below.refl _ _⟩
/-- the little graph of 'chained' -/
def g3 : List (List Int) := [[1], [], []]
theorem g3_ok : Gok g3 := by refine ⟨by decide, ?_⟩; decide
theorem g3_rok : Rok g3 [0] := by refine ⟨by decide, ?_⟩; decide
theorem g3_spec : GSpec g3 [0] [true, true, false] := by
  refine ⟨rfl, fun k => ⟨fun h => ?_, fun h => ?_⟩⟩
  · match k, h with
    | 0, _ => exact .root (by decide)
    | 1, _ => exact .step (i := 0) (.root (by decide)) (by decide)
    | k + 2, h => match k, h with
      | 0, h => exact absurd h (by decide)
      | k + 1, h => simp at h
  · refine least (s := fun k => [true, true, false].getD k false = true) ?_ ?_ h
    · intro k hk
      have : k = 0 := by simpa using hk
      subst this; rfl
    · intro i k _ hk
      match i, hk with
      | 0, hk =>
        have : (k : Int) = 1 := by simpa [g3] using hk
        have : k = 1 := by omega
        subst this; rfl
      | 1, hk => simp [g3] at hk
      | 2, hk => simp [g3] at hk
      | i + 3, hk => simp [g3] at hk
theorem g3_ord : ord g3 g3.length (List.replicate g3.length false) [] = some [1, 0, 2] := by decide
theorem g3_at {w : World} {g h : Nat} (h1 : w.heap[g]? = some (.cells #[.int .i64 1] 3 (0, 0))) (h2 : w.heap[h]? = some (.cells #[.slice (some ⟨g, 0, none⟩) 1 1, .slice none 0 0, .slice none 0 0] 23 (0, 0))) : GAt w (some ⟨h, 0, none⟩) [(some ⟨g, 0, none⟩, 1, [1]), (none, 0, []), (none, 0, [])] := by
  refine ⟨sat_row h2 rfl gC_length, fun r hr => ?_⟩
  simp only [List.mem_cons, List.not_mem_nil, or_false] at hr
  rcases hr with rfl | rfl | rfl
  · exact ⟨sat_row h1 rfl iC_length, by simp⟩
  · exact ⟨SAt.nil, by simp⟩
  · exact ⟨SAt.nil, by simp⟩
theorem heap_two (w : World) (o1 o2 : Obj) : ((w.alloc o1).alloc o2).heap[w.heap.size]? = some o1 ∧ ((w.alloc o1).alloc o2).heap[w.heap.size + 1]? = some o2 := by
  constructor
  · exact (Below.heap_alloc (w.alloc o1) o2 w.heap.size (by simp)).trans (heap_alloc_new w o1)
  · have := heap_alloc_new (w.alloc o1) o2
    simpa using this
theorem heap_three (w : World) (o1 o2 o3 : Obj) : (((w.alloc o1).alloc o2).alloc o3).heap[w.heap.size]? = some o1 ∧ (((w.alloc o1).alloc o2).alloc o3).heap[w.heap.size + 1]? = some o2 :=
  ⟨(Below.heap_alloc ((w.alloc o1).alloc o2) o3 w.heap.size (by simp; omega)).trans (heap_two w o1 o2).1, (Below.heap_alloc ((w.alloc o1).alloc o2) o3 (w.heap.size + 1) (by simp)).trans (heap_two w o1 o2).2⟩
theorem reach_g3 (w : World) (g h z : Nat) (h1 : w.heap[g]? = some (.cells #[.int .i64 1] 3 (0, 0))) (h2 : w.heap[h]? = some (.cells #[.slice (some ⟨g, 0, none⟩) 1 1, .slice none 0 0, .slice none 0 0] 23 (0, 0))) (h3 : w.heap[z]? = some (.cells #[.int .i64 0] 3 (0, 0))) :
    Calls Try.prog 13 #[.slice (some ⟨h, 0, none⟩) 3 3, .slice (some ⟨z, 0, none⟩) 1 1] w fun e w' => Below w.heap.size w w' ∧ ∃ g', e = .returned (.tuple #[.slice (some ⟨g', 0, none⟩) 3 3, .int .i64 0]) ∧ SAt 1 bC w' (some ⟨g', 0, none⟩) [true, true, false] := by
  refine (reach_any _ _ 3 1 _ [0] _ (g3_at h1 h2) (sat_row h3 rfl iC_length) (by simp) (by simp)).mono ?_
  rintro e w1 ⟨hb1, h | ⟨_, _, g, o, rfl, hg1, hg2, hg3, hsp⟩⟩
  · exact absurd ⟨g3_ok, g3_rok⟩ h.1
  · obtain rfl : o = [true, true, false] := GSpec.unique hsp g3_spec
    exact ⟨hb1, g, rfl, sat_oC hg3⟩
theorem order_g3 (w : World) (g h : Nat) (h1 : w.heap[g]? = some (.cells #[.int .i64 1] 3 (0, 0))) (h2 : w.heap[h]? = some (.cells #[.slice (some ⟨g, 0, none⟩) 1 1, .slice none 0 0, .slice none 0 0] 23 (0, 0))) :
    Calls Try.prog 16 #[.slice (some ⟨h, 0, none⟩) 3 3] w fun e w' => Below w.heap.size w w' ∧ ∃ a c, e = .returned (.tuple #[.slice a 3 c, .int .i64 0]) ∧ SAt 1 iC w' a [1, 0, 2] := by
  refine (order_any _ 3 _ _ (g3_at h1 h2) (by simp)).mono ?_
  rintro e w1 ⟨hb1, h | h | ⟨_, a, l, c, hl, rfl, hown⟩⟩
  · exact absurd g3_ok h.1
  · have := h.2.1.symm.trans g3_ord
    cases this
  · obtain rfl : [1, 0, 2] = l := Option.some.inj (g3_ord.symm.trans hl)
    obtain ⟨a', c', hv, _, _, hs⟩ := SAt.own (l := [(1 : Int), 0, 2]) (c := iC) hown iC_length
    injection hv with e1 e2 e3
    subst e1
    exact ⟨hb1, a, c, rfl, hs⟩
set_option maxRecDepth 100000 in
theorem chained_any (w : World) : Calls Try.prog 14 #[] w fun e w' => e = .returned (.bool true) ∧ Below w.heap.size w w' := by
  have HR := Lib.hid reach_g3
  have HO := Lib.hid order_g3
  have HEB := Lib.hid eqBool_any
  have HEI := Lib.hid eqInt_any
  go_enter Try.func14, Try.ntmps14
  go_wp2_with fail
  have h3 := heap_three w (.cells #[.int .i64 1] 3) (.cells #[.slice (some ⟨w.heap.size, 0, none⟩) 1 1, .slice none 0 0, .slice none 0 0] 23) (.cells #[.int .i64 0] 3)
  have h4 := heap_alloc_new ((w.alloc (.cells #[.int .i64 1] 3)).alloc (.cells #[.slice (some ⟨w.heap.size, 0, none⟩) 1 1, .slice none 0 0, .slice none 0 0] 23)) (.cells #[.int .i64 0] 3)
  have HB0 := Lib.hid ((((Below.refl w.heap.size w).alloc (Nat.le_refl _) (.cells #[.int .i64 1] 3)).alloc (by simp) (.cells #[.slice (some ⟨w.heap.size, 0, none⟩) 1 1, .slice none 0 0, .slice none 0 0] 23)).alloc (by simp; omega) (.cells #[.int .i64 0] 3))
  have hz : ((w.alloc (.cells #[.int .i64 1] 3)).alloc (.cells #[.slice (some ⟨w.heap.size, 0, none⟩) 1 1, .slice none 0 0, .slice none 0 0] 23)).heap.size = w.heap.size + 1 + 1 := by simp
  rw [hz] at h4
  clear hz
  generalize ((w.alloc (.cells #[.int .i64 1] 3)).alloc (.cells #[.slice (some ⟨w.heap.size, 0, none⟩) 1 1, .slice none 0 0, .slice none 0 0] 23)).alloc (.cells #[.int .i64 0] 3) = wa at *
  refine (HR.out wa _ _ _ h3.1 h3.2 h4).mono ?_
  clear h3 h4
  rintro e w1 ⟨hb1, g1, rfl, hs1⟩
  have HB1 := Lib.hid (HB0.out.trans (hb1.mono HB0.out.size))
  have HS1 := Lib.hid hs1
  clear hb1 hs1 HB0
  go_wp2_with fail
  have h3 := heap_two w1 (.cells #[.int .i64 1] 3) (.cells #[.slice (some ⟨w1.heap.size, 0, none⟩) 1 1, .slice none 0 0, .slice none 0 0] 23)
  have HB2 := Lib.hid (((HB1.out).alloc HB1.out.size (.cells #[.int .i64 1] 3)).alloc (by simp; have := HB1.out.size; omega) (.cells #[.slice (some ⟨w1.heap.size, 0, none⟩) 1 1, .slice none 0 0, .slice none 0 0] 23))
  have HB2' := Lib.hid (((Below.refl w1.heap.size w1).alloc (Nat.le_refl _) (.cells #[.int .i64 1] 3)).alloc (by simp) (.cells #[.slice (some ⟨w1.heap.size, 0, none⟩) 1 1, .slice none 0 0, .slice none 0 0] 23))
  have HS2 := Lib.hid (HS1.out.below HB2'.out)
  generalize (w1.alloc (.cells #[.int .i64 1] 3)).alloc (.cells #[.slice (some ⟨w1.heap.size, 0, none⟩) 1 1, .slice none 0 0, .slice none 0 0] 23) = wb at *
  refine (HO.out wb _ _ h3.1 h3.2).mono ?_
  clear h3
  rintro e w2 ⟨hb2, a2, c2, rfl, hs2⟩
  have HB3 := Lib.hid (HB2.out.trans (hb2.mono HB2.out.size))
  have HS3 := Lib.hid (HS2.out.below hb2)
  have HS4 := Lib.hid hs2
  clear hb2 hs2 HB2 HB2' HS2 HB1 HS1
  go_wp2_with fail
  have HB4 := Lib.hid (HB3.out.alloc HB3.out.size (.cells #[.bool true, .bool true, .bool false] 4))
  have HBN := Lib.hid ((Below.refl w2.heap.size w2).alloc (Nat.le_refl _) (.cells #[.bool true, .bool true, .bool false] 4))
  have HS5 := Lib.hid (HS3.out.below HBN.out)
  have HS6 := Lib.hid (HS4.out.below HBN.out)
  have HN := Lib.hid (sat_row (n := 1) (c := bC) (l := [true, true, false]) (heap_alloc_new w2 (.cells #[.bool true, .bool true, .bool false] 4)) rfl bC_length)
  have HC : Hid (Calls Try.prog 39 #[.slice (some ⟨g1, 0, none⟩) 3 3, .slice (some ⟨w2.heap.size, 0, none⟩) 3 3] (w2.alloc (.cells #[.bool true, .bool true, .bool false] 4)) fun e w' => e = .returned (.bool true) ∧ Below (w2.alloc (.cells #[.bool true, .bool true, .bool false] 4)).heap.size (w2.alloc (.cells #[.bool true, .bool true, .bool false] 4)) w') :=
    HEB.out _ _ 3 3 [true, true, false] [true, true, false] _ HS5.out HN.out (by decide) (by decide)
  generalize w2.alloc (.cells #[.bool true, .bool true, .bool false] 4) = wc at *
  refine HC.out.mono ?_
  rintro e w3 ⟨rfl, hb3⟩
  have HB5 := Lib.hid (HB4.out.trans (hb3.mono HB4.out.size))
  have HS7 := Lib.hid (HS6.out.below hb3)
  clear hb3 HC HB4 HBN HS5 HS6 HN HB3 HS3 HS4
  go_wp2_with fail
  have HB6 := Lib.hid (HB5.out.alloc HB5.out.size (.cells #[.int .i64 1, .int .i64 0, .int .i64 2] 3))
  have HBN := Lib.hid ((Below.refl w3.heap.size w3).alloc (Nat.le_refl _) (.cells #[.int .i64 1, .int .i64 0, .int .i64 2] 3))
  have HS8 := Lib.hid (HS7.out.below HBN.out)
  have HN := Lib.hid (sat_row (n := 1) (c := iC) (l := [1, 0, 2]) (heap_alloc_new w3 (.cells #[.int .i64 1, .int .i64 0, .int .i64 2] 3)) rfl iC_length)
  have HC : Hid (Calls Try.prog 26 #[.slice a2 3 c2, .slice (some ⟨w3.heap.size, 0, none⟩) 3 3] (w3.alloc (.cells #[.int .i64 1, .int .i64 0, .int .i64 2] 3)) fun e w' => e = .returned (.bool true) ∧ Below (w3.alloc (.cells #[.int .i64 1, .int .i64 0, .int .i64 2] 3)).heap.size (w3.alloc (.cells #[.int .i64 1, .int .i64 0, .int .i64 2] 3)) w') :=
    HEI.out _ _ c2 3 [1, 0, 2] [1, 0, 2] _ HS8.out HN.out (by decide) (by decide)
  generalize w3.alloc (.cells #[.int .i64 1, .int .i64 0, .int .i64 2] 3) = wd at *
  refine HC.out.mono ?_
  rintro e w4 ⟨rfl, hb4⟩
  have HB7 := Lib.hid (HB6.out.trans (hb4.mono HB6.out.size))
  clear hb4 HC HB6 HBN HS7 HS8 HN HB5
  go_wp2_with fail
  go_ret
  exact ⟨rfl, HB7.out⟩
end Go.Proofs.Ytgoocmocdimnoaa
