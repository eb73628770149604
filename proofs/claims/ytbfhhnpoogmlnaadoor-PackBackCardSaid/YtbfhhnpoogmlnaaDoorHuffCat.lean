/- Rows of signs; the walks of slices.Grow and Concat over ints. -/
import Derived.Test.YtbfhhnpoogmlnaaDoorBase3
import Derived.Test.YtbfhhnpoogmlnaaDoorInts
import Derived.Lib.AppendZerosOnto
import Derived.Lib.SliceRun
import Derived.Lib.LazyBuf
namespace Go.Proofs.YtbfhhnpoogmlnaaDoor
open Go.RowKit Go.Proofs
set_option linter.unusedVariables false
set_option linter.unusedSimpArgs false
def nI (n : Nat) : List Value := [.int .i64 (n : Int)]
theorem nI_length (n : Nat) : (nI n).length = 1 := rfl
theorem nI_one (n : Nat) : ∀ u ∈ nI n, u.oneCell' = true := by
  intro u hu
  simp only [nI, List.mem_singleton] at hu
  subst hu
  rfl
theorem info_nM : ∃ i, Tryd.prog.info? 3 = some i ∧ i.zero = some (.int .i64 0) ∧ i.size = 1 ∧ i.bytes = 8 := info_parts (by kernel_rfl)
def OwnNEnd (w0 : World) (l : List Nat) (e : Ending) (w : World) : Prop := Below w0.heap.size w0 w ∧ ∃ a c, e = .returned (.slice a l.length c) ∧ w.ownsRow w0.heap.size 3 1 (.slice a l.length c) l.length (l.flatMap nI)
set_option maxRecDepth 100000 in
theorem growN_pos (n : Nat) (h0 : 0 < n) (hn : n ≤ 1000) (w : World) :
    Calls Tryd.prog 152 #[.slice none 0 0, .int .i64 (n : Int)] w (OwnNEnd w []) := by
  obtain ⟨i0, hi0, hz0, hz1, hz2⟩ := info_nM
  have hrz : ∀ ty, (Builtin.append_ #[116, 3] ty #[.slice none 0 0, .int .i64 (n : Int)]).run Tryd.prog w = _ := fun ty =>
    Lib.run_append_grow_zeros w 116 3 ty 3 i0 (.int .i64 0) .i64 .i64 Tryd.underlying116 Tryd.underlying3 hi0 hz0 none 0 0 [] (run_firstCells_none w.drew i0.size 0 0 0) n h0 (by rw [hz1]; decide) (by omega) (by omega) (by rw [hz2]; omega)
      (by rw [hz2]; exact growslice_fits (by omega) (by omega))
  have hg := grownCap_ge w (0 + n) 0 3
  have hg2 := grownCap_le_maxLen w (0 + n) 0 3 (by unfold maxLen; omega)
  rw [Nat.zero_add] at hg hg2
  simp only [Nat.zero_add] at hrz
  generalize grownCap w n 0 3 = G at *
  obtain ⟨C, hC⟩ : ∃ C, C = ([] : List Value).toArray ++ Builtin.zeroCells (Value.int .i64 0).cells n ++ Builtin.zeroCells (Value.int .i64 0).cells (G - n) := ⟨_, rfl⟩
  rw [← hC] at hrz
  have HCS : Hid (C.size = G * 1) := by
    show _ = _
    rw [hC]
    simp only [Builtin.zeroCells, Value.cells, nI_length, Array.size_append, List.size_toArray, Array.size_map, Array.size_range, List.length_nil, List.length_cons]
    omega
  clear hC
  have HB := Lib.hid (Below.drew ((Below.refl w.heap.size w).alloc (Nat.le_refl _) (.cells C 3)))
  have HR := Lib.hid (heap_alloc_new w (.cells C 3))
  have hg63 : G ≤ 9223372036854775807 := by unfold maxLen at hg2; exact hg2
  have m1 : (0 : Int) < (n : Int) := by omega
  go_enter Tryd.func152, Tryd.ntmps152
  go_wp2_with (at_builtin; refine Lib.wpList_append_run _ rfl _ _ _ _ rfl _ _ rfl rfl _ _ (hrz _) ?_)
  go_ret
  exact ⟨HB.out, some ⟨w.heap.size, 0, none⟩, G, rfl, by simp, .inr ⟨w.heap.size, G, C, rfl, Nat.le_refl _, HR.out, by simp, hg2, HCS.out, by simp⟩⟩
set_option maxRecDepth 100000 in
theorem growN_any (n : Nat) (hn : n ≤ 1000) (w : World) :
    Calls Tryd.prog 152 #[.slice none 0 0, .int .i64 (n : Int)] w (OwnNEnd w []) := by
  rcases Nat.eq_zero_or_pos n with rfl | h0
  · go_enter Tryd.func152, Tryd.ntmps152
    go_wp2_with fail
    go_ret
    exact ⟨Below.refl _ _, none, 0, rfl, World.ownsRow_nil _ _ _ _⟩
  · exact growN_pos n h0 hn w
set_option maxRecDepth 100000 in
set_option maxHeartbeats 1000000 in
theorem concatN_any (g : Nat) (T : TypeId) (a b : Option Addr) (ca cb : Nat) (l m : List Nat) (w : World) (hg : w.heap[g]? = some (.cells #[.slice a l.length ca, .slice b m.length cb] T (0, 0))) (hl : SAt 1 nI w a l) (hm : SAt 1 nI w b m) (hn : l.length + m.length ≤ 1000) :
    Calls Tryd.prog 110 #[.slice (some ⟨g, 0, none⟩) 2 2] w (OwnNEnd w (l ++ m)) := by
  obtain ⟨i0, hi0, hz0, hz1, hz2⟩ := info_nM
  have HG := Lib.hid hg
  have HL := Lib.hid hl
  have HM := Lib.hid hm
  have HGR := Lib.hid growN_any
  have q0 := cell_of_row _ _ 0 _ _ _ hg
  have q1 := cell_of_row _ _ 1 _ _ _ hg
  simp only [List.getElem?_toArray, List.getElem?_cons_succ, List.getElem?_cons_zero] at q0 q1
  have i1 : IntKind.i64.wrap (0 + (l.length : Int)) = (l.length : Int) := by rw [Int.zero_add]; exact wraps_i64 _ (by omega) (by omega)
  have i2 : IntKind.i64.wrap ((l.length : Int) + (m.length : Int)) = ((l.length + m.length : Nat) : Int) := by rw [Int.natCast_add]; exact wraps_i64 _ (by omega) (by omega)
  clear hg hl hm
  go_enter Tryd.func110, Tryd.ntmps110
  go_wp2_with fail
  go_loopw [3, 11] (fun sv iv wr => ∃ (i s : Int), ((i = 0 ∧ s = 0) ∨ (i = 1 ∧ s = (l.length : Int)) ∨ (i = 2 ∧ s = ((l.length + m.length : Nat) : Int))) ∧ sv = .int .i64 s ∧ iv = .int .i64 i ∧ wr = w) (fun _ iv _ => 2 - (intOf iv).toNat)
  case atStart => exact ⟨0, 0, .inl ⟨rfl, rfl⟩, rfl, rfl, rfl⟩
  case round =>
    obtain ⟨i, s, hc, rfl, rfl, rfl⟩ := hrel
    rcases hc with ⟨rfl, rfl⟩ | ⟨rfl, rfl⟩ | ⟨rfl, rfl⟩
    · go_wp2_with fail
      go_roundw
      case rel => exact ⟨1, (l.length : Int), .inr (.inl ⟨rfl, rfl⟩), by first | rfl | go_num, by first | rfl | go_num, by first | rfl | trivial⟩
      case measure => simp [intOf]
    · have m3 : ¬ ((l.length + m.length : Nat) : Int) < 0 := by omega
      go_wp2_with fail
      go_roundw
      case rel => exact ⟨2, ((l.length + m.length : Nat) : Int), .inr (.inr ⟨rfl, rfl⟩), by first | rfl | go_num, by first | rfl | go_num, by first | rfl | trivial⟩
      case measure => simp [intOf]
    · go_wp2_with fail
      have HGN := HGR.out (l.length + m.length) hn wr
      rw [Int.natCast_add] at HGN
      refine HGN.mono ?_
      rintro e w1 ⟨hb1, a1, c1, rfl, hown⟩
      have HB1 := Lib.hid hb1
      have HO1 := Lib.hid hown
      have HBW : Hid (wr.heap.size ≤ wr.heap.size) := Nat.le_refl _
      obtain ⟨wo, rfl⟩ : ∃ wo : World, wo = wr := ⟨_, rfl⟩
      clear hb1 hown q0 q1 HGN
      go_wp2_with fail
      go_loopw [6, 27] (fun ov iv wr => ∃ (i : Int) (x : List Nat) (oa : Option Addr) (oc : Nat), ((i = 0 ∧ x = []) ∨ (i = 1 ∧ x = l) ∨ (i = 2 ∧ x = l ++ m)) ∧ ov = .slice oa x.length oc ∧ iv = .int .i64 i ∧ Hid (Below wo.heap.size wo wr) ∧ Hid (wr.ownsRow wo.heap.size 3 1 (.slice oa x.length oc) x.length (x.flatMap nI))) (fun _ iv _ => 2 - (intOf iv).toNat)
      case atStart => exact ⟨0, [], a1, c1, .inl ⟨rfl, rfl⟩, rfl, rfl, HB1, HO1⟩
      case round =>
        obtain ⟨i, x, oa, oc, hc, rfl, rfl, HBR, HOW⟩ := hrel
        have HRW := Lib.hid ((HBR.out.block _ (lt_of_block HG.out)).trans HG.out)
        have q0 := cell_of_row _ _ 0 _ _ _ HRW.out
        have q1 := cell_of_row _ _ 1 _ _ _ HRW.out
        simp only [List.getElem?_toArray, List.getElem?_cons_succ, List.getElem?_cons_zero] at q0 q1
        have D5 : Hid (wo.heap.size ≤ wr.heap.size) := HBR.out.size
        rcases hc with ⟨rfl, rfl⟩ | ⟨rfl, rfl⟩ | ⟨rfl, rfl⟩
        · have HSA := Lib.hid (HL.out.below HBR.out)
          have D3 : Hid (0 + l.length ≤ maxLen) := by show _ ≤ _; unfold maxLen; omega
          have D4 : Hid ((0 + l.length) * 8 ≤ 140737488355328) := by show _ ≤ _; omega
          go_wp2_with (at_builtin; refine wpList_append_sat rfl _ _ 116 rfl wo.heap.size 3 i0 (.int .i64 0) 1 8 Tryd.underlying116 hi0 hz0 hz1 hz2 rfl (by decide) _ 0 [] rfl HOW.out a ca l rfl HSA.out nI_length nI_one D3.out D4.out D5.out ?_)
          intro v' w2 hown' hgrow
          have BW := Lib.hid (below_own HBR.out hgrow D5.out HOW.out (Nat.le_refl _))
          obtain ⟨oa3, oc3, rfl⟩ := own_formK hown'
          have OW : Hid (w2.ownsRow wo.heap.size 3 1 (.slice oa3 l.length oc3) l.length (l.flatMap nI)) := by
            show w2.ownsRow _ _ _ _ _ _
            simpa using hown'
          clear hown' hgrow q0 q1
          go_wp2_with fail
          go_roundw
          case rel => exact ⟨1, l, oa3, oc3, .inr (.inl ⟨rfl, rfl⟩), by first | rfl | rw [Nat.zero_add], by first | rfl | go_num, BW, OW⟩
          case measure => simp [intOf]
        · have HSA := Lib.hid (HM.out.below HBR.out)
          have D3 : Hid (x.length + m.length ≤ maxLen) := by show _ ≤ _; unfold maxLen; omega
          have D4 : Hid ((x.length + m.length) * 8 ≤ 140737488355328) := by show _ ≤ _; omega
          go_wp2_with (at_builtin; refine wpList_append_sat rfl _ _ 116 rfl wo.heap.size 3 i0 (.int .i64 0) 1 8 Tryd.underlying116 hi0 hz0 hz1 hz2 rfl (by decide) _ x.length (x.flatMap nI) rfl HOW.out b cb m rfl HSA.out nI_length nI_one D3.out D4.out D5.out ?_)
          intro v' w2 hown' hgrow
          have BW := Lib.hid (below_own HBR.out hgrow D5.out HOW.out (Nat.le_refl _))
          obtain ⟨oa3, oc3, rfl⟩ := own_formK hown'
          have OW : Hid (w2.ownsRow wo.heap.size 3 1 (.slice oa3 (x ++ m).length oc3) (x ++ m).length ((x ++ m).flatMap nI)) := by
            show w2.ownsRow _ _ _ _ _ _
            rw [List.length_append, List.flatMap_append]
            exact hown'
          clear hown' hgrow q0 q1
          go_wp2_with fail
          go_roundw
          case rel => exact ⟨2, x ++ m, oa3, oc3, .inr (.inr ⟨rfl, rfl⟩), by rw [List.length_append], by first | rfl | go_num, BW, OW⟩
          case measure => simp [intOf]
        · clear q0 q1
          go_wp2_with fail
          go_ret
          exact ⟨HBR.out, oa, oc, rfl, HOW.out⟩
end Go.Proofs.YtbfhhnpoogmlnaaDoor
