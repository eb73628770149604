/- The walk of GraphOwn. -/
import Derived.Test.YtgoocmocdimnoaaGraphOwnP
namespace Go.Proofs.Ytgoocmocdimnoaa
open Go.RowKit Plain
set_option linter.unusedVariables false
set_option linter.unusedSimpArgs false
theorem info_isG : (Try.prog.info? 23).map (fun i => (i.zero, i.size, i.bytes)) = some (some (.slice none 0 0), 1, 24) := by kernel_rfl
/-- the store of the copied heap -/
theorem gown_store {w u : World} {I R : Nat} {GVc AVc IR : Array Value} {rs : List Int} (hs : IR.size = 3) (hz : u.heap[I]? = some (.cells #[.slice none 0 0, .slice none 0 0, .bool false] 41 (0, 0))) (ha : Amp iC [.int .i64 0] 3 u R rs 77) (h0 : u.heap[w.heap.size]? = some (.cells GVc 41 (0, 0))) (h1 : u.heap[w.heap.size + 1]? = some (.cells AVc 43 (0, 0))) (hb : Below w.heap.size w u) (hI : w.heap.size + 1 < I) :
    (u.setCells I 0 IR.toList).heap[I]? = some (.cells IR 41 (0, 0)) ∧ Amp iC [.int .i64 0] 3 (u.setCells I 0 IR.toList) R rs 77 ∧ (u.setCells I 0 IR.toList).heap[w.heap.size]? = some (.cells GVc 41 (0, 0)) ∧ (u.setCells I 0 IR.toList).heap[w.heap.size + 1]? = some (.cells AVc 43 (0, 0)) ∧ Below w.heap.size w (u.setCells I 0 IR.toList) := by
  have hne : R ≠ I := by
    rintro rfl
    unfold Amp at ha
    rw [hz] at ha
    injection ha with e
    injection e with _ e
    exact absurd e (by decide)
  refine ⟨setCells_full hz IR hs, ?_, ?_, ?_, below_setCells (by omega) _ _ hb⟩
  · unfold Amp
    rw [heap_setCells_other I R hne]
    exact ha
  · rw [heap_setCells_other I _ (by omega)]; exact h0
  · rw [heap_setCells_other I _ (by omega)]; exact h1
set_option maxRecDepth 100000 in
set_option maxHeartbeats 8000000 in
theorem graphOwn_any (a b : Option Addr) (tc rc : Nat) (rows : List TRow) (rs : List Int) (bz : Bool) (k x y : Int) (w : World) (h : SAt 3 tcC w a rows) (hT : ∀ r ∈ rows, SAt 1 iC w r.1 r.2.2.1 ∧ r.2.2.1.length ≤ 17592186043904) (hr : SAt 1 iC w b rs) (hl : rows.length ≤ 3518437208780) (hrl : rs.length ≤ 17592186043904) :
    Calls Try.prog 12 #[.agg #[.slice a rows.length tc, .slice b rs.length rc, .bool bz], .agg #[.int .i64 k, .int .i64 x, .int .i64 y]] w (TrueEnd w) := by
  have HT : Hid (TAt w a rows) := ⟨h, fun r hr => ⟨(hT r hr).1, Nat.le_trans (hT r hr).2 (by decide)⟩⟩
  have HTL : Hid (∀ r ∈ rows, r.2.2.1.length ≤ 17592186043904) := fun r hr => (hT r hr).2
  have HR := Lib.hid hr
  have HB := Lib.hid (((Below.refl w.heap.size w).alloc (Nat.le_refl _) (.cells #[.slice a rows.length tc, .slice b rs.length rc, .bool bz] 41)).alloc (by simp) (.cells #[.int .i64 k, .int .i64 x, .int .i64 y] 43))
  have h1 := heap_alloc_new (w.alloc (.cells #[.slice a rows.length tc, .slice b rs.length rc, .bool bz] 41)) (.cells #[.int .i64 k, .int .i64 x, .int .i64 y] 43)
  have h0 := heap_alloc_new w (.cells #[.slice a rows.length tc, .slice b rs.length rc, .bool bz] 41)
  rw [← heap_alloc_old (w.alloc (.cells #[.slice a rows.length tc, .slice b rs.length rc, .bool bz] 41)) (.cells #[.int .i64 k, .int .i64 x, .int .i64 y] 43) (by simp)] at h0
  rw [World.size_alloc] at h1
  have H0 := Lib.hid h0
  have H1 := Lib.hid h1
  have HSW := Lib.hid (swept_any ((w.alloc (.cells #[.slice a rows.length tc, .slice b rs.length rc, .bool bz] 41)).alloc (.cells #[.int .i64 k, .int .i64 x, .int .i64 y] 43)))
  clear h hT hr h0 h1
  go_enter Try.func12, Try.ntmps12
  go_wp2_with fail
  refine HSW.out.mono ?_
  rintro e w1 ⟨rfl, hb⟩
  have HB1 := Lib.hid (Below.step HB.out hb)
  have H01 := Lib.hid ((hb.block _ (lt_of_block H0.out)).trans H0.out)
  have H11 := Lib.hid ((hb.block _ (lt_of_block H1.out)).trans H1.out)
  clear hb HSW HB H0 H1
  go_wp2_with fail
  refine (chained_any w1).mono ?_
  rintro e w2 ⟨rfl, hb⟩
  have HB2 := Lib.hid (Below.step HB1.out hb)
  have H02 := Lib.hid ((hb.block _ (lt_of_block H01.out)).trans H01.out)
  have H12 := Lib.hid ((hb.block _ (lt_of_block H11.out)).trans H11.out)
  clear hb HB1 H01 H11
  go_wp2_with fail
  have b1 := cell_of_row w2 w.heap.size 1 _ _ _ H02.out
  have b2 := cell_of_row w2 w.heap.size 2 _ _ _ H02.out
  simp only [List.getElem?_toArray, List.getElem?_cons_zero, List.getElem?_cons_succ] at b1 b2
  refine Code.wp_mono (Q := fun e ac u => e = .normal ∧ ∃ I R : Nat, ac = ⟨#[Value.agg #[.slice a rows.length tc, .slice b rs.length rc, .bool bz], Value.agg #[.int .i64 k, .int .i64 x, .int .i64 y], Value.pointer (some ⟨w.heap.size, 0, none⟩), Value.pointer (some ⟨w.heap.size + 1, 0, none⟩), Value.bool false, Value.pointer (some ⟨I, 0, none⟩), undef, undef, undef, undef, undef, undef, undef, undef, undef, undef, undef, Value.bool true, Value.bool false, Value.bool false, Value.bool true, Value.bool false, Value.bool false, Value.pointer (some ⟨w.heap.size, 1, none⟩), Value.slice b rs.length rc, Value.slice (some ⟨R, 0, none⟩) rs.length (rs.length + 3), Value.pointer (some ⟨w.heap.size, 2, none⟩), Value.bool bz, Value.agg #[Value.slice none 0 0, Value.slice (some ⟨R, 0, none⟩) rs.length (rs.length + 3), Value.bool bz], undef, undef, undef, undef, undef, undef, undef, undef, undef, undef, undef, undef, undef, undef, undef, undef, undef, undef, undef, undef, undef, undef, undef, undef, undef, undef, undef, undef, undef, undef, undef, undef, undef, undef, undef, undef, undef, undef, undef, undef, undef, undef, undef, undef, undef, undef, undef, undef, undef, undef, undef, undef, undef, undef, undef, undef, undef, undef, undef, undef, undef, undef, undef, undef, undef, undef, undef, undef, undef, undef, undef, undef, undef, undef, undef, undef, undef, undef, undef, undef, undef, undef, undef, undef, undef, undef, undef, undef, undef, undef, undef, undef, undef, undef, undef, undef, undef, undef, undef, undef, undef, undef, undef, undef, undef, undef, undef, undef, undef, undef, undef, undef, undef, undef, undef, undef, undef, undef, undef, undef, undef, undef, undef, undef], []⟩ ∧ w.heap.size + 1 < I ∧ w.heap.size + 1 < R ∧ u.heap[I]? = some (.cells #[.slice none 0 0, .slice (some ⟨R, 0, none⟩) rs.length (rs.length + 3), .bool bz] 41 (0, 0)) ∧ Amp iC [.int .i64 0] 3 u R rs 77 ∧ u.heap[w.heap.size]? = some (.cells #[.slice a rows.length tc, .slice b rs.length rc, .bool bz] 41 (0, 0)) ∧ u.heap[w.heap.size + 1]? = some (.cells #[.int .i64 k, .int .i64 x, .int .i64 y] 43 (0, 0)) ∧ Below w.heap.size w u) ?_ ?_
  · rintro _ _ u4 ⟨rfl, I, R, rfl, hI, hR, hi, ha, h0, h1, hb⟩
    have HI := Lib.hid hi
    have HA := Lib.hid ha
    have H04 := Lib.hid h0
    have H14 := Lib.hid h1
    have HB4 := Lib.hid hb
    have HLI := Lib.hid hI
    have HLR := Lib.hid hR
    clear hI hR hi ha h0 h1 hb HB2 H02 H12 b1 b2
    have b0 := cell_of_row u4 w.heap.size 0 _ _ _ H04.out
    simp only [List.getElem?_toArray, List.getElem?_cons_zero, List.getElem?_cons_succ] at b0
    go_wp2_with fail
    have HG0 : Hid (GO w I R #[.slice a rows.length tc, .slice b rs.length rc, .bool bz] #[.int .i64 k, .int .i64 x, .int .i64 y] rs bz none 0 [] none 0 [] u4) := ⟨HI.out, HA.out, H04.out, H14.out, HB4.out, World.ownsRow_nil _ _ _ _, World.ownsRow_nil _ _ _ _, by simp⟩
    clear b0
    go_loopw [32, 6] (fun iv kv wr => ∃ i : Nat, i ≤ rows.length ∧ iv = .int .i64 (i : Int) ∧ ∃ ta tcc vows ka kc, kv = .slice ka vows.length kc ∧ GO w I R #[.slice a rows.length tc, .slice b rs.length rc, .bool bz] #[.int .i64 k, .int .i64 x, .int .i64 y] rs bz ta tcc vows ka kc vows wr ∧ tK vows = (tK rows).take i) (fun iv _ _ => rows.length - (intOf iv).toNat)
    case atStart => exact ⟨0, by omega, rfl, none, 0, [], none, 0, rfl, HG0.out, by simp [tK]⟩
    case round =>
      obtain ⟨i, hi, rfl, ta, tcc, vows, ka, kc, rfl, hgo, htk⟩ := hrel
      have HVL : Hid (vows.length = i) := by
        have := congrArg List.length htk
        rw [tK_length, List.length_take, tK_length] at this
        show _ = _
        omega
      have HGO := Lib.hid hgo
      have HTK := Lib.hid htk
      clear hgo htk
      by_cases hlt : i < rows.length
      · have m1 : (i : Int) < (rows.length : Int) := by omega
        have m0 : (0 : Int) ≤ (i : Int) := Int.natCast_nonneg _
        have HTQ : Hid ((tK rows).take (i + 1) = (tK rows).take i ++ [rows[i].2.2]) := by
          show _ = _
          rw [List.take_add_one, tK_get rows i hlt]
          rfl
        have HSR := Lib.hid (HT.out.below HGO.out.2.2.2.2.1)
        have HMEM := Lib.hid (HSR.out.2 rows[i] (List.getElem_mem hlt)).1
        have HKL := Lib.hid (HTL.out rows[i] (List.getElem_mem hlt))
        have hrd : ∃ r, rows[i] = r := ⟨_, rfl⟩
        obtain ⟨r, hr⟩ := hrd
        obtain ⟨gg, off, rfl, hg, c0, c1, c2⟩ := HSR.out.1.thg i hlt r hr
        rw [hr] at HTQ HMEM HKL
        clear hr
        obtain ⟨fa, fc, fk, col, fr⟩ := r
        simp only at c0 c1 c2 HMEM HKL HTQ
        have hbA : Below wr.heap.size wr (wr.alloc (.cells #[.slice fa fk.length fc, .int .i64 col, .bool fr] 47)) := (Below.refl _ _).alloc (Nat.le_refl _) _
        have HBA := Lib.hid hbA
        have HXN := Lib.hid (heap_alloc_new wr (.cells #[.slice fa fk.length fc, .int .i64 col, .bool fr] 47))
        have HAM := Lib.hid (ampleInt_any fa fc fk 77 (wr.alloc (.cells #[.slice fa fk.length fc, .int .i64 col, .bool fr] 47)) (HMEM.out.below hbA) HKL.out)
        clear hbA hg
        go_wp2_with fail
        refine HAM.out.mono ?_
        rintro e u2 ⟨g, rfl, hg, ha, hb⟩
        have hX2 := (hb.block wr.heap.size (by simp)).trans HXN.out
        have hgX : wr.heap.size < g := Nat.lt_of_lt_of_le (by simp) hg
        have HGX := Lib.hid hgX
        have HBU3 : Hid (Below wr.heap.size wr (u2.setCell ⟨wr.heap.size, 0, none⟩ (.slice (some ⟨g, 0, none⟩) fk.length (fk.length + 3)))) := (HBA.out.trans (hb.mono (by simp))).setCell (p := ⟨wr.heap.size, 0, none⟩) (Nat.le_refl _) _
        have HX3 : Hid ((u2.setCell ⟨wr.heap.size, 0, none⟩ (.slice (some ⟨g, 0, none⟩) fk.length (fk.length + 3))).heap[wr.heap.size]? = some (.cells #[.slice (some ⟨g, 0, none⟩) fk.length (fk.length + 3), .int .i64 col, .bool fr] 47 (0, 0))) := by
          have := heap_setCell_same u2 wr.heap.size 0 _ _ (.slice (some ⟨g, 0, none⟩) fk.length (fk.length + 3)) hX2
          show _ = _
          simpa using this
        have HV3 : Hid (VOk w (u2.setCell ⟨wr.heap.size, 0, none⟩ (.slice (some ⟨g, 0, none⟩) fk.length (fk.length + 3))) (some ⟨g, 0, none⟩, fk.length + 3, fk, col, fr)) := ⟨g, rfl, rfl, by have := lt_of_block HGO.out.2.2.2.1; omega, (heap_setCell_other u2 ⟨wr.heap.size, 0, none⟩ g _ (by show g ≠ wr.heap.size; omega)).trans ha⟩
        have x2 := cell_of_row u2 wr.heap.size 0 _ _ _ hX2
        simp only [List.getElem?_toArray, List.getElem?_cons_zero] at x2
        have f2 := frozen_of_row u2 wr.heap.size 0 _ _ hX2
        clear hb ha hX2 c0 c1 c2 HAM hg hgX
        have HGO3 := Lib.hid (HGO.out.below HBU3.out)
        have HWS : Hid (wr.heap.size < (u2.setCell ⟨wr.heap.size, 0, none⟩ (.slice (some ⟨g, 0, none⟩) fk.length (fk.length + 3))).heap.size) := lt_of_block HX3.out
        have i3 := cell_of_row (u2.setCell ⟨wr.heap.size, 0, none⟩ (.slice (some ⟨g, 0, none⟩) fk.length (fk.length + 3))) I 0 _ _ _ HGO3.out.1
        simp only [List.getElem?_toArray, List.getElem?_cons_zero] at i3
        have x30 := cell_of_row (u2.setCell ⟨wr.heap.size, 0, none⟩ (.slice (some ⟨g, 0, none⟩) fk.length (fk.length + 3))) wr.heap.size 0 _ _ _ HX3.out
        have x31 := cell_of_row (u2.setCell ⟨wr.heap.size, 0, none⟩ (.slice (some ⟨g, 0, none⟩) fk.length (fk.length + 3))) wr.heap.size 1 _ _ _ HX3.out
        have x32 := cell_of_row (u2.setCell ⟨wr.heap.size, 0, none⟩ (.slice (some ⟨g, 0, none⟩) fk.length (fk.length + 3))) wr.heap.size 2 _ _ _ HX3.out
        simp only [List.getElem?_toArray, List.getElem?_cons_zero, List.getElem?_cons_succ] at x30 x31 x32
        obtain ⟨i0, hi0, hz0, hz1, hz2⟩ := info_parts info_thg
        have hbB : Below (u2.setCell ⟨wr.heap.size, 0, none⟩ (.slice (some ⟨g, 0, none⟩) fk.length (fk.length + 3))).heap.size (u2.setCell ⟨wr.heap.size, 0, none⟩ (.slice (some ⟨g, 0, none⟩) fk.length (fk.length + 3))) ((u2.setCell ⟨wr.heap.size, 0, none⟩ (.slice (some ⟨g, 0, none⟩) fk.length (fk.length + 3))).alloc (.cells #[.slice (some ⟨g, 0, none⟩) fk.length (fk.length + 3), .int .i64 col, .bool fr] 47)) := (Below.refl _ _).alloc (Nat.le_refl _) _
        have HGO4 := Lib.hid (HGO3.out.below hbB)
        have HV4 : Hid (VOk w ((u2.setCell ⟨wr.heap.size, 0, none⟩ (.slice (some ⟨g, 0, none⟩) fk.length (fk.length + 3))).alloc (.cells #[.slice (some ⟨g, 0, none⟩) fk.length (fk.length + 3), .int .i64 col, .bool fr] 47)) (some ⟨g, 0, none⟩, fk.length + 3, fk, col, fr)) := HV3.out.keep fun k cs hk => hbB.block k (lt_of_block hk)
        have HX4 : Hid (((u2.setCell ⟨wr.heap.size, 0, none⟩ (.slice (some ⟨g, 0, none⟩) fk.length (fk.length + 3))).alloc (.cells #[.slice (some ⟨g, 0, none⟩) fk.length (fk.length + 3), .int .i64 col, .bool fr] 47)).heap[wr.heap.size]? = some (.cells #[.slice (some ⟨g, 0, none⟩) fk.length (fk.length + 3), .int .i64 col, .bool fr] 47 (0, 0))) := (hbB.block _ (lt_of_block HX3.out)).trans HX3.out
        have D1 := Lib.hid (cells_new_at (u2.setCell ⟨wr.heap.size, 0, none⟩ (.slice (some ⟨g, 0, none⟩) fk.length (fk.length + 3))) u2.heap.size (by simp [World.setCell]) #[.slice (some ⟨g, 0, none⟩) fk.length (fk.length + 3), .int .i64 col, .bool fr] 47 [.slice (some ⟨g, 0, none⟩) fk.length (fk.length + 3), .int .i64 col, .bool fr] rfl)
        have D2 : Hid (∀ u ∈ ([.slice (some ⟨g, 0, none⟩) fk.length (fk.length + 3), .int .i64 col, .bool fr] : List Value), u.oneCell' = true) := by intro u hu; simp only [List.mem_cons, List.not_mem_nil, or_false] at hu; rcases hu with rfl | rfl | rfl <;> rfl
        have D3 : Hid (vows.length + 1 ≤ maxLen) := by have := HVL.out; show _ ≤ _; unfold maxLen; omega
        have D4 : Hid ((vows.length + 1) * 40 ≤ 140737488355328) := by have := HVL.out; show _ ≤ _; omega
        have D5 : Hid (w.heap.size + 2 ≤ ((u2.setCell ⟨wr.heap.size, 0, none⟩ (.slice (some ⟨g, 0, none⟩) fk.length (fk.length + 3))).alloc (.cells #[.slice (some ⟨g, 0, none⟩) fk.length (fk.length + 3), .int .i64 col, .bool fr] 47)).heap.size) := lt_of_block HGO4.out.2.2.2.1
        have HTN := Lib.hid HGO4.out.2.2.2.2.2.1
        have HNE : Hid (some wr.heap.size ≠ (Value.slice ta vows.length tcc).ownBlock) := fun e => by
          rcases own_one HGO.out.2.2.2.2.2.1 with e' | ⟨g', e', _, h2⟩
          · rw [e'] at e; cases e
          · rw [e'] at e
            simp only [Value.ownBlock] at e
            injection e with e
            omega
        clear hbB
        go_wp2_with (at_builtin; refine wpList_append_own _ rfl _ _ 39 rfl (w.heap.size + 2) 47 i0 (.agg #[.slice none 0 0, .int .i64 0, .bool false]) 3 40 Try.underlying39 hi0 hz0 hz1 hz2 rfl (by decide) _ _ _ rfl HTN.out ⟨u2.heap.size, 0, none⟩ 1 1 [.slice (some ⟨g, 0, none⟩) fk.length (fk.length + 3), .int .i64 col, .bool fr] rfl rfl D1.out D2.out D3.out D4.out D5.out ?_)
        intro v' w5 hown' hgrow _
        obtain ⟨ta2, tc2, rfl⟩ := own_formS hown'
        have HGO6 := Lib.hid (HGO4.out.things HLI.out hgrow (some ⟨g, 0, none⟩, fk.length + 3, fk, col, fr) HV4.out hown')
        have hX5 : w5.heap[wr.heap.size]? = some (.cells #[.slice (some ⟨g, 0, none⟩) fk.length (fk.length + 3), .int .i64 col, .bool fr] 47 (0, 0)) := (hgrow.block _ (lt_of_block HX4.out) HNE.out).trans HX4.out
        have hI5 := (hgrow.block I (lt_of_block HGO4.out.1) (own_neq HGO4.out.2.2.2.2.2.1 HGO4.out.1 (by decide))).trans HGO4.out.1
        have x5 := cell_of_row w5 I 0 _ _ _ hI5
        simp only [List.getElem?_toArray, List.getElem?_cons_zero] at x5
        have f5 := frozen_of_row w5 I 0 _ _ hI5
        have hXI : wr.heap.size ≠ I := fun e => by have := lt_of_block HGO.out.1; omega
        have hX6 : (w5.setCell ⟨I, 0, none⟩ (.slice ta2 (vows.length + 1) tc2)).heap[wr.heap.size]? = some (.cells #[.slice (some ⟨g, 0, none⟩) fk.length (fk.length + 3), .int .i64 col, .bool fr] 47 (0, 0)) := (heap_setCell_other w5 ⟨I, 0, none⟩ _ _ hXI).trans hX5
        have x6 := cell_of_row _ wr.heap.size 0 _ _ _ hX6
        simp only [List.getElem?_toArray, List.getElem?_cons_zero] at x6
        clear hgrow hown' hX5 hI5 hXI hX6 x30 x31 x32 i3 x2 f2 D1 D2 D4 D5 HTN hi0 hz0 hz1 hz2
        obtain ⟨i1, hi1, hy0, hy1, hy2⟩ := info_parts info_isG
        have hbC : Below (w5.setCell ⟨I, 0, none⟩ (.slice ta2 (vows.length + 1) tc2)).heap.size (w5.setCell ⟨I, 0, none⟩ (.slice ta2 (vows.length + 1) tc2)) ((w5.setCell ⟨I, 0, none⟩ (.slice ta2 (vows.length + 1) tc2)).alloc (.cells #[.slice (some ⟨g, 0, none⟩) fk.length (fk.length + 3)] 23)) := (Below.refl _ _).alloc (Nat.le_refl _) _
        have HGO7 := Lib.hid (HGO6.out.below hbC)
        have E1 := Lib.hid (cells_new_at (w5.setCell ⟨I, 0, none⟩ (.slice ta2 (vows.length + 1) tc2)) w5.heap.size (by simp [World.setCell]) #[.slice (some ⟨g, 0, none⟩) fk.length (fk.length + 3)] 23 [.slice (some ⟨g, 0, none⟩) fk.length (fk.length + 3)] rfl)
        have E2 : Hid (∀ u ∈ ([.slice (some ⟨g, 0, none⟩) fk.length (fk.length + 3)] : List Value), u.oneCell' = true) := by intro u hu; simp only [List.mem_cons, List.not_mem_nil, or_false] at hu; rcases hu with rfl; rfl
        have E4 : Hid ((vows.length + 1) * 24 ≤ 140737488355328) := by have := HVL.out; show _ ≤ _; omega
        have E5 : Hid (w.heap.size + 2 ≤ ((w5.setCell ⟨I, 0, none⟩ (.slice ta2 (vows.length + 1) tc2)).alloc (.cells #[.slice (some ⟨g, 0, none⟩) fk.length (fk.length + 3)] 23)).heap.size) := lt_of_block HGO7.out.2.2.2.1
        have HKN := Lib.hid HGO7.out.2.2.2.2.2.2.1
        clear hbC
        go_wp2_with (at_builtin; refine wpList_append_own _ rfl _ _ 22 rfl (w.heap.size + 2) 23 i1 (.slice none 0 0) 1 24 Try.underlying22 hi1 hy0 hy1 hy2 rfl (by decide) _ _ _ rfl HKN.out ⟨w5.heap.size, 0, none⟩ 1 1 [.slice (some ⟨g, 0, none⟩) fk.length (fk.length + 3)] rfl rfl E1.out E2.out D3.out E4.out E5.out ?_)
        intro v' w8 hown' hgrow _
        obtain ⟨ka2, kc2, rfl⟩ := own_formS hown'
        have HGO8 := Lib.hid (HGO7.out.kids hgrow (some ⟨g, 0, none⟩, fk.length + 3, fk, col, fr) hown')
        have HTK2 : Hid (tK (vows ++ [(some ⟨g, 0, none⟩, fk.length + 3, fk, col, fr)]) = (tK rows).take (i + 1)) := by
          show _ = _
          rw [HTQ.out, ← HTK.out]
          simp [tK]
        clear hown' hgrow x5 f5 x6
        go_wp2_with fail
        go_roundw
        case rel => exact ⟨i + 1, by omega, by go_num, ta2, tc2, _, ka2, kc2, by rw [List.length_append]; rfl, HGO8.out, HTK2.out⟩
        case measure => simp [intOf]; omega
      · have m1 : ¬ (i : Int) < (rows.length : Int) := by omega
        have htk : tK vows = tK rows := by rw [HTK.out, List.take_of_length_le (by rw [tK_length]; omega)]
        have hvl : vows.length ≤ 3518437208780 := by rw [HVL.out]; omega
        have HVN : Hid (vows.length = rows.length) := by show _ = _; rw [← tK_length, htk, tK_length]
        have HTKK := Lib.hid htk
        have HKB : Hid (∀ r ∈ vows, r.2.2.1.length ≤ 17592186043904) := fun r hr => by
          have h2 : r.2.2 ∈ tK rows := by rw [← htk]; exact List.mem_map.2 ⟨r, hr, rfl⟩
          obtain ⟨s, hs, e⟩ := List.mem_map.1 h2
          rw [← e]
          exact HTL.out s hs
        have hsat : SAt 3 tcC wr ta vows := own_satA tcC_length (by decide) HGO.out.2.2.2.2.2.1
        have HAM := Lib.hid (ampleThg_any ta tcc vows none 0 [] 77 false wr hsat hvl)
        have i0 := cell_of_row wr I 0 _ _ _ HGO.out.1
        simp only [List.getElem?_toArray, List.getElem?_cons_zero] at i0
        clear htk hsat HTK HVL
        clear m1
        have m1 : ¬ (i : Int) < (rows.length : Int) := by omega
        go_wp2_with fail
        refine HAM.out.mono ?_
        rintro e u5 ⟨T, rfl, hT, ha, hb⟩
        have HGO5 := Lib.hid (HGO.out.below hb)
        have hTw : w.heap.size ≤ T := Nat.le_trans HGO.out.2.2.2.2.1.size hT
        have HGP6 := Lib.hid (HGO5.out.fixed HLI.out ha)
        have x5 := cell_of_row u5 I 0 _ _ _ HGO5.out.1
        simp only [List.getElem?_toArray, List.getElem?_cons_zero] at x5
        have f5 := frozen_of_row u5 I 0 _ _ HGO5.out.1
        have i6 := cell_of_row (u5.setCell ⟨I, 0, none⟩ (.slice (some ⟨T, 0, none⟩) vows.length (vows.length + 3))) I 1 _ _ _ HGP6.out.1
        simp only [List.getElem?_toArray, List.getElem?_cons_zero, List.getElem?_cons_succ] at i6
        have hrl := reach_rl ka (some ⟨R, 0, none⟩) kc (rs.length + 3) (vows.map tG) rs (u5.setCell ⟨I, 0, none⟩ (.slice (some ⟨T, 0, none⟩) vows.length (vows.length + 3))) (HGP6.out.gat HKB.out) (HGP6.out.2.1.sat iC_length) (by rw [List.length_map]; omega) (by omega)
        rw [List.length_map] at hrl
        have HRL := Lib.hid hrl
        clear hb ha i0 HAM HGO hrl
        go_wp2_with fail
        refine HRL.out.mono ?_
        rintro e u7 ⟨rv, rcode, rfl, _, hb⟩
        have HGP7 := Lib.hid (HGP6.out.below hb)
        have hov := order_v ka kc (vows.map tG) u7 (HGP7.out.gat HKB.out) (by rw [List.length_map]; omega)
        rw [List.length_map] at hov
        have HOV := Lib.hid hov
        clear hb x5 f5 i6 HRL hov
        go_wp2_with fail
        refine HOV.out.mono ?_
        rintro e u8 ⟨ov, rfl, hb⟩
        have HGP8 := Lib.hid (HGP7.out.below hb)
        have i80 := cell_of_row u8 I 0 _ _ _ HGP8.out.1
        have i81 := cell_of_row u8 I 1 _ _ _ HGP8.out.1
        have i82 := cell_of_row u8 I 2 _ _ _ HGP8.out.1
        have a80 := cell_of_row u8 (w.heap.size + 1) 0 _ _ _ HGP8.out.2.2.2.1
        have a81 := cell_of_row u8 (w.heap.size + 1) 1 _ _ _ HGP8.out.2.2.2.1
        have a82 := cell_of_row u8 (w.heap.size + 1) 2 _ _ _ HGP8.out.2.2.2.1
        simp only [List.getElem?_toArray, List.getElem?_cons_zero, List.getElem?_cons_succ] at i80 i81 i82 a80 a81 a82
        have HBD : Hid (R < u8.heap.size ∧ T < u8.heap.size ∧ ∀ r ∈ vows, ∀ g, r.1 = some ⟨g, 0, none⟩ → g < u8.heap.size) := ⟨lt_of_block HGP8.out.2.1, lt_of_block HGP8.out.2.2.2.2.2.1, fun r hr g e => by
          obtain ⟨g', e', _, _, h4⟩ := HGP8.out.2.2.2.2.2.2.2 r hr
          rw [e] at e'
          injection e' with e'
          injection e' with e'
          rw [e']
          exact lt_of_block h4⟩
        have HTW : Hid (w.heap.size ≤ T) := hTw
        have HDO := Lib.hid (do_v (some ⟨T, 0, none⟩) (vows.length + 3) vows (some ⟨R, 0, none⟩) (rs.length + 3) rs bz k x y u8 (HGP8.out.tat HKB.out) (by omega) (HGP8.out.2.1.sat iC_length) (by omega))
        clear hb HOV
        go_wp2_with fail
        refine HDO.out.mono ?_
        rintro e u9 ⟨hb, ta1, tc1, rows1, ra1, rc1, rs1, bz1, c1, hrk, hres, rfl⟩
        have HRK9 := Lib.hid hrk
        have HRES := Lib.hid hres
        have HB8 : Hid (w.heap.size + 1 < u8.heap.size ∧ u8.heap.size ≤ u9.heap.size) := ⟨lt_of_block HGP8.out.2.2.2.1, hb.size⟩
        have HGP9 := Lib.hid (HGP8.out.below hb)
        clear hb hrk hres HDO i80 i81 i82 a80 a81 a82
        have hbD : Below u9.heap.size u9 (u9.alloc (.cells #[.slice ta1 rows1.length tc1, .slice ra1 rs1.length rc1, .bool bz1] 41)) := (Below.refl _ _).alloc (Nat.le_refl _) _
        have HGP10 := Lib.hid (HGP9.out.below hbD)
        have HRK10 := Lib.hid (HRK9.out.keep fun g _ hg => hbD.block g hg)
        have HH10 : Hid ((u9.alloc (.cells #[.slice ta1 rows1.length tc1, .slice ra1 rs1.length rc1, .bool bz1] 41)).heap[u9.heap.size]? = some (.cells #[.slice ta1 rows1.length tc1, .slice ra1 rs1.length rc1, .bool bz1] 41 (0, 0))) := heap_alloc_new u9 _
        have HSH := Lib.hid (sameHeap_any (some ⟨T, 0, none⟩) a (vows.length + 3) tc vows rows (some ⟨R, 0, none⟩) b (rs.length + 3) rc rs bz (u9.alloc (.cells #[.slice ta1 rows1.length tc1, .slice ra1 rs1.length rc1, .bool bz1] 41)) (HGP10.out.tat HKB.out) (HT.out.below HGP10.out.2.2.2.2.1) (by omega) HTKK.out (HGP10.out.2.1.sat iC_length) (HR.out.below HGP10.out.2.2.2.2.1) (by omega))
        have i0 := cell_of_row (u9.alloc (.cells #[.slice ta1 rows1.length tc1, .slice ra1 rs1.length rc1, .bool bz1] 41)) I 0 _ _ _ HGP10.out.1
        have i1 := cell_of_row (u9.alloc (.cells #[.slice ta1 rows1.length tc1, .slice ra1 rs1.length rc1, .bool bz1] 41)) I 1 _ _ _ HGP10.out.1
        have i2 := cell_of_row (u9.alloc (.cells #[.slice ta1 rows1.length tc1, .slice ra1 rs1.length rc1, .bool bz1] 41)) I 2 _ _ _ HGP10.out.1
        have g0 := cell_of_row (u9.alloc (.cells #[.slice ta1 rows1.length tc1, .slice ra1 rs1.length rc1, .bool bz1] 41)) w.heap.size 0 _ _ _ HGP10.out.2.2.1
        have g1 := cell_of_row (u9.alloc (.cells #[.slice ta1 rows1.length tc1, .slice ra1 rs1.length rc1, .bool bz1] 41)) w.heap.size 1 _ _ _ HGP10.out.2.2.1
        have g2 := cell_of_row (u9.alloc (.cells #[.slice ta1 rows1.length tc1, .slice ra1 rs1.length rc1, .bool bz1] 41)) w.heap.size 2 _ _ _ HGP10.out.2.2.1
        simp only [List.getElem?_toArray, List.getElem?_cons_zero, List.getElem?_cons_succ] at i0 i1 i2 g0 g1 g2
        have ew2 : IntKind.i64.wrap ((vows.length : Int) + 2) = (vows.length : Int) + 2 := wraps_i64 _ (by omega) (by omega)
        have s1 : (0 : Int) ≤ (vows.length : Int) + 2 := by omega
        have s2 : (vows.length : Int) + 2 ≤ (vows.length : Int) + 3 := by omega
        have s3 : ((vows.length : Int) + 2).toNat = vows.length + 2 := by omega
        clear hbD
        go_wp2_with fail
        refine HSH.out.mono ?_
        rintro e u11 ⟨rfl, hb⟩
        have HGP11 := Lib.hid (HGP10.out.below hb)
        have HRK11 := Lib.hid (HRK10.out.keep fun g _ hg => hb.block g hg)
        have HH11 := Lib.hid ((hb.block _ (lt_of_block HH10.out)).trans HH10.out)
        clear hb HSH i0 i1 i2 g0 g1 g2
        have i1 := cell_of_row u11 I 1 _ _ _ HGP11.out.1
        have g1 := cell_of_row u11 w.heap.size 1 _ _ _ HGP11.out.2.2.1
        simp only [List.getElem?_toArray, List.getElem?_cons_zero, List.getElem?_cons_succ] at i1 g1
        have HST := Lib.hid (staysInt_any R b rc rs 77 u11 HGP11.out.2.1 (HR.out.below HGP11.out.2.2.2.2.1) hrl)
        go_wp2_with fail
        refine HST.out.mono ?_
        rintro e u12 ⟨rfl, hb⟩
        have HGP12 := Lib.hid (HGP11.out.below hb)
        have HRK12 := Lib.hid (HRK11.out.keep fun g _ hg => hb.block g hg)
        have HH12 := Lib.hid ((hb.block _ (lt_of_block HH11.out)).trans HH11.out)
        clear hb HST i1 g1
        obtain ⟨q0, q1⟩ := amp_col HGP12.out.2.2.2.2.2.1
        have i0 := cell_of_row u12 I 0 _ _ _ HGP12.out.1
        simp only [List.getElem?_toArray, List.getElem?_cons_zero, List.getElem?_cons_succ] at i0
        go_wp2_with fail
        clear q0 q1 i0
        go_loopw [110] (fun iv wr => ∃ j : Nat, j ≤ vows.length ∧ iv = .int .i64 (j : Int) ∧ GP w I R T #[.slice a rows.length tc, .slice b rs.length rc, .bool bz] #[.int .i64 k, .int .i64 x, .int .i64 y] rs bz vows ka wr ∧ RK u8.heap.size wr ta1 tc1 rows1 ra1 rc1 rs1 ∧ wr.heap[u9.heap.size]? = some (.cells #[.slice ta1 rows1.length tc1, .slice ra1 rs1.length rc1, .bool bz1] 41 (0, 0))) (fun iv _ => vows.length - (intOf iv).toNat)
        case atStart => exact ⟨0, by omega, rfl, HGP12.out, HRK12.out, HH12.out⟩
        case round =>
          clear HGP6 HGP7 HGP8 HGP9 HGP10 HGP11 HGP12 HRK9 HRK10 HRK11 HRK12 HH10 HH11 HH12
          obtain ⟨j, hj, rfl, hgp, hrk, hh⟩ := hrel
          have HGP := Lib.hid hgp
          have HRK := Lib.hid hrk
          have HH := Lib.hid hh
          clear hgp hrk hh
          by_cases hlj : j < vows.length
          · have n1 : (j : Int) < (vows.length : Int) := by omega
            have n0 : (0 : Int) ≤ (j : Int) := Int.natCast_nonneg _
            have hlr : j < rows.length := by have := HVN.out; omega
            have n2 : (j : Int) < (rows.length : Int) := by omega
            have hTw := HT.out.below HGP.out.2.2.2.2.1
            have hks := hTw.2 rows[j] (List.getElem_mem hlr)
            have hkb := HTL.out rows[j] (List.getElem_mem hlr)
            have hvo := HGP.out.2.2.2.2.2.2.2 vows[j] (List.getElem_mem hlj)
            have heq : vows[j].2.2 = rows[j].2.2 := by
              have e1 := tK_get vows j hlj
              have e2 := tK_get rows j hlr
              rw [HTKK.out] at e1
              exact Option.some.inj (e1.symm.trans e2)
            obtain ⟨r, hr⟩ : ∃ r, rows[j] = r := ⟨_, rfl⟩
            obtain ⟨v, hv⟩ : ∃ v, vows[j] = v := ⟨_, rfl⟩
            obtain ⟨gg, goff, ea, _, c0, _, _⟩ := hTw.1.thg j hlr r hr
            obtain ⟨kg, koff, ek, _, hkc⟩ := HGP.out.2.2.2.2.2.2.1 j hlj
            rw [hv] at hkc hvo heq
            rw [hr] at hks hkb heq
            have hk0 := hkc 0 _ rfl
            rw [Nat.mul_one, Nat.add_zero] at hk0
            obtain ⟨fa, fc, fk, col, fr⟩ := r
            obtain ⟨va, vc, vk, vcol, vfr⟩ := v
            obtain ⟨g, e1, e2, _, hamp⟩ := hvo
            simp only at e1 e2 heq hamp hk0 c0 hks hkb
            simp only [Prod.mk.injEq] at heq
            obtain ⟨rfl, rfl, rfl⟩ := heq
            subst e1 e2 ea ek
            have HST := Lib.hid hks.1
            have HSA := Lib.hid hamp
            have b0 := cell_of_row wr w.heap.size 0 _ _ _ HGP.out.2.2.1
            simp only [List.getElem?_toArray, List.getElem?_cons_zero] at b0
            clear hks hkc hamp hr hv hTw
            go_wp2_with fail
            refine wp_region_noPanic ?_
            refine wp_region_held_drew (S := fun u => u.cell? ⟨kg, koff + j, none⟩ = some (.slice (some ⟨g, 0, none⟩) vk.length (vk.length + 3)) ∧ u.cell? ⟨w.heap.size, 0, none⟩ = some (.slice (some ⟨gg, goff, none⟩) rows.length tc) ∧ u.cell? ⟨gg, goff + j * 3, none⟩ = some (.slice fa vk.length fc)) (by kernel_rfl) ⟨hk0, b0, c0⟩ (fun hS0 => ?_)
            have HS0 := Lib.hid hS0
            clear hS0
            refine take_val 0 (.slice (some ⟨kg, koff, none⟩) vows.length kc) rfl (by kernel_rfl) (by kernel_rfl) (by kernel_rfl) (fun _ _ _ _ h => h) (by rfl) rfl (fun wz hS => by go_simp) HS0.out ?_
            try simp only [List.set_cons_zero, List.set_cons_succ]
            refine take_val 1 (.int .i64 (j : Int)) rfl (by kernel_rfl) (by kernel_rfl) (by kernel_rfl) (fun _ _ _ _ h => h) (by rfl) rfl (fun wz hS => by go_simp) HS0.out ?_
            try simp only [List.set_cons_zero, List.set_cons_succ]
            refine take_val 2 (.pointer (some ⟨kg, koff + j, none⟩)) rfl (by kernel_rfl) (by kernel_rfl) (by kernel_rfl) (fun _ _ _ _ h => h) (by rfl) rfl (fun wz hS => by go_simp) HS0.out ?_
            try simp only [List.set_cons_zero, List.set_cons_succ]
            refine take_val 3 (.slice (some ⟨g, 0, none⟩) vk.length (vk.length + 3)) rfl (by kernel_rfl) (by kernel_rfl) (by kernel_rfl) (fun _ _ _ _ h => h) (by rfl) rfl (fun wz hS => by obtain ⟨hs1, hs2, hs3⟩ := hS; go_simp) HS0.out ?_
            try simp only [List.set_cons_zero, List.set_cons_succ]
            refine take_val 4 (.pointer (some ⟨w.heap.size, 0, none⟩)) rfl (by kernel_rfl) (by kernel_rfl) (by kernel_rfl) (fun _ _ _ _ h => h) (by rfl) rfl (fun wz hS => by go_simp) HS0.out ?_
            try simp only [List.set_cons_zero, List.set_cons_succ]
            refine take_val 5 (.slice (some ⟨gg, goff, none⟩) rows.length tc) rfl (by kernel_rfl) (by kernel_rfl) (by kernel_rfl) (fun _ _ _ _ h => h) (by rfl) rfl (fun wz hS => by obtain ⟨hs1, hs2, hs3⟩ := hS; go_simp) HS0.out ?_
            try simp only [List.set_cons_zero, List.set_cons_succ]
            refine take_val 6 (.int .i64 (j : Int)) rfl (by kernel_rfl) (by kernel_rfl) (by kernel_rfl) (fun _ _ _ _ h => h) (by rfl) rfl (fun wz hS => by go_simp) HS0.out ?_
            try simp only [List.set_cons_zero, List.set_cons_succ]
            refine take_val 7 (.pointer (some ⟨gg, goff + j * 3, none⟩)) rfl (by kernel_rfl) (by kernel_rfl) (by kernel_rfl) (fun _ _ _ _ h => h) (by rfl) rfl (fun wz hS => by go_simp) HS0.out ?_
            try simp only [List.set_cons_zero, List.set_cons_succ]
            refine take_val 8 (.pointer (some ⟨gg, goff + j * 3, none⟩)) rfl (by kernel_rfl) (by kernel_rfl) (by kernel_rfl) (fun _ _ _ _ h => h) (by rfl) rfl (fun wz hS => by go_simp) HS0.out ?_
            try simp only [List.set_cons_zero, List.set_cons_succ]
            refine take_val 9 (.slice fa vk.length fc) rfl (by kernel_rfl) (by kernel_rfl) (by kernel_rfl) (fun _ _ _ _ h => h) (by rfl) rfl (fun wz hS => by obtain ⟨hs1, hs2, hs3⟩ := hS; go_simp) HS0.out ?_
            try simp only [List.set_cons_zero, List.set_cons_succ]
            have HGPd : Hid (GP w I R T #[.slice (some ⟨gg, goff, none⟩) rows.length tc, .slice b rs.length rc, .bool bz] #[.int .i64 k, .int .i64 x, .int .i64 y] rs bz vows (some ⟨kg, koff, none⟩) wr.drew) := HGP.out.below (Below.refl _ _).drew
            have HRKd : Hid (RK u8.heap.size wr.drew ta1 tc1 rows1 ra1 rc1 rs1) := HRK.out.keep fun g _ hg => rfl
            have HHd : Hid (wr.drew.heap[u9.heap.size]? = some (.cells #[.slice ta1 rows1.length tc1, .slice ra1 rs1.length rc1, .bool bz1] 41 (0, 0))) := HH.out
            have HSTd := Lib.hid (staysInt_any g fa fc vk 77 wr.drew HSA.out (HST.out.below (Below.refl _ _).drew) hkb)
            generalize wr.drew = wd at *
            refine one_ready 10 (by kernel_rfl) rfl (by rfl) (fun K hK => ?_)
            go_simp
            refine HSTd.out.mono ?_
            rintro e wf ⟨rfl, hb⟩
            have hs := HS0.out
            have HGPf := Lib.hid (HGPd.out.below hb)
            have HRKf := Lib.hid (HRKd.out.keep fun g _ hg => hb.block g hg)
            have HHf := Lib.hid ((hb.block _ (lt_of_block HHd.out)).trans HHd.out)
            have HSf := Lib.hid (And.intro ((hb.cell (World.block_lt_of_cell? _ _ hs.1)).trans hs.1) (And.intro ((hb.cell (World.block_lt_of_cell? _ _ hs.2.1)).trans hs.2.1) ((hb.cell (World.block_lt_of_cell? _ _ hs.2.2)).trans hs.2.2)))
            refine hK.out _ _ HSf.out ?_
            clear hK K hb hs
            try simp only [Act.put, List.setIfInBounds_toArray]
            try simp only [List.set_cons_zero, List.set_cons_succ]
            refine take_val 11 (.bool false) rfl (by kernel_rfl) (by kernel_rfl) (by kernel_rfl) (fun _ _ _ _ h => h) (by rfl) rfl (fun wz hS => by go_simp) HSf.out ?_
            try simp only [List.set_cons_zero, List.set_cons_succ]
            refine wpAnyH_done (by kernel_rfl) ?_ _
            refine NoPanic.normal ?_
            go_wp2_with fail
            go_roundw
            case rel => exact ⟨j + 1, by omega, by go_num, HGPf.out, HRKf.out, HHf.out⟩
            case measure => simp [intOf]; omega
          · have n1 : ¬ (j : Int) < (vows.length : Int) := by omega
            have i0 := cell_of_row wr I 0 _ _ _ HGP.out.1
            have i1 := cell_of_row wr I 1 _ _ _ HGP.out.1
            have i2 := cell_of_row wr I 2 _ _ _ HGP.out.1
            have a0 := cell_of_row wr (w.heap.size + 1) 0 _ _ _ HGP.out.2.2.2.1
            have a1 := cell_of_row wr (w.heap.size + 1) 1 _ _ _ HGP.out.2.2.2.1
            have a2 := cell_of_row wr (w.heap.size + 1) 2 _ _ _ HGP.out.2.2.2.1
            simp only [List.getElem?_toArray, List.getElem?_cons_zero, List.getElem?_cons_succ] at i0 i1 i2 a0 a1 a2
            have HDO := Lib.hid (do_v (some ⟨T, 0, none⟩) (vows.length + 3) vows (some ⟨R, 0, none⟩) (rs.length + 3) rs bz k x y wr (HGP.out.tat HKB.out) (by omega) (HGP.out.2.1.sat iC_length) (by omega))
            have HB2 : Hid (u8.heap.size ≤ wr.heap.size) := by have := lt_of_block HH.out; have := HB8.out.2; show _ ≤ _; omega
            go_wp2_with fail
            refine HDO.out.mono ?_
            rintro e u14 ⟨hb, ta2, tc2, rows2, ra2, rc2, rs2, bz2, c2, hrk2, hres2, rfl⟩
            have HRES2 := Lib.hid hres2
            have hbE : Below u14.heap.size u14 (u14.alloc (.cells #[.slice ta2 rows2.length tc2, .slice ra2 rs2.length rc2, .bool bz2] 41)) := (Below.refl _ _).alloc (Nat.le_refl _) _
            have HSP := Lib.hid (((HGP.out.spo HBD.out.1 HLR.out HBD.out.2.2).below hb).below hbE)
            have HR1 := Lib.hid ((HRK.out.below hb).below hbE)
            have HR2 := Lib.hid (hrk2.below hbE)
            have HH1 := Lib.hid (row_below (row_below HH.out hb) hbE)
            have HH2 : Hid ((u14.alloc (.cells #[.slice ta2 rows2.length tc2, .slice ra2 rs2.length rc2, .bool bz2] 41)).heap[u14.heap.size]? = some (.cells #[.slice ta2 rows2.length tc2, .slice ra2 rs2.length rc2, .bool bz2] 41 (0, 0))) := heap_alloc_new u14 _
            have HB3 : Hid (wr.heap.size ≤ u14.heap.size) := hb.size
            generalize hB2 : wr.heap.size = B2 at *
            have e0 := cell_of_row (u14.alloc (.cells #[.slice ta2 rows2.length tc2, .slice ra2 rs2.length rc2, .bool bz2] 41)) I 0 _ _ _ HSP.out.1
            simp only [List.getElem?_toArray, List.getElem?_cons_zero, List.getElem?_cons_succ] at e0
            clear hb hrk2 hres2 hbE HDO i0 i1 i2 a0 a1 a2 HGP HRK HH
            go_wp2_with fail
            clear e0
            go_loopw [135] (fun iv wr => ∃ q : Nat, q ≤ vows.length ∧ iv = .int .i64 (q : Int) ∧ SPo w u8.heap.size I R T (vows.length + 3) (rs.length + 3) #[.slice (some ⟨T, 0, none⟩) vows.length (vows.length + 3), .slice (some ⟨R, 0, none⟩) rs.length (rs.length + 3), .bool bz] vows wr ∧ RK u8.heap.size wr ta1 tc1 rows1 ra1 rc1 rs1 ∧ RK B2 wr ta2 tc2 rows2 ra2 rc2 rs2 ∧ wr.heap[u9.heap.size]? = some (.cells #[.slice ta1 rows1.length tc1, .slice ra1 rs1.length rc1, .bool bz1] 41 (0, 0)) ∧ wr.heap[u14.heap.size]? = some (.cells #[.slice ta2 rows2.length tc2, .slice ra2 rs2.length rc2, .bool bz2] 41 (0, 0))) (fun iv _ => vows.length - (intOf iv).toNat)
            case atStart => exact ⟨0, by omega, rfl, HSP.out, HR1.out, HR2.out, HH1.out, HH2.out⟩
            case round =>
              clear HSP HR1 HR2 HH1 HH2
              obtain ⟨q, hq, rfl, hsp, hr1, hr2, hh1, hh2⟩ := hrel
              have HSP := Lib.hid hsp
              have HR1 := Lib.hid hr1
              have HR2 := Lib.hid hr2
              have HH1 := Lib.hid hh1
              have HH2 := Lib.hid hh2
              clear hsp hr1 hr2 hh1 hh2
              by_cases hlq : q < vows.length
              · have o1 : (q : Int) < (vows.length : Int) := by omega
                have o0 : (0 : Int) ≤ (q : Int) := Int.natCast_nonneg _
                obtain ⟨z, hamp, _⟩ := HSP.out.2.1
                have hvo := HSP.out.2.2.2.2.2 vows[q] (List.getElem_mem hlq)
                have hkb := HKB.out vows[q] (List.getElem_mem hlq)
                obtain ⟨v, hv⟩ : ∃ v, vows[q] = v := ⟨_, rfl⟩
                obtain ⟨T', off, eT, _, c0, c1, c2⟩ := (hamp.sat tcC_length).thg q hlq v hv
                injection eT with eT
                injection eT with eT1 eT2
                subst eT1 eT2
                rw [hv] at hvo hkb
                obtain ⟨va, vc, vk, vcol, vfr⟩ := v
                obtain ⟨g, e1, e2, hgw, hirw⟩ := hvo
                simp only at e1 e2 hirw c0 c1 c2 hkb
                simp only [Nat.zero_add] at c0 c1 c2
                subst e1 e2
                have hbF : Below wr.heap.size wr (wr.alloc (.cells #[.slice (some ⟨g, 0, none⟩) vk.length (vk.length + 3), .int .i64 vcol, .bool vfr] 47)) := (Below.refl _ _).alloc (Nat.le_refl _) _
                have HIR := Lib.hid (hirw.below hbF)
                have HSPa := Lib.hid (HSP.out.below hbF)
                have HR1a := Lib.hid (HR1.out.below hbF)
                have HR2a := Lib.hid (HR2.out.below hbF)
                have HH1a := Lib.hid (row_below HH1.out hbF)
                have HH2a := Lib.hid (row_below HH2.out hbF)
                have HGW : Hid (w.heap.size + 1 < g) := hgw
                have hspo : Calls Try.prog 36 #[.slice (some ⟨g, 0, none⟩) vk.length (vk.length + 3), .int .i64 0] (wr.alloc (.cells #[.slice (some ⟨g, 0, none⟩) vk.length (vk.length + 3), .int .i64 vcol, .bool vfr] 47)) (SpEnd g 3 (vk.length + 3) (wr.alloc (.cells #[.slice (some ⟨g, 0, none⟩) vk.length (vk.length + 3), .int .i64 vcol, .bool vfr] 47))) := by
                  obtain ⟨cs, hc1, hc2⟩ := HIR.out.2
                  exact spoilInt_any g (vk.length + 3) vk.length 0 cs _ hc1 hc2 (by omega) (by omega)
                have HCA := Lib.hid hspo
                clear hbF hirw hamp hv hspo hgw
                go_wp2_with fail
                refine HCA.out.mono ?_
                rintro e u17 ⟨rfl, hg, hr⟩
                have HSPb := Lib.hid (HSPa.out.spoil HIR.out (by have := HGW.out; omega) hg hr)
                have HR1b := Lib.hid (HR1a.out.grown hg HIR.out.1)
                have HR2b := Lib.hid (HR2a.out.grown hg (Nat.lt_of_lt_of_le HIR.out.1 HB2.out))
                have HH1b := Lib.hid (row_grown HH1a.out hg (Nat.lt_of_lt_of_le HIR.out.1 HB8.out.2))
                have HH2b := Lib.hid (row_grown HH2a.out hg (Nat.lt_of_lt_of_le HIR.out.1 (Nat.le_trans HB2.out HB3.out)))
                clear hg hr HCA c0 c1 c2
                go_wp2_with fail
                go_roundw
                case rel => exact ⟨q + 1, by omega, by go_num, HSPb.out, HR1b.out, HR2b.out, HH1b.out, HH2b.out⟩
                case measure => simp [intOf]; omega
              · have o1 : ¬ (q : Int) < (vows.length : Int) := by omega
                have HCR : Hid (Calls Try.prog 36 #[.slice (some ⟨R, 0, none⟩) rs.length (rs.length + 3), .int .i64 0] wr (SpEnd R 3 (rs.length + 3) wr)) := by
                  obtain ⟨cs, hc1, hc2⟩ := HSP.out.2.2.1.2
                  exact spoilInt_any R (rs.length + 3) rs.length 0 cs _ hc1 hc2 (by omega) (by omega)
                have i1 := cell_of_row wr I 1 _ _ _ HSP.out.1
                simp only [List.getElem?_toArray, List.getElem?_cons_zero, List.getElem?_cons_succ] at i1
                go_wp2_with fail
                refine HCR.out.mono ?_
                rintro e u17 ⟨rfl, hg, hr⟩
                have HIR := Lib.hid HSP.out.2.2.1
                have HSPb := Lib.hid (HSP.out.spoil HIR.out (by have := HSP.out.2.2.2.2.1; omega) hg hr)
                have HR1b := Lib.hid (HR1.out.grown hg HIR.out.1)
                have HR2b := Lib.hid (HR2.out.grown hg (Nat.lt_of_lt_of_le HIR.out.1 HB2.out))
                have HH1b := Lib.hid (row_grown HH1.out hg (Nat.lt_of_lt_of_le HIR.out.1 HB8.out.2))
                have HH2b := Lib.hid (row_grown HH2.out hg (Nat.lt_of_lt_of_le HIR.out.1 (Nat.le_trans HB2.out HB3.out)))
                clear hg hr HCR i1
                have i0 := cell_of_row u17 I 0 _ _ _ HSPb.out.1
                simp only [List.getElem?_toArray, List.getElem?_cons_zero, List.getElem?_cons_succ] at i0
                have HCT : Hid (Calls Try.prog 37 #[.slice (some ⟨T, 0, none⟩) vows.length (vows.length + 3), .agg #[.slice none 0 0, .int .i64 0, .bool false]] u17 (fun e w' => e = .returned (.tuple #[]) ∧ u17.grownBy w' (some T) ∧ ∃ cs, w'.heap[T]? = some (.cells cs 47 (0, 0)) ∧ cs.size = (vows.length + 3) * 3)) := by
                  obtain ⟨z, hamp, hz⟩ := HSPb.out.2.1
                  exact spoilThg_any T (vows.length + 3) vows.length none 0 0 0 false _ u17 hamp (by rw [List.size_toArray]; exact hz) (by omega) (by omega)
                go_wp2_with fail
                refine HCT.out.mono ?_
                rintro e u18 ⟨rfl, hg, _⟩
                have HBw : Hid (Below w.heap.size w u18) := HSPb.out.2.2.2.1.grown hg HSPb.out.2.2.2.1.size (fun k e => by rw [← Option.some.inj e]; exact HTW.out)
                have HR1c := Lib.hid (HR1b.out.grown hg HBD.out.2.1)
                have HR2c := Lib.hid (HR2b.out.grown hg (Nat.lt_of_lt_of_le HBD.out.2.1 HB2.out))
                have HH1c := row_grown HH1b.out hg (Nat.lt_of_lt_of_le HBD.out.2.1 HB8.out.2)
                have HH2c := row_grown HH2b.out hg (Nat.lt_of_lt_of_le HBD.out.2.1 (Nat.le_trans HB2.out HB3.out))
                have p0 := cell_of_row u18 u9.heap.size 0 _ _ _ HH1c
                have p1 := cell_of_row u18 u9.heap.size 1 _ _ _ HH1c
                have p2 := cell_of_row u18 u9.heap.size 2 _ _ _ HH1c
                have r0 := cell_of_row u18 u14.heap.size 0 _ _ _ HH2c
                have r1 := cell_of_row u18 u14.heap.size 1 _ _ _ HH2c
                have r2 := cell_of_row u18 u14.heap.size 2 _ _ _ HH2c
                simp only [List.getElem?_toArray, List.getElem?_cons_zero, List.getElem?_cons_succ] at p0 p1 p2 r0 r1 r2
                have heq := HRES.out.trans HRES2.out.symm
                simp only [Prod.mk.injEq] at heq
                obtain ⟨hq1, hq2, hq3⟩ := heq
                subst hq2 hq3
                have t1 := HR1c.out.tat
                have t2 := HR2c.out.tat
                have HFIN := Lib.hid (sameHeap_any ta1 ta2 tc1 tc2 rows1 rows2 ra1 ra2 rc1 rc2 rs1 bz1 u18 t1.1 t2.1 t1.2.2.1 hq1 t1.2.1 t2.2.1 t1.2.2.2)
                clear hg HCT i0 HH1c HH2c hq1 t1 t2
                go_wp2_with fail
                refine HFIN.out.mono ?_
                rintro e u19 ⟨rfl, hb⟩
                have HBF := Lib.hid (Below.step HBw.out hb)
                clear hb HFIN
                go_wp2_with fail
                go_ret
                exact ⟨rfl, HBF.out⟩
  refine wp_region_noPanic ?_
  refine wp_region_held_drew (S := fun u => u.cell? ⟨w.heap.size, 1, none⟩ = some (.slice b rs.length rc) ∧ u.cell? ⟨w.heap.size, 2, none⟩ = some (.bool bz)) (by kernel_rfl) ⟨b1, b2⟩ (fun hS0 => ?_)
  have HS0 := Lib.hid hS0
  clear hS0
  have HB3 := Lib.hid HB2.out.drew
  have H03 : Hid (w2.drew.heap[w.heap.size]? = some (.cells #[.slice a rows.length tc, .slice b rs.length rc, .bool bz] 41 (0, 0))) := H02.out
  have H13 : Hid (w2.drew.heap[w.heap.size + 1]? = some (.cells #[.int .i64 k, .int .i64 x, .int .i64 y] 43 (0, 0))) := H12.out
  clear HB2 H02 H12 b1 b2
  generalize w2.drew = w3 at *
  refine take_val 0 (.pointer (some ⟨w.heap.size, 1, none⟩)) rfl (by kernel_rfl) (by kernel_rfl) (by kernel_rfl) (fun _ _ _ _ h => h) (by rfl) rfl (fun wz hS => by go_simp) HS0.out ?_
  try simp only [List.set_cons_zero, List.set_cons_succ]
  refine take_val 1 (.slice b rs.length rc) rfl (by kernel_rfl) (by kernel_rfl) (by kernel_rfl) (fun _ _ _ _ h => h) (by rfl) rfl (fun wz hS => by obtain ⟨hs1, hs2⟩ := hS; go_simp) HS0.out ?_
  try simp only [List.set_cons_zero, List.set_cons_succ]
  refine take_val 3 (.pointer (some ⟨w.heap.size, 2, none⟩)) rfl (by kernel_rfl) (by kernel_rfl) (by kernel_rfl) (fun _ _ _ _ h => h) (by rfl) rfl (fun wz hS => by go_simp) HS0.out ?_
  try simp only [List.set_cons_zero, List.set_cons_succ]
  refine take_val 4 (.bool bz) rfl (by kernel_rfl) (by kernel_rfl) (by kernel_rfl) (fun _ _ _ _ h => h) (by rfl) rfl (fun wz hS => by obtain ⟨hs1, hs2⟩ := hS; go_simp) HS0.out ?_
  try simp only [List.set_cons_zero, List.set_cons_succ]
  have HZ3 : Hid (w.heap.size + 1 < w3.heap.size) := lt_of_block H13.out
  have HRS := Lib.hid (HR.out.below HB3.out)
  refine two_ready 2 6 (by kernel_rfl) rfl rfl (by rfl) (by rfl) (fun K hK => ?_) (fun K hK => ?_)
  · go_simp
    refine (ampleInt_any b rc rs 77 w3 HRS.out hrl).mono ?_
    rintro e u1 ⟨R, rfl, hR, ha, hb⟩
    have HA1 := Lib.hid ha
    have HRG : Hid (w3.heap.size ≤ R) := hR
    have HB4 := Lib.hid (Below.step HB3.out hb)
    have H04 := Lib.hid ((hb.block _ (lt_of_block H03.out)).trans H03.out)
    have H14 := Lib.hid ((hb.block _ (lt_of_block H13.out)).trans H13.out)
    clear hb ha hR
    have c1u1 := cell_of_row u1 w.heap.size 1 _ _ _ H04.out
    have c2u1 := cell_of_row u1 w.heap.size 2 _ _ _ H04.out
    simp only [List.getElem?_toArray, List.getElem?_cons_zero, List.getElem?_cons_succ] at c1u1 c2u1
    refine hK.out _ _ ⟨c1u1, c2u1⟩ ?_
    have HS1 := Lib.hid (And.intro c1u1 c2u1)
    clear hK K c1u1 c2u1
    try simp only [Act.put, List.setIfInBounds_toArray]
    try simp only [List.set_cons_zero, List.set_cons_succ]
    refine take_val 5 (.agg #[.slice none 0 0, .slice (some ⟨R, 0, none⟩) rs.length (rs.length + 3), .bool bz]) rfl (by kernel_rfl) (by kernel_rfl) (by kernel_rfl) (fun _ _ _ _ h => h) (by rfl) rfl (fun wz hS => by go_simp) HS1.out ?_
    try simp only [List.set_cons_zero, List.set_cons_succ]
    refine one_ready 6 (by kernel_rfl) rfl (by rfl) (fun K hK => ?_)
    go_simp
    have hba : Below u1.heap.size u1 (u1.alloc (.cells #[.slice none 0 0, .slice none 0 0, .bool false] 41)) := (Below.refl _ _).alloc (Nat.le_refl _) _
    have HZu2 : Hid ((u1.alloc (.cells #[.slice none 0 0, .slice none 0 0, .bool false] 41)).heap[u1.heap.size]? = some (.cells #[.slice none 0 0, .slice none 0 0, .bool false] 41 (0, 0))) := heap_alloc_new u1 _
    have HAu2 := Lib.hid (HA1.out.below hba)
    have H0u2 := Lib.hid ((hba.block _ (lt_of_block H04.out)).trans H04.out)
    have H1u2 := Lib.hid ((hba.block _ (lt_of_block H14.out)).trans H14.out)
    have HBBu2 := Lib.hid (Below.step HB4.out hba)
    have HLI : Hid (w.heap.size + 1 < u1.heap.size) := lt_of_block H14.out
    have HLR : Hid (w.heap.size + 1 < R) := by have := HZ3.out; have := HRG.out; show _ < _; omega
    clear hba
    have c1u2 := cell_of_row (u1.alloc (.cells #[.slice none 0 0, .slice none 0 0, .bool false] 41)) w.heap.size 1 _ _ _ H0u2.out
    have c2u2 := cell_of_row (u1.alloc (.cells #[.slice none 0 0, .slice none 0 0, .bool false] 41)) w.heap.size 2 _ _ _ H0u2.out
    simp only [List.getElem?_toArray, List.getElem?_cons_zero, List.getElem?_cons_succ] at c1u2 c2u2
    refine hK.out _ _ ⟨c1u2, c2u2⟩ ?_
    clear hK K c1u2 c2u2
    try simp only [Act.put, List.setIfInBounds_toArray]
    try simp only [List.set_cons_zero, List.set_cons_succ]
    generalize hI : u1.heap.size = I at *
    generalize u1.alloc (.cells #[.slice none 0 0, .slice none 0 0, .bool false] 41) = u2 at *
    refine one_ready 7 (by kernel_rfl) rfl (by rfl) (fun K hK => ?_)
    have hst := gown_store (IR := #[.slice none 0 0, .slice (some ⟨R, 0, none⟩) rs.length (rs.length + 3), .bool bz]) rfl HZu2.out HAu2.out H0u2.out H1u2.out HBBu2.out HLI.out
    refine wp_store_mid 41 _ _ rfl (I) 0 #[.slice none 0 0, .slice (some ⟨R, 0, none⟩) rs.length (rs.length + 3), .bool bz] rfl rfl (there_rowO HZu2.out 0 _ (by show 3 ≤ 3; omega)) (by show _ = some 3; kernel_rfl) (by show _ = _; kernel_rfl) ?_
    have e1 := cell_of_row _ w.heap.size 1 _ _ _ hst.2.2.1
    have e2 := cell_of_row _ w.heap.size 2 _ _ _ hst.2.2.1
    simp only [List.getElem?_toArray, List.getElem?_cons_zero, List.getElem?_cons_succ] at e1 e2
    refine hK.out _ _ ⟨e1, e2⟩ ?_
    clear hK K
    try simp only [Act.put, List.setIfInBounds_toArray]
    try simp only [List.set_cons_zero, List.set_cons_succ]
    refine wpAnyH_done (by kernel_rfl) ?_ _
    refine NoPanic.normal ?_
    exact ⟨rfl, _, _, rfl, HLI.out, HLR.out, hst⟩
  · go_simp
    have hba : Below w3.heap.size w3 (w3.alloc (.cells #[.slice none 0 0, .slice none 0 0, .bool false] 41)) := (Below.refl _ _).alloc (Nat.le_refl _) _
    have HZu1 : Hid ((w3.alloc (.cells #[.slice none 0 0, .slice none 0 0, .bool false] 41)).heap[w3.heap.size]? = some (.cells #[.slice none 0 0, .slice none 0 0, .bool false] 41 (0, 0))) := heap_alloc_new w3 _
    have H0u1 := Lib.hid ((hba.block _ (lt_of_block H03.out)).trans H03.out)
    have H1u1 := Lib.hid ((hba.block _ (lt_of_block H13.out)).trans H13.out)
    have HBBu1 := Lib.hid (Below.step HB3.out hba)
    have HRSu1 := Lib.hid (HRS.out.below hba)
    have HSZu1 : Hid (w3.heap.size < (w3.alloc (.cells #[.slice none 0 0, .slice none 0 0, .bool false] 41)).heap.size) := lt_of_block HZu1.out
    clear hba
    have c1u1 := cell_of_row (w3.alloc (.cells #[.slice none 0 0, .slice none 0 0, .bool false] 41)) w.heap.size 1 _ _ _ H0u1.out
    have c2u1 := cell_of_row (w3.alloc (.cells #[.slice none 0 0, .slice none 0 0, .bool false] 41)) w.heap.size 2 _ _ _ H0u1.out
    simp only [List.getElem?_toArray, List.getElem?_cons_zero, List.getElem?_cons_succ] at c1u1 c2u1
    refine hK.out _ _ ⟨c1u1, c2u1⟩ ?_
    clear hK K c1u1 c2u1
    try simp only [Act.put, List.setIfInBounds_toArray]
    try simp only [List.set_cons_zero, List.set_cons_succ]
    generalize hI : w3.heap.size = I at *
    generalize w3.alloc (.cells #[.slice none 0 0, .slice none 0 0, .bool false] 41) = u1 at *
    have HLI : Hid (w.heap.size + 1 < I) := HZ3.out
    refine one_ready 2 (by kernel_rfl) rfl (by rfl) (fun K hK => ?_)
    go_simp
    refine (ampleInt_any b rc rs 77 u1 HRSu1.out hrl).mono ?_
    rintro e u2 ⟨R, rfl, hR, ha, hb⟩
    have HAu2 := Lib.hid ha
    have HLR : Hid (w.heap.size + 1 < R) := by have := HLI.out; have := HSZu1.out; show _ < _; omega
    have HBBu2 := Lib.hid (Below.step HBBu1.out hb)
    have H0u2 := Lib.hid ((hb.block _ (lt_of_block H0u1.out)).trans H0u1.out)
    have H1u2 := Lib.hid ((hb.block _ (lt_of_block H1u1.out)).trans H1u1.out)
    have HZu2 := Lib.hid ((hb.block _ (lt_of_block HZu1.out)).trans HZu1.out)
    clear hb ha hR
    have c1u2 := cell_of_row u2 w.heap.size 1 _ _ _ H0u2.out
    have c2u2 := cell_of_row u2 w.heap.size 2 _ _ _ H0u2.out
    simp only [List.getElem?_toArray, List.getElem?_cons_zero, List.getElem?_cons_succ] at c1u2 c2u2
    have HS1 := Lib.hid (And.intro c1u2 c2u2)
    refine hK.out _ _ ⟨c1u2, c2u2⟩ ?_
    clear hK K c1u2 c2u2
    try simp only [Act.put, List.setIfInBounds_toArray]
    try simp only [List.set_cons_zero, List.set_cons_succ]
    refine take_val 5 (.agg #[.slice none 0 0, .slice (some ⟨R, 0, none⟩) rs.length (rs.length + 3), .bool bz]) rfl (by kernel_rfl) (by kernel_rfl) (by kernel_rfl) (fun _ _ _ _ h => h) (by rfl) rfl (fun wz hS => by go_simp) HS1.out ?_
    try simp only [List.set_cons_zero, List.set_cons_succ]
    refine one_ready 7 (by kernel_rfl) rfl (by rfl) (fun K hK => ?_)
    have hst := gown_store (IR := #[.slice none 0 0, .slice (some ⟨R, 0, none⟩) rs.length (rs.length + 3), .bool bz]) rfl HZu2.out HAu2.out H0u2.out H1u2.out HBBu2.out HLI.out
    refine wp_store_mid 41 _ _ rfl (I) 0 #[.slice none 0 0, .slice (some ⟨R, 0, none⟩) rs.length (rs.length + 3), .bool bz] rfl rfl (there_rowO HZu2.out 0 _ (by show 3 ≤ 3; omega)) (by show _ = some 3; kernel_rfl) (by show _ = _; kernel_rfl) ?_
    have e1 := cell_of_row _ w.heap.size 1 _ _ _ hst.2.2.1
    have e2 := cell_of_row _ w.heap.size 2 _ _ _ hst.2.2.1
    simp only [List.getElem?_toArray, List.getElem?_cons_zero, List.getElem?_cons_succ] at e1 e2
    refine hK.out _ _ ⟨e1, e2⟩ ?_
    clear hK K
    try simp only [Act.put, List.setIfInBounds_toArray]
    try simp only [List.set_cons_zero, List.set_cons_succ]
    refine wpAnyH_done (by kernel_rfl) ?_ _
    refine NoPanic.normal ?_
    exact ⟨rfl, _, _, rfl, HLI.out, HLR.out, hst⟩
end Go.Proofs.Ytgoocmocdimnoaa
