/- The walks of the comparison of heaps, where what they hold is equal. -/
import Derived.Test.YtgoocmocdimnoaaSpoilThg
namespace Go.Proofs.Ytgoocmocdimnoaa
open Go.RowKit Plain
set_option linter.unusedVariables false
set_option linter.unusedSimpArgs false
def TrueEnd (w0 : World) (e : Ending) (w : World) : Prop := e = .returned (.bool true) ∧ Below w0.heap.size w0 w
set_option maxRecDepth 100000 in
set_option maxHeartbeats 2000000 in
theorem sameThg_any (fa ga : Option Addr) (fc gc : Nat) (l : List Int) (col : Int) (fr : Bool) (w : World) (hl : SAt 1 iC w fa l) (hm : SAt 1 iC w ga l) (nl : l.length ≤ 9223372036854775807) :
    Calls Try.prog 53 #[.agg #[.slice fa l.length fc, .int .i64 col, .bool fr], .agg #[.slice ga l.length gc, .int .i64 col, .bool fr]] w (TrueEnd w) := by
  have HB : Hid (Below w.heap.size w ((w.alloc (.cells #[.slice fa l.length fc, .int .i64 col, .bool fr] 47)).alloc (.cells #[.slice ga l.length gc, .int .i64 col, .bool fr] 47))) := ((Below.refl w.heap.size w).alloc (Nat.le_refl _) _).alloc (by simp) _
  have HC := Lib.hid (eqInt_any fa ga fc gc l l ((w.alloc (.cells #[.slice fa l.length fc, .int .i64 col, .bool fr] 47)).alloc (.cells #[.slice ga l.length gc, .int .i64 col, .bool fr] 47)) (hl.below HB.out) (hm.below HB.out) nl nl)
  clear hl hm
  go_enter Try.func53, Try.ntmps53
  cases fr
  · go_wp2_with fail
    refine HC.out.mono ?_
    rintro e w1 ⟨rfl, hb⟩
    have HB1 := Lib.hid (Below.step HB.out hb)
    clear hb
    simp only [decide_true]
    go_wp2_with fail
    go_ret
    exact ⟨rfl, HB1.out⟩
  · go_wp2_with fail
    refine HC.out.mono ?_
    rintro e w1 ⟨rfl, hb⟩
    have HB1 := Lib.hid (Below.step HB.out hb)
    clear hb
    simp only [decide_true]
    go_wp2_with fail
    go_ret
    exact ⟨rfl, HB1.out⟩
set_option maxRecDepth 100000 in
set_option maxHeartbeats 2000000 in
theorem sameThgs_any (a b : Option Addr) (ca cb : Nat) (l m : List TRow) (w : World) (hl : TAt w a l) (hm : TAt w b m) (nl : l.length ≤ 9223372036854775807) (he : tK l = tK m) :
    Calls Try.prog 54 #[.slice a l.length ca, .slice b m.length cb, .func (Fn.func 53) #[] #[]] w (TrueEnd w) := by
  have HL := Lib.hid hl
  have HM := Lib.hid hm
  have hlen : l.length = m.length := by rw [← tK_length l, he, tK_length]
  have f1 : ((l.length : Int) != (m.length : Int)) = false := by simp [hlen]
  have HLEN := Lib.hid hlen
  have HE := Lib.hid he
  have hu := Try.underlying47
  clear hl hm he hlen
  go_enter Try.func54, Try.ntmps54
  go_wp2_with fail
  go_loopw [17] (fun iv wr => ∃ i : Nat, i ≤ l.length ∧ iv = .int .i64 (i : Int) ∧ Below w.heap.size w wr) (fun iv _ => l.length - (intOf iv).toNat)
  case atStart => exact ⟨0, by omega, rfl, Below.refl _ _⟩
  case round =>
    obtain ⟨i, hi, rfl, hbr⟩ := hrel
    have HBR := Lib.hid hbr
    clear hbr
    by_cases hlt : i < l.length
    · have m1 : (i : Int) < (l.length : Int) := by omega
      have m0 : (0 : Int) ≤ (i : Int) := Int.natCast_nonneg _
      have hlt2 : i < m.length := by have := HLEN.out; omega
      have m2 : (i : Int) < (m.length : Int) := by omega
      have hk1 := HL.out.2 l[i] (List.getElem_mem hlt)
      have hk2 := HM.out.2 m[i] (List.getElem_mem hlt2)
      have heq : l[i].2.2 = m[i].2.2 := by
        have e1 := tK_get l i hlt
        have e2 := tK_get m i hlt2
        rw [HE.out] at e1
        exact Option.some.inj (e1.symm.trans e2)
      obtain ⟨p, hp⟩ : ∃ p, l[i] = p := ⟨_, rfl⟩
      obtain ⟨q, hq⟩ : ∃ q, m[i] = q := ⟨_, rfl⟩
      have H1 := SAt.thg (HL.out.1.below HBR.out) i hlt p hp
      have hba : Below wr.heap.size wr (wr.alloc (.cells #[.slice p.1 p.2.2.1.length p.2.1, .int .i64 p.2.2.2.1, .bool p.2.2.2.2] 47)) := (Below.refl _ _).alloc (Nat.le_refl _) _
      have H2 := SAt.thg ((HM.out.1.below HBR.out).below hba) i hlt2 q hq
      rw [hp] at hk1 heq
      rw [hq] at hk2 heq
      clear hp hq
      obtain ⟨fa, fc, fk, col, fr⟩ := p
      obtain ⟨ga, gc, gk, col2, fr2⟩ := q
      obtain ⟨rfl, rfl, rfl⟩ : fk = gk ∧ col = col2 ∧ fr = fr2 := by
        simp only [Prod.mk.injEq] at heq
        exact heq
      have K1 := Lib.hid (hk1.1.below HBR.out)
      have K2 := Lib.hid (hk2.1.below HBR.out)
      have KL := Lib.hid hk1.2
      clear hk1 hk2 heq hba
      obtain ⟨g, off, rfl, hg, c0, c1, c2⟩ := H1
      obtain ⟨g', off', rfl, hg', d0, d1, d2⟩ := H2
      have HBA : Hid (Below wr.heap.size wr ((wr.alloc (.cells #[.slice fa fk.length fc, .int .i64 col, .bool fr] 47)).alloc (.cells #[.slice ga fk.length gc, .int .i64 col, .bool fr] 47))) := ((Below.refl wr.heap.size wr).alloc (Nat.le_refl _) _).alloc (by simp) _
      have HC := Lib.hid (sameThg_any fa ga fc gc fk col fr _ (K1.out.below HBA.out) (K2.out.below HBA.out) KL.out)
      simp only [] at c0 c1 c2 d0 d1 d2
      go_wp2_with fail
      refine HC.out.mono ?_
      rintro e w1 ⟨rfl, hb⟩
      have HB1 := Lib.hid (Below.step HBR.out (Below.step HBA.out hb))
      clear hb HC
      go_wp2_with fail
      go_roundw
      case rel => exact ⟨i + 1, by omega, by go_num, HB1.out⟩
      case measure => simp [intOf]; omega
    · have m1 : ¬ (i : Int) < (l.length : Int) := by omega
      go_wp2_with fail
      go_ret
      exact ⟨rfl, HBR.out⟩
set_option maxRecDepth 100000 in
set_option maxHeartbeats 2000000 in
theorem sameHeap_any (a b : Option Addr) (ca cb : Nat) (l m : List TRow) (ra rb : Option Addr) (rc sc : Nat) (rs : List Int) (bz : Bool) (w : World) (hl : TAt w a l) (hm : TAt w b m) (nl : l.length ≤ 9223372036854775807) (he : tK l = tK m) (hr : SAt 1 iC w ra rs) (hs : SAt 1 iC w rb rs) (nr : rs.length ≤ 9223372036854775807) :
    Calls Try.prog 34 #[.agg #[.slice a l.length ca, .slice ra rs.length rc, .bool bz], .agg #[.slice b m.length cb, .slice rb rs.length sc, .bool bz]] w (TrueEnd w) := by
  have HB : Hid (Below w.heap.size w ((w.alloc (.cells #[.slice a l.length ca, .slice ra rs.length rc, .bool bz] 41)).alloc (.cells #[.slice b m.length cb, .slice rb rs.length sc, .bool bz] 41))) := ((Below.refl w.heap.size w).alloc (Nat.le_refl _) _).alloc (by simp) _
  have hz : Below ((w.alloc (.cells #[.slice a l.length ca, .slice ra rs.length rc, .bool bz] 41)).alloc (.cells #[.slice b m.length cb, .slice rb rs.length sc, .bool bz] 41)).heap.size ((w.alloc (.cells #[.slice a l.length ca, .slice ra rs.length rc, .bool bz] 41)).alloc (.cells #[.slice b m.length cb, .slice rb rs.length sc, .bool bz] 41)) ((w.alloc (.cells #[.slice a l.length ca, .slice ra rs.length rc, .bool bz] 41)).alloc (.cells #[.slice b m.length cb, .slice rb rs.length sc, .bool bz] 41)) := Below.refl _ _
  have HL := Lib.hid (hl.below HB.out)
  have HM := Lib.hid (hm.below HB.out)
  have HE := Lib.hid he
  have HC := Lib.hid (eqInt_any ra rb rc sc rs rs ((w.alloc (.cells #[.slice a l.length ca, .slice ra rs.length rc, .bool bz] 41)).alloc (.cells #[.slice b m.length cb, .slice rb rs.length sc, .bool bz] 41)) (hr.below HB.out) (hs.below HB.out) nr nr)
  have h1 := heap_alloc_new (w.alloc (.cells #[.slice a l.length ca, .slice ra rs.length rc, .bool bz] 41)) (.cells #[.slice b m.length cb, .slice rb rs.length sc, .bool bz] 41)
  have h0 := heap_alloc_new w (.cells #[.slice a l.length ca, .slice ra rs.length rc, .bool bz] 41)
  rw [← heap_alloc_old (w.alloc (.cells #[.slice a l.length ca, .slice ra rs.length rc, .bool bz] 41)) (.cells #[.slice b m.length cb, .slice rb rs.length sc, .bool bz] 41) (by simp)] at h0
  rw [World.size_alloc] at h1
  have H0 := Lib.hid h0
  have H1 := Lib.hid h1
  clear hl hm hr hs he hz h0 h1
  go_enter Try.func34, Try.ntmps34
  cases bz
  · go_wp2_with fail
    refine HC.out.mono ?_
    rintro e w1 ⟨rfl, hb⟩
    have HB1 := Lib.hid (Below.step HB.out hb)
    have b0 := cell_of_row w1 w.heap.size 0 _ _ _ ((hb.block _ (lt_of_block H0.out)).trans H0.out)
    have d0 := cell_of_row w1 (w.heap.size + 1) 0 _ _ _ ((hb.block _ (lt_of_block H1.out)).trans H1.out)
    simp only [List.getElem?_toArray, List.getElem?_cons_zero, List.getElem?_cons_succ] at b0 d0
    have HC2 := Lib.hid (sameThgs_any a b ca cb l m w1 (HL.out.below hb) (HM.out.below hb) nl HE.out)
    clear hb HC
    simp only [decide_true]
    go_wp2_with fail
    refine HC2.out.mono ?_
    rintro e w2 ⟨rfl, hb⟩
    have HB2 := Lib.hid (Below.step HB1.out hb)
    clear hb HC2
    go_wp2_with fail
    go_ret
    exact ⟨rfl, HB2.out⟩
  · go_wp2_with fail
    refine HC.out.mono ?_
    rintro e w1 ⟨rfl, hb⟩
    have HB1 := Lib.hid (Below.step HB.out hb)
    have b0 := cell_of_row w1 w.heap.size 0 _ _ _ ((hb.block _ (lt_of_block H0.out)).trans H0.out)
    have d0 := cell_of_row w1 (w.heap.size + 1) 0 _ _ _ ((hb.block _ (lt_of_block H1.out)).trans H1.out)
    simp only [List.getElem?_toArray, List.getElem?_cons_zero, List.getElem?_cons_succ] at b0 d0
    have HC2 := Lib.hid (sameThgs_any a b ca cb l m w1 (HL.out.below hb) (HM.out.below hb) nl HE.out)
    clear hb HC
    simp only [decide_true]
    go_wp2_with fail
    refine HC2.out.mono ?_
    rintro e w2 ⟨rfl, hb⟩
    have HB2 := Lib.hid (Below.step HB1.out hb)
    clear hb HC2
    go_wp2_with fail
    go_ret
    exact ⟨rfl, HB2.out⟩
end Go.Proofs.Ytgoocmocdimnoaa
