/- What a disk shows, a deed done at it, deeds played. -/
import Derived.Test.YtmnmgoafemnppaaDiskRead
namespace Go.Proofs.Ytmnmgoafemnppaa
open Go.RowKit Plain Go.Maps
set_option linter.unusedVariables false
set_option linter.unusedSimpArgs false
def flF (F : Fm) (ks : List TB) : List TB := ks.flatMap fun k => [k, rdF F k]
theorem flF_length (F : Fm) (ks : List TB) : (flF F ks).length = 2 * ks.length := by
  induction ks with
  | nil => rfl
  | cons k ks ih => unfold flF at *; rw [List.flatMap_cons, List.length_append, ih]; simp; omega
theorem flF_step (F : Fm) {ks : List TB} {i : Nat} (h : i < ks.length) : flF F (ks.take (i + 1)) = flF F (ks.take i) ++ [ks[i], rdF F ks[i]] := by
  unfold flF
  rw [List.take_succ_eq_append_getElem h, List.flatMap_append, List.flatMap_singleton]
theorem info_strD : ∃ i, Try.prog.info? 9 = some i ∧ i.zero = some (.string ⟨#[]⟩) ∧ i.size = 1 ∧ i.bytes = 16 := info_parts (by kernel_rfl)
theorem ks_facts {base p N : Nat} {d : Dst} {w : World} (h : DS base p N d w) {ks : List TB} (hk : KS d.F ks) : (∀ k ∈ ks, k.length ≤ maxLen) ∧ ks.length ≤ N := by
  obtain ⟨f, g, nf, ng, DF, DG, ca, cc, hx⟩ := h
  obtain ⟨h1, h2, h3⟩ := ks_of hx.2.1 (List.Perm.refl _)
  have e : ks = (strKeys DF).mergeSort leB := KS.unique (hx.2.2.2.2.2.2.1 ▸ hk) h1
  refine ⟨fun k hkk => ?_, by rw [e]; have := hx.2.2.2.2.2.2.2.2.1.1; omega⟩
  refine strKeys_le hx.2.1 Try.underlying9 k ((mem_strKeysD hx.2.1 k).2 ?_)
  rw [← hx.2.2.2.2.2.2.1]
  exact (hk.2.1 k).1 hkk
def FlEnd (d : Dst) (w : World) (e : Ending) (w' : World) : Prop := Below w.heap.size w w' ∧ ∃ (ks : List TB) (a : Option Addr) (c : Nat), (d.down = false → KS d.F ks) ∧ e = .returned (.slice a (flF d.F ks).length c) ∧ w'.ownsRow w.heap.size 9 1 (.slice a (flF d.F ks).length c) (flF d.F ks).length ((flF d.F ks).flatMap sTB)
set_option maxRecDepth 100000 in
set_option maxHeartbeats 4000000 in
theorem files_any {base p N : Nat} {d : Dst} {w : World} (hN : N ≤ 4398046511104) (h : DS base p N d w) : Calls Try.prog 11 #[.pointer (some ⟨p, 0, none⟩)] w (FlEnd d w) := by
  obtain ⟨i0, hi0, hz0, hz1, hz2⟩ := info_strD
  have HLI := Lib.hid (dlist_any (by omega) h)
  have HDS := Lib.hid h
  clear h
  go_enter Try.func11, Try.ntmps11
  go_wp2_with fail
  refine HLI.out.mono ?_
  rintro e w1 ⟨hb, ⟨hd, rfl⟩ | ⟨hd, ks, a, c, hks, rfl, ho⟩⟩
  · have HB := Lib.hid hb
    have HD := Lib.hid hd
    clear hb hd HLI
    go_wp2_with fail
    go_loopw [3, 17] (fun ov iv wr => ov = .slice none 0 0 ∧ iv = .int .i64 0 ∧ Hid (Below w.heap.size w wr)) (fun _ iv _ => (intOf iv).toNat)
    case atStart => exact ⟨rfl, rfl, HB⟩
    case round =>
      obtain ⟨rfl, rfl, HBR⟩ := hrel
      go_wp2_with fail
      go_ret
      exact ⟨HBR.out, [], none, 0, fun h => (by rw [HD.out] at h; cases h), rfl, World.ownsRow_nil _ _ _ _⟩
  · have HB := Lib.hid hb
    have HD := Lib.hid hd
    have HKS := Lib.hid hks
    obtain ⟨a1, c1, e1, _, _, hs1⟩ := SAt.own ho sTB_length
    injection e1 with e1 _ e3
    subst e1
    subst e3
    have HS := Lib.hid hs1
    have HDS1 := Lib.hid (HDS.out.below hb)
    obtain ⟨hk1, hk2⟩ := ks_facts HDS.out hks
    have HK1 := Lib.hid hk1
    have HK2 : Hid (ks.length ≤ 4398046511104) := Lib.hid (by omega)
    have hk63 : (ks.length : Int) ≤ 4398046511104 := by omega
    clear hb hd hks ho hs1 hk1 hk2 HLI
    go_wp2_with fail
    go_loopw [3, 17] (fun ov iv wr => ∃ (i : Nat) (oa : Option Addr) (oc : Nat), i ≤ ks.length ∧ iv = .int .i64 (i : Int) ∧ ov = .slice oa (flF d.F (ks.take i)).length oc ∧ Hid (wr.ownsRow w1.heap.size 9 1 (.slice oa (flF d.F (ks.take i)).length oc) (flF d.F (ks.take i)).length ((flF d.F (ks.take i)).flatMap sTB)) ∧ Hid (Below w1.heap.size w1 wr)) (fun _ iv _ => ks.length - (intOf iv).toNat)
    case atStart => exact ⟨0, none, 0, by omega, rfl, rfl, Lib.hid (World.ownsRow_nil _ _ _ _), Lib.hid (Below.refl _ _)⟩
    case round =>
      obtain ⟨i, oa, oc, hi, rfl, rfl, HO, HBR⟩ := hrel
      by_cases hlt : i < ks.length
      · have m1 : (i : Int) < (ks.length : Int) := by omega
        obtain ⟨g, off, rfl, hg, hr⟩ := (HS.out.below HBR.out) i hlt
        have y0 := hr 0 _ rfl
        simp only [Nat.add_zero, Nat.mul_one] at y0
        have HFS := Lib.hid (flF_step d.F hlt)
        have HLEN : Hid ((flF d.F (ks.take i)).length = 2 * i) := Lib.hid (by rw [flF_length, List.length_take]; omega)
        have HRD := Lib.hid (dread_any ks[i] (HK1.out _ (List.getElem_mem hlt)) HD.out (HDS1.out.below HBR.out))
        have i9 : (i : Int) < 4398046511104 := by omega
        clear hg hr
        generalize ks[i] = k at *
        generalize hL : flF d.F (ks.take i) = L at *
        generalize hL2 : flF d.F (ks.take (i + 1)) = L2 at *
        have HL2 := Lib.hid hL2
        clear hL hL2
        go_wp2_with fail
        refine HRD.out.mono ?_
        rintro e w2 ⟨⟨cd, rfl⟩, hw2⟩
        subst hw2
        generalize rdF d.F k = v at *
        have HAL := Lib.hid ((Below.refl w2.heap.size w2).alloc (Nat.le_refl _) (.cells #[.string (tB k), .string (tB v)] 9))
        have D1 := Lib.hid (cells_new_at w2 w2.heap.size rfl #[.string (tB k), .string (tB v)] 9 [.string (tB k), .string (tB v)] rfl)
        have D2 : Hid (∀ u ∈ ([.string (tB k), .string (tB v)] : List Value), u.oneCell' = true) := Lib.hid (by intro u hu; simp only [List.mem_cons, List.not_mem_nil, or_false] at hu; rcases hu with rfl | rfl <;> rfl)
        have D3 : Hid (L.length + 2 ≤ maxLen) := Lib.hid (by have := HLEN.out; have := HK2.out; unfold maxLen; omega)
        have D4 : Hid ((L.length + 2) * 16 ≤ 140737488355328) := Lib.hid (by have := HLEN.out; have := HK2.out; omega)
        have D5 : Hid (w1.heap.size ≤ (w2.alloc (.cells #[.string (tB k), .string (tB v)] 9)).heap.size) := Lib.hid (by have := HBR.out.size; simp; omega)
        have HOA := Lib.hid (own_belowD HO.out HAL.out)
        have HBA := Lib.hid (Below.step HBR.out HAL.out)
        clear HRD HO HAL
        go_wp2_with (at_builtin; refine wpList_append_own _ rfl _ _ 30 rfl w1.heap.size 9 i0 (.string ⟨#[]⟩) 1 16 Try.underlying30 hi0 hz0 hz1 hz2 rfl (by decide) _ _ _ rfl HOA.out ⟨w2.heap.size, 0, none⟩ 2 2 [.string (tB k), .string (tB v)] rfl rfl D1.out D2.out D3.out D4.out D5.out ?_)
        intro v' w3 hown' hgrow _
        obtain ⟨oa2, oc2, rfl⟩ := own_formD hown'
        have HB3 := Lib.hid (HBA.out.grown hgrow (by have h9 := HBA.out.size; exact h9) (fun k hk => (HOA.out.lt k hk).1))
        have hL2 : L2.length = L.length + 2 := by rw [HFS.out, List.length_append]; rfl
        have HO3 : Hid (w3.ownsRow w1.heap.size 9 1 (.slice oa2 L2.length oc2) L2.length (L2.flatMap sTB)) := Lib.hid (by
          rw [hL2, HFS.out, List.flatMap_append]
          exact hown')
        clear hown' hgrow HOA HBA D1 D2 D3 D4 D5
        go_wp2_with fail
        go_roundw
        case rel => exact ⟨i + 1, oa2, oc2, by omega, by go_num, by rw [HL2.out, hL2], by rw [HL2.out]; exact HO3, HB3⟩
        case measure => simp [intOf]; omega
      · have m1 : ¬ (i : Int) < (ks.length : Int) := by omega
        obtain rfl : i = ks.length := by omega
        rw [List.take_length] at HO ⊢
        have HO2 : Hid (wr.ownsRow w.heap.size 9 1 (.slice oa (flF d.F ks).length oc) (flF d.F ks).length ((flF d.F ks).flatMap sTB)) := Lib.hid (by
          refine ⟨HO.out.1, ?_⟩
          rcases HO.out.2 with hv | ⟨g, cap, cur, hv, hB, hg⟩
          · exact .inl hv
          · exact .inr ⟨g, cap, cur, hv, by have := HB.out.size; omega, hg⟩)
        go_wp2_with fail
        go_ret
        exact ⟨Below.step HB.out HBR.out, ks, oa, oc, fun _ => HKS.out, rfl, HO2.out⟩
abbrev MD := Int × ByteArray × ByteArray × Int × (Option Addr × Nat × List Int)
def mdC (m : MD) : List Value := [.int .i64 m.1, .string m.2.1, .string m.2.2.1, .int .i64 m.2.2.2.1, .slice m.2.2.2.2.1 m.2.2.2.2.2.2.length m.2.2.2.2.2.1]
theorem mdC_length (m : MD) : (mdC m).length = 5 := rfl
def ddOf (m : MD) : Dd := (m.1, bT m.2.1, bT m.2.2.1, m.2.2.2.1, m.2.2.2.2.2.2)
/-- a deed as it came in -/
def MdOk (w : World) (m : MD) : Prop := m.2.1.size ≤ 9223372036854775807 ∧ m.2.2.1.size ≤ 9223372036854775807 ∧ m.2.2.2.1 ≤ 9223372036854775807 ∧ SAt 1 iC w m.2.2.2.2.1 m.2.2.2.2.2.2 ∧ m.2.2.2.2.2.2.length ≤ 9223372036854775807 ∧ ∀ k ∈ m.2.2.2.2.2.2, I64 k
def DeEnd (base p N : Nat) (d : Dst) (x : Dd) (w : World) (e : Ending) (w' : World) : Prop := ∃ (c : Int) (d' : Dst), e = .returned (.int .i64 c) ∧ DdStep d x c d' ∧ DS base p (N + 1) d' w' ∧ FR base w w'
set_option maxRecDepth 100000 in
set_option maxHeartbeats 8000000 in
theorem deed_any {p N : Nat} {d : Dst} {w0 w : World} (m : MD) (hm : MdOk w0 m) (hb0 : Below w0.heap.size w0 w) (hN : N ≤ 4398046511104) (h : DS w0.heap.size p N d w) :
    Calls Try.prog 14 #[.pointer (some ⟨p, 0, none⟩), .agg (mdC m).toArray] w (DeEnd w0.heap.size p N d (ddOf m) w) := by
  obtain ⟨k, nm, tx, n, ka, kc, K⟩ := m
  obtain ⟨hz1, hz2, hz3, hz4, hz5, hz6⟩ := hm
  simp only at hz1 hz2 hz3 hz4 hz5 hz6
  have HAL := Lib.hid ((Below.refl w.heap.size w).alloc (Nat.le_refl _) (.cells #[.int .i64 k, .string nm, .string tx, .int .i64 n, .slice ka K.length kc] 37))
  have HDS := Lib.hid (h.below HAL.out)
  have hX := heap_alloc_new w (.cells #[.int .i64 k, .string nm, .string tx, .int .i64 n, .slice ka K.length kc] 37)
  have x0 := cell_of_row _ w.heap.size 0 _ _ _ hX
  have x1 := cell_of_row _ w.heap.size 1 _ _ _ hX
  have x2 := cell_of_row _ w.heap.size 2 _ _ _ hX
  have x3 := cell_of_row _ w.heap.size 3 _ _ _ hX
  have x4 := cell_of_row _ w.heap.size 4 _ _ _ hX
  simp only [List.getElem?_toArray, List.getElem?_cons_zero, List.getElem?_cons_succ] at x0 x1 x2 x3 x4
  have HFA := Lib.hid (FR.of_below HAL.out h.base_le)
  have HN : Hid (N ≤ 4398046511104) := Lib.hid (by omega)
  have HWR := Lib.hid fun (W : World) (hd : DS w0.heap.size p N d W) => dwrite_any nm tx hz1 hz2 HN.out hd
  have HRN := Lib.hid fun (W : World) (hd : DS w0.heap.size p N d W) => drename_any nm tx hz1 hz2 HN.out hd
  have HRM := Lib.hid fun (W : World) (hd : DS w0.heap.size p N d W) => dremove_any nm hz1 HN.out hd
  have HSY := Lib.hid fun (W : World) (hd : DS w0.heap.size p N d W) => dsync_any hd
  have HFU := Lib.hid fun (W : World) (hd : DS w0.heap.size p N d W) => fuse_any n hz3 hd
  have HBW := Lib.hid (hb0.trans HFA.out.1)
  have HCR := Lib.hid fun (W : World) (hbw : Below w0.heap.size w0 W) (hd : DS w0.heap.size p N d W) => crash_any ka kc K (fun X hX => hz4.below (hbw.trans hX.1)) hz5 hz6 HN.out hd
  have HSTEP : Hid (∀ c d', DdStep d (ddOf (k, nm, tx, n, ka, kc, K)) c d' ↔ (if k = 1 then WrStep d (bT nm) (bT tx) c d' else if k = 2 then RnStep d (bT nm) (bT tx) c d' else if k = 3 then RmStep d (bT nm) c d' else if k = 4 then SyStep d c d' else if k = 7 then c = 0 ∧ d' = d.fuse n else if k = 8 then c = 0 ∧ d' = d.crash K else c = 0 ∧ d' = d)) := Lib.hid fun c d' => Iff.rfl
  have HEND : Hid (∀ (c : Int) (d' : Dst) (M : Nat) (W W' : World), M ≤ N + 1 → DdStep d (ddOf (k, nm, tx, n, ka, kc, K)) c d' → DS w0.heap.size p M d' W' → FR w0.heap.size w W → FR w0.heap.size W W' → DeEnd w0.heap.size p N d (ddOf (k, nm, tx, n, ka, kc, K)) w (.returned (.int .i64 c)) W') := Lib.hid fun c d' M W W' hM h1 h2 h3 h4 => ⟨c, d', rfl, h1, h2.mono hM, h3.trans h4⟩
  unfold mdC
  simp only
  clear h hz1 hz2 hz3 hz4 hz5 hz6 hX hb0 HAL
  by_cases k1 : k = 1
  · subst k1
    go_enter Try.func14, Try.ntmps14
    go_wp2_with fail
    refine (HWR.out _ HDS.out).mono ?_
    rintro e w2 ⟨c, d', rfl, hs, hd, hf, _⟩
    have HE := Lib.hid (HEND.out c d' (N + 1) _ w2 (Nat.le_refl _) ((HSTEP.out c d').2 (by simp; exact hs)) hd HFA.out hf)
    clear hs hd hf
    go_wp2_with fail
    go_ret
    exact HE.out
  have f1 : (k == 1) = false := by simpa using k1
  by_cases k2 : k = 2
  · subst k2
    clear f1
    go_enter Try.func14, Try.ntmps14
    go_wp2_with fail
    refine (HRN.out _ HDS.out).mono ?_
    rintro e w2 ⟨c, d', rfl, hs, hd, hf⟩
    have HE := Lib.hid (HEND.out c d' (N + 1) _ w2 (Nat.le_refl _) ((HSTEP.out c d').2 (by simp; exact hs)) hd HFA.out hf)
    clear hs hd hf
    go_wp2_with fail
    go_ret
    exact HE.out
  have f2 : (k == 2) = false := by simpa using k2
  by_cases k3 : k = 3
  · subst k3
    clear f1 f2
    go_enter Try.func14, Try.ntmps14
    go_wp2_with fail
    refine (HRM.out _ HDS.out).mono ?_
    rintro e w2 ⟨c, d', rfl, hs, hd, hf⟩
    have HE := Lib.hid (HEND.out c d' (N + 1) _ w2 (Nat.le_refl _) ((HSTEP.out c d').2 (by simp; exact hs)) hd HFA.out hf)
    clear hs hd hf
    go_wp2_with fail
    go_ret
    exact HE.out
  have f3 : (k == 3) = false := by simpa using k3
  by_cases k4 : k = 4
  · subst k4
    clear f1 f2 f3
    go_enter Try.func14, Try.ntmps14
    go_wp2_with fail
    refine (HSY.out _ HDS.out).mono ?_
    rintro e w2 ⟨c, d', rfl, hs, hd, hf⟩
    have HE := Lib.hid (HEND.out c d' N _ w2 (Nat.le_succ _) ((HSTEP.out c d').2 (by simp; exact hs)) hd HFA.out hf)
    clear hs hd hf
    go_wp2_with fail
    go_ret
    exact HE.out
  have f4 : (k == 4) = false := by simpa using k4
  by_cases k7 : k = 7
  · subst k7
    clear f1 f2 f3 f4
    go_enter Try.func14, Try.ntmps14
    go_wp2_with fail
    refine (HFU.out _ HDS.out).mono ?_
    rintro e w2 ⟨hf, rfl, hd⟩
    have HE := Lib.hid (HEND.out 0 (d.fuse n) N _ w2 (Nat.le_succ _) ((HSTEP.out 0 _).2 (by simp)) hd HFA.out hf)
    clear hd hf
    go_wp2_with fail
    go_ret
    exact HE.out
  have f7 : (k == 7) = false := by simpa using k7
  by_cases k8 : k = 8
  · subst k8
    clear f1 f2 f3 f4 f7
    go_enter Try.func14, Try.ntmps14
    go_wp2_with fail
    refine (HCR.out _ HBW.out HDS.out).mono ?_
    rintro e w2 ⟨hf, rfl, hd⟩
    have HE := Lib.hid (HEND.out 0 (d.crash K) N _ w2 (Nat.le_succ _) ((HSTEP.out 0 _).2 (by simp)) hd HFA.out hf)
    clear hd hf
    go_wp2_with fail
    go_ret
    exact HE.out
  have f8 : (k == 8) = false := by simpa using k8
  have HE := Lib.hid (HEND.out 0 d N _ _ (Nat.le_succ _) ((HSTEP.out 0 _).2 (by rw [if_neg k1, if_neg k2, if_neg k3, if_neg k4, if_neg k7, if_neg k8]; exact ⟨rfl, rfl⟩)) HDS.out HFA.out (FR.refl _ _))
  clear k1 k2 k3 k4 k7 k8
  go_enter Try.func14, Try.ntmps14
  go_wp2_with fail
  go_ret
  exact HE.out
end Go.Proofs.Ytmnmgoafemnppaa
