/- The disk's Crash. Printed by gen_diskcrash.py. -/
import Derived.Test.YtmnmgoafemnppaaDiskMore
import Derived.Test.YtmnmgoafemnppaaInts
namespace Go.Proofs.Ytmnmgoafemnppaa
open Go.RowKit Plain Go.Maps
set_option linter.unusedVariables false
set_option linter.unusedSimpArgs false
/-- one change of a crash made upon the safe files -/
theorem cr_map {base p N i : Nat} {d : Dst} {w w1 : World} {f g nf ng : Nat} {DF DG : DM} {ca : Option Addr} {cc : Nat} (h : DSX base p (N + i) d w f g nf ng DF DG ca cc) {D' : DM} (hg : w.grownBy w1 (some g)) (hm : SM w1 g (ng + 1) D') :
    DSX base p (N + (i + 1)) { d with G := lookM D' } w1 f g nf (ng + 1) DF D' ca cc ∧ FR base w w1 := by
  obtain ⟨h1, h2, h3, h4, h5, h6, h7, h8, h9, h10⟩ := h
  have hpg : p ≠ g := fun e => by
    subst e
    obtain ⟨es, clock, hb, _⟩ := h3
    have h1 : w.heap[p]? = some (Obj.cells _ _ _) := h1
    rw [hb] at h1; injection h1 with h1; cases h1
  refine ⟨⟨(hg.block p (lt_of_block h1) (fun e => hpg (by injection e))).trans h1, SM.of_block h2 (hg.block f h2.lt (fun e => h4 (by injection e))), hm, h4, h5, own_mapD h6 h3 hg, h7, rfl, ⟨by omega, by show ng + 1 + d.C.length ≤ N + (i + 1); omega⟩, h10⟩, ?_, FrT.of_map hg h3⟩
  exact (Below.refl base w).grown hg (by have := lt_of_block h1; omega) (fun k hk => by injection hk with hk; omega)
theorem crx_mono {base p N i : Nat} {d : Dst} {w : World} {f g nf ng : Nat} {DF DG : DM} {ca : Option Addr} {cc : Nat} (h : DSX base p (N + i) d w f g nf ng DF DG ca cc) : DSX base p (N + (i + 1)) d w f g nf ng DF DG ca cc := by
  obtain ⟨h1, h2, h3, h4, h5, h6, h7, h8, h9, h10⟩ := h
  exact ⟨h1, h2, h3, h4, h5, h6, h7, h8, ⟨by omega, by omega⟩, h10⟩
theorem cr_step {C : List Chg} {i : Nat} (h : i < C.length) (K : List Int) (G : Fm) : crF (C.take (i + 1)) K G = match K[i]? with
    | none => crF (C.take i) K G
    | some k => kpC C[i] k (crF (C.take i) K G) := by
  rw [List.take_succ_eq_append_getElem h, crF_snoc]
  rw [show (C.take i).length = i by rw [List.length_take]; omega]
  cases K[i]? <;> rfl
/-- the end of a crash -/
theorem cr_end {base p N : Nat} {d : Dst} {w w1 : World} {f g nf ng : Nat} {DF DG : DM} {ca : Option Addr} {cc : Nat} {K : List Int} (h : DSX base p (N + d.C.length) { d with G := crF d.C K d.G } w f g nf ng DF DG ca cc) (hm : SM w1 w.heap.size ng DG) (hb : Below w.heap.size w w1) :
    DRow w1 p d.room f g ca d.C.length cc d.fu d.lf ∧ DRow (w1.setCell ⟨p, 1, none⟩ (.map (some w.heap.size))) p d.room w.heap.size g ca d.C.length cc d.fu d.lf ∧ DRow ((w1.setCell ⟨p, 1, none⟩ (.map (some w.heap.size))).setCell ⟨p, 3, none⟩ (.slice none 0 0)) p d.room w.heap.size g none 0 0 d.fu d.lf ∧
    DS base p N (d.crash K) (((w1.setCell ⟨p, 1, none⟩ (.map (some w.heap.size))).setCell ⟨p, 3, none⟩ (.slice none 0 0)).setCell ⟨p, 4, none⟩ (.bool false)) ∧ FR base w (((w1.setCell ⟨p, 1, none⟩ (.map (some w.heap.size))).setCell ⟨p, 3, none⟩ (.slice none 0 0)).setCell ⟨p, 4, none⟩ (.bool false)) := by
  have h1 := h.below hb
  have hpp := lt_of_block h.1
  have hgg := h.2.2.1.lt
  have r1 : DRow (w1.setCell ⟨p, 1, none⟩ (.map (some w.heap.size))) p d.room w.heap.size g ca d.C.length cc d.fu d.lf := row_setD h1.1 1 _
  have r2 : DRow ((w1.setCell ⟨p, 1, none⟩ (.map (some w.heap.size))).setCell ⟨p, 3, none⟩ (.slice none 0 0)) p d.room w.heap.size g none 0 0 d.fu d.lf := row_setD r1 3 _
  have r3 : DRow (((w1.setCell ⟨p, 1, none⟩ (.map (some w.heap.size))).setCell ⟨p, 3, none⟩ (.slice none 0 0)).setCell ⟨p, 4, none⟩ (.bool false)) p d.room w.heap.size g none 0 0 false d.lf := row_setD r2 4 _
  have hgp : g ≠ p := fun e => by
    subst e
    obtain ⟨es, clock, hb, _⟩ := h.2.2.1
    have h1 : w.heap[g]? = some (Obj.cells _ _ _) := h.1
    rw [hb] at h1; injection h1 with h1; cases h1
  have hfp : w.heap.size ≠ p := by omega
  have hN := h.2.2.2.2.2.2.2.2.1.2
  have hN : ng + d.C.length ≤ N + d.C.length := hN
  refine ⟨h1.1, r1, r2, ⟨w.heap.size, g, ng, ng, DG, DG, none, 0, r3, SM.of_block (SM.of_block (SM.of_block hm (Below.heap_setCell _ _ _ _ hfp)) (Below.heap_setCell _ _ _ _ hfp)) (Below.heap_setCell _ _ _ _ hfp), SM.of_block (SM.of_block (SM.of_block h1.2.2.1 (Below.heap_setCell _ _ _ _ hgp)) (Below.heap_setCell _ _ _ _ hgp)) (Below.heap_setCell _ _ _ _ hgp), by omega, ⟨h.2.2.2.2.1.1, by have := h.2.2.2.2.1.1; omega, h.2.2.2.2.1.2.2⟩, World.ownsRow_nil _ _ _ _, h.2.2.2.2.2.2.2.1, h.2.2.2.2.2.2.2.1, ⟨by omega, by show ng + 0 ≤ N; omega⟩, h.2.2.2.2.2.2.2.2.2.1, fun c hc => by cases hc⟩, ?_⟩
  exact (FR.of_below hb (by have := h.2.2.2.2.1.1; omega)).trans (FR.trans ⟨(Below.refl base w1).setCell (p := ⟨p, 1, none⟩) h.2.2.2.2.1.1 _, FrT.of_cells h1.1 (.inl rfl) 1 _⟩ (FR.trans ⟨(Below.refl base _).setCell (p := ⟨p, 3, none⟩) h.2.2.2.2.1.1 _, FrT.of_cells r1 (.inl rfl) 3 _⟩ ⟨(Below.refl base _).setCell (p := ⟨p, 4, none⟩) h.2.2.2.2.1.1 _, FrT.of_cells r2 (.inl rfl) 4 _⟩))
def CrEnd (base p N : Nat) (d : Dst) (K : List Int) (w : World) (e : Ending) (w' : World) : Prop := FR base w w' ∧ e = .returned (.tuple #[]) ∧ DS base p N (d.crash K) w'
set_option maxRecDepth 100000 in
set_option maxHeartbeats 16000000 in
theorem crash_any {base p N : Nat} {d : Dst} {w : World} (a : Option Addr) (cap : Nat) (K : List Int) (hK : ∀ W, FR base w W → SAt 1 iC W a K) (hl : K.length ≤ 9223372036854775807) (hk : ∀ k ∈ K, I64 k) (hN : N ≤ 4398046511104) (h : DS base p N d w) :
    Calls Try.prog 12 #[.pointer (some ⟨p, 0, none⟩), .slice a K.length cap] w (CrEnd base p N d K w) := by
  obtain ⟨f, g, nf, ng0, DF, DG0, ca, cc, h⟩ := h
  obtain ⟨c0, c1, c2, c3, c4, c5⟩ := drow_cells h.1
  have HKK := Lib.hid hK
  have HKI := Lib.hid hk
  have HNN := Lib.hid hN
  have HCZ : Hid (∀ c ∈ d.C, ChgZ c) := Lib.hid h.2.2.2.2.2.2.2.2.2.2
  have HCN : Hid (d.C.length ≤ N) := Lib.hid (by have := h.2.2.2.2.2.2.2.2.1.2; omega)
  have HX0 : Hid (DSX base p (N + 0) { d with G := crF (d.C.take 0) K d.G } w f g nf ng0 DF DG0 ca cc) := Lib.hid (by
    have e : ({ d with G := crF (d.C.take 0) K d.G } : Dst) = d := by rw [List.take_zero]; rfl
    rw [e]; exact h)
  have na1 := nil_write
  have na2 := nil_rename
  have na3 := nil_remove
  have me1 := meth_write
  have me2 := meth_rename
  have me3 := meth_remove
  have hcl63 : (d.C.length : Int) ≤ 4398046511104 := by have := HCN.out; omega
  clear h hK hk
  go_enter Try.func12, Try.ntmps12
  go_wp2_with fail
  clear c0 c1 c2 c3 c4 c5
  go_loopw [11] (fun iv wr => ∃ (i ng : Nat) (DG : DM), i ≤ d.C.length ∧ iv = .int .i64 (i : Int) ∧ Hid (DSX base p (N + i) { d with G := crF (d.C.take i) K d.G } wr f g nf ng DF DG ca cc) ∧ Hid (FR base w wr)) (fun iv _ => d.C.length - (intOf iv).toNat)
  case atStart => exact ⟨0, ng0, DG0, by omega, rfl, HX0, Lib.hid (FR.refl _ _)⟩
  case round =>
    obtain ⟨i, ng, DG, hi, rfl, HX, HF⟩ := hrel
    clear HX0
    by_cases hlt : i < d.C.length
    · have m1 : (i : Int) < (d.C.length : Int) := by omega
      have HST := Lib.hid (cr_step hlt K d.G)
      have HCI := Lib.hid (HCZ.out _ (List.getElem_mem hlt))
      obtain ⟨a1, cap1, e1, _, _, hs1⟩ := SAt.own HX.out.2.2.2.2.2.1 chC_length
      injection e1 with e1 _ e3
      subst e1
      subst e3
      obtain ⟨gb, off, rfl, hgb, hrr⟩ := hs1 i hlt
      have y0 := hrr 0 _ rfl
      simp only [Nat.add_zero, Nat.mul_one] at y0
      have HKR := Lib.hid (HKK.out wr HF.out)
      obtain ⟨c0, c1, c2, c3, c4, c5⟩ := drow_cells HX.out.1
      have HMG : Hid (SM wr g ng DG) := Lib.hid HX.out.2.2.1
      have HNG : Hid (ng < maxLen) := Lib.hid (by have := HX.out.2.2.2.2.2.2.2.2.1.2; have := HNN.out; have := HCN.out; unfold maxLen; omega)
      have HGF : Hid (crF (d.C.take i) K d.G = lookM DG) := Lib.hid HX.out.2.2.2.2.2.2.2.1
      have i9 : (i : Int) < 4398046511104 := by omega
      clear hrr hs1
      by_cases hki : i < K.length
      · have n1 : (i : Int) < (K.length : Int) := by omega
        have n2 : ¬ (K.length : Int) ≤ (i : Int) := by omega
        have hkv : K[i]? = some K[i] := List.getElem?_eq_getElem hki
        rw [hkv] at HST
        obtain ⟨kg, koff, hka, hkg, hkr⟩ := HKR.out i hki
        have k0 := hkr 0 _ rfl
        simp only [Nat.add_zero, Nat.mul_one] at k0
        have HKB := Lib.hid (HKI.out _ (List.getElem_mem hki))
        have HAX := Lib.hid hka
        subst hka
        clear hkr hkg hkv HKR HAX
        generalize K[i] = k at *
        generalize hC1 : crF (d.C.take (i + 1)) K d.G = G1 at *
        generalize d.C[i] = c at *
        by_cases hk1 : k < 1
        · have HG1 : Hid (G1 = crF (d.C.take i) K d.G) := Lib.hid (by rw [HST.out]; simp only [kpC]; rw [if_pos hk1])
          have HX2 : Hid (DSX base p (N + (i + 1)) { d with G := crF (d.C.take (i + 1)) K d.G } wr f g nf ng DF DG _ cc) := Lib.hid (by rw [hC1, HG1.out]; exact crx_mono HX.out)
          have u1 : ¬ (1 : Int) ≤ k := by omega
          clear hC1 HST
          go_wp2_with fail
          go_roundw
          case rel => exact ⟨i + 1, ng, DG, by omega, by go_num, HX2, HF⟩
          case measure => simp [intOf]; omega
        · have u1 : ¬ k < 1 := hk1
          by_cases hk2 : k = 1
          · subst hk2
            have HG1 : Hid (G1 = apC c 65536 (lookM DG)) := Lib.hid (by rw [HST.out]; show kpC c 1 _ = _; unfold kpC; rw [if_neg (by decide), if_pos rfl, HGF.out])
            have HAP := Lib.hid (fun W (hW : SM W g ng DG) => ap_any c HCI.out 65536 (by decide) (by decide) hW HNG.out)
            clear HST
            cases c with
            | wr n s =>
              unfold chV at *
              go_wp2_with fail
              go_still_tail 8, (by kernel_rfl)
              change wpList _ _ _ _ _ wr.drew
              have HBD : Hid (Below wr.heap.size wr wr.drew) := Lib.hid (Below.refl _ _).drew
              have HXD := Lib.hid (HX.out.below HBD.out)
              have HFD := Lib.hid (HF.out.trans (FR.of_below HBD.out (by have := lt_of_block HX.out.1; have := HX.out.2.2.2.2.1.1; omega)))
              generalize wr.drew = wd at *
              have HAC := Lib.hid (HAP.out wd HXD.out.2.2.1)
              clear c0 c1 c2 c3 c4 c5
              go_wp2_with fail
              refine HAC.out.mono ?_
              rintro e w1 ⟨rfl, hg1, D', hm1, hl1⟩
              obtain ⟨hx1, hfr1⟩ := cr_map HXD.out hg1 hm1
              have HX1 : Hid (DSX base p (N + (i + 1)) { d with G := crF (d.C.take (i + 1)) K d.G } w1 f g nf (ng + 1) DF D' _ cc) := Lib.hid (by rw [hC1, HG1.out, ← (show lookM D' = apC _ 65536 (lookM DG) from hl1)]; exact hx1)
              have HF1 := Lib.hid (HFD.out.trans hfr1)
              clear hg1 hm1 hl1 hx1 hfr1 HAC HAP hC1
              go_wp2_with fail
              go_roundw
              case rel => exact ⟨i + 1, ng + 1, D', by omega, by go_num, HX1, HF1⟩
              case measure => simp [intOf]; omega
            | rn x y =>
              unfold chV at *
              go_wp2_with fail
              go_still_tail 8, (by kernel_rfl)
              change wpList _ _ _ _ _ wr.drew
              have HBD : Hid (Below wr.heap.size wr wr.drew) := Lib.hid (Below.refl _ _).drew
              have HXD := Lib.hid (HX.out.below HBD.out)
              have HFD := Lib.hid (HF.out.trans (FR.of_below HBD.out (by have := lt_of_block HX.out.1; have := HX.out.2.2.2.2.1.1; omega)))
              generalize wr.drew = wd at *
              have HAC := Lib.hid (HAP.out wd HXD.out.2.2.1)
              clear c0 c1 c2 c3 c4 c5
              go_wp2_with fail
              refine HAC.out.mono ?_
              rintro e w1 ⟨rfl, hg1, D', hm1, hl1⟩
              obtain ⟨hx1, hfr1⟩ := cr_map HXD.out hg1 hm1
              have HX1 : Hid (DSX base p (N + (i + 1)) { d with G := crF (d.C.take (i + 1)) K d.G } w1 f g nf (ng + 1) DF D' _ cc) := Lib.hid (by rw [hC1, HG1.out, ← (show lookM D' = apC _ 65536 (lookM DG) from hl1)]; exact hx1)
              have HF1 := Lib.hid (HFD.out.trans hfr1)
              clear hg1 hm1 hl1 hx1 hfr1 HAC HAP hC1
              go_wp2_with fail
              go_roundw
              case rel => exact ⟨i + 1, ng + 1, D', by omega, by go_num, HX1, HF1⟩
              case measure => simp [intOf]; omega
            | rm n =>
              unfold chV at *
              go_wp2_with fail
              go_still_tail 8, (by kernel_rfl)
              change wpList _ _ _ _ _ wr.drew
              have HBD : Hid (Below wr.heap.size wr wr.drew) := Lib.hid (Below.refl _ _).drew
              have HXD := Lib.hid (HX.out.below HBD.out)
              have HFD := Lib.hid (HF.out.trans (FR.of_below HBD.out (by have := lt_of_block HX.out.1; have := HX.out.2.2.2.2.1.1; omega)))
              generalize wr.drew = wd at *
              have HAC := Lib.hid (HAP.out wd HXD.out.2.2.1)
              clear c0 c1 c2 c3 c4 c5
              go_wp2_with fail
              refine HAC.out.mono ?_
              rintro e w1 ⟨rfl, hg1, D', hm1, hl1⟩
              obtain ⟨hx1, hfr1⟩ := cr_map HXD.out hg1 hm1
              have HX1 : Hid (DSX base p (N + (i + 1)) { d with G := crF (d.C.take (i + 1)) K d.G } w1 f g nf (ng + 1) DF D' _ cc) := Lib.hid (by rw [hC1, HG1.out, ← (show lookM D' = apC _ 65536 (lookM DG) from hl1)]; exact hx1)
              have HF1 := Lib.hid (HFD.out.trans hfr1)
              clear hg1 hm1 hl1 hx1 hfr1 HAC HAP hC1
              go_wp2_with fail
              go_roundw
              case rel => exact ⟨i + 1, ng + 1, D', by omega, by go_num, HX1, HF1⟩
              case measure => simp [intOf]; omega
          · have HG1 : Hid (G1 = apC c (k - 2).toNat (lookM DG)) := Lib.hid (by rw [HST.out]; simp only [kpC]; rw [if_neg hk1, if_neg hk2, HGF.out])
            have hkb : k ≤ 9223372036854775807 := by have := HKB.out; unfold I64 at this; omega
            have HAP := Lib.hid (fun W (hW : SM W g ng DG) => ap_any c HCI.out (k - 2) (by omega) (by omega) hW HNG.out)
            have u2 : (k == 1) = false := by simpa using hk2
            have u3 : IntKind.i64.wrap (k - 2) = k - 2 := by rw [IntKind.wrap_i64]; omega
            clear HST hk2
            cases c with
            | wr n s =>
              unfold chV at *
              go_wp2_with fail
              go_still_tail 13, (by kernel_rfl)
              change wpList _ _ _ _ _ wr.drew
              have HBD : Hid (Below wr.heap.size wr wr.drew) := Lib.hid (Below.refl _ _).drew
              have HXD := Lib.hid (HX.out.below HBD.out)
              have HFD := Lib.hid (HF.out.trans (FR.of_below HBD.out (by have := lt_of_block HX.out.1; have := HX.out.2.2.2.2.1.1; omega)))
              generalize wr.drew = wd at *
              have HAC := Lib.hid (HAP.out wd HXD.out.2.2.1)
              clear c0 c1 c2 c3 c4 c5
              go_wp2_with fail
              refine HAC.out.mono ?_
              rintro e w1 ⟨rfl, hg1, D', hm1, hl1⟩
              obtain ⟨hx1, hfr1⟩ := cr_map HXD.out hg1 hm1
              have HX1 : Hid (DSX base p (N + (i + 1)) { d with G := crF (d.C.take (i + 1)) K d.G } w1 f g nf (ng + 1) DF D' _ cc) := Lib.hid (by rw [hC1, HG1.out, ← hl1]; exact hx1)
              have HF1 := Lib.hid (HFD.out.trans hfr1)
              clear hg1 hm1 hl1 hx1 hfr1 HAC HAP hC1
              go_wp2_with fail
              go_roundw
              case rel => exact ⟨i + 1, ng + 1, D', by omega, by go_num, HX1, HF1⟩
              case measure => simp [intOf]; omega
            | rn x y =>
              unfold chV at *
              go_wp2_with fail
              go_still_tail 13, (by kernel_rfl)
              change wpList _ _ _ _ _ wr.drew
              have HBD : Hid (Below wr.heap.size wr wr.drew) := Lib.hid (Below.refl _ _).drew
              have HXD := Lib.hid (HX.out.below HBD.out)
              have HFD := Lib.hid (HF.out.trans (FR.of_below HBD.out (by have := lt_of_block HX.out.1; have := HX.out.2.2.2.2.1.1; omega)))
              generalize wr.drew = wd at *
              have HAC := Lib.hid (HAP.out wd HXD.out.2.2.1)
              clear c0 c1 c2 c3 c4 c5
              go_wp2_with fail
              refine HAC.out.mono ?_
              rintro e w1 ⟨rfl, hg1, D', hm1, hl1⟩
              obtain ⟨hx1, hfr1⟩ := cr_map HXD.out hg1 hm1
              have HX1 : Hid (DSX base p (N + (i + 1)) { d with G := crF (d.C.take (i + 1)) K d.G } w1 f g nf (ng + 1) DF D' _ cc) := Lib.hid (by rw [hC1, HG1.out, ← hl1]; exact hx1)
              have HF1 := Lib.hid (HFD.out.trans hfr1)
              clear hg1 hm1 hl1 hx1 hfr1 HAC HAP hC1
              go_wp2_with fail
              go_roundw
              case rel => exact ⟨i + 1, ng + 1, D', by omega, by go_num, HX1, HF1⟩
              case measure => simp [intOf]; omega
            | rm n =>
              unfold chV at *
              go_wp2_with fail
              go_still_tail 13, (by kernel_rfl)
              change wpList _ _ _ _ _ wr.drew
              have HBD : Hid (Below wr.heap.size wr wr.drew) := Lib.hid (Below.refl _ _).drew
              have HXD := Lib.hid (HX.out.below HBD.out)
              have HFD := Lib.hid (HF.out.trans (FR.of_below HBD.out (by have := lt_of_block HX.out.1; have := HX.out.2.2.2.2.1.1; omega)))
              generalize wr.drew = wd at *
              have HAC := Lib.hid (HAP.out wd HXD.out.2.2.1)
              clear c0 c1 c2 c3 c4 c5
              go_wp2_with fail
              refine HAC.out.mono ?_
              rintro e w1 ⟨rfl, hg1, D', hm1, hl1⟩
              obtain ⟨hx1, hfr1⟩ := cr_map HXD.out hg1 hm1
              have HX1 : Hid (DSX base p (N + (i + 1)) { d with G := crF (d.C.take (i + 1)) K d.G } w1 f g nf (ng + 1) DF D' _ cc) := Lib.hid (by rw [hC1, HG1.out, ← hl1]; exact hx1)
              have HF1 := Lib.hid (HFD.out.trans hfr1)
              clear hg1 hm1 hl1 hx1 hfr1 HAC HAP hC1
              go_wp2_with fail
              go_roundw
              case rel => exact ⟨i + 1, ng + 1, D', by omega, by go_num, HX1, HF1⟩
              case measure => simp [intOf]; omega
      · have n1 : (K.length : Int) ≤ (i : Int) := by omega
        have hkv : K[i]? = none := List.getElem?_eq_none (by omega)
        rw [hkv] at HST
        have HX2 : Hid (DSX base p (N + (i + 1)) { d with G := crF (d.C.take (i + 1)) K d.G } wr f g nf ng DF DG _ cc) := Lib.hid (by rw [HST.out]; exact crx_mono HX.out)
        generalize d.C[i] = c at *
        clear hkv HST
        go_wp2_with fail
        go_roundw
        case rel => exact ⟨i + 1, ng, DG, by omega, by go_num, HX2, HF⟩
        case measure => simp [intOf]; omega
    · have m1 : ¬ (i : Int) < (d.C.length : Int) := by omega
      obtain rfl : i = d.C.length := by omega
      have HXE : Hid (DSX base p (N + d.C.length) { d with G := crF d.C K d.G } wr f g nf ng DF DG ca cc) := Lib.hid (by have := HX.out; rwa [List.take_length] at this)
      obtain ⟨c0, c1, c2, c3, c4, c5⟩ := drow_cells HXE.out.1
      have HCL := Lib.hid (clone_any HXE.out.2.2.1)
      clear HX
      go_wp2_with fail
      refine HCL.out.mono ?_
      rintro e w2 ⟨rfl, hm2, hm3, hb2⟩
      obtain ⟨q1, q2, q3, q4, q5⟩ := cr_end HXE.out hm2 hb2
      have HDS := Lib.hid q4
      have HFR := Lib.hid (HF.out.trans q5)
      obtain ⟨e0, e1, e2, e3, e4, e5⟩ := drow_cells q1
      obtain ⟨f0, f1, f2, f3, f4, f5⟩ := drow_cells q2
      obtain ⟨h0, h1, h2, h3, h4, h5⟩ := drow_cells q3
      have z1 := frozen_of_row _ p 1 _ _ q1
      have z3 := frozen_of_row _ p 3 _ _ q2
      have z4 := frozen_of_row _ p 4 _ _ q3
      clear hm2 hm3 hb2 q1 q2 q3 q4 q5 HCL c0 c1 c2 c3 c4 c5
      generalize wr.heap.size = GB at *
      go_wp2_with fail
      go_end0
      exact ⟨HFR.out, rfl, HDS.out⟩
end Go.Proofs.Ytmnmgoafemnppaa
