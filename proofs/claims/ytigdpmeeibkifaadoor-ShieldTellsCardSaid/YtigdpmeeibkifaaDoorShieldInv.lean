/- shield.inverse. -/
import Derived.Test.YtigdpmeeibkifaaDoorShieldTwo
import Derived.Test.YtigdpmeeibkifaaDoorStillAny
import Derived.Test.YtigdpmeeibkifaaDoorRowKit
import Derived.Test.YtigdpmeeibkifaaDoorOwnSet
import Derived.Deep.CutBlock
import Derived.Deep.CutRange
namespace Go.Proofs.YtigdpmeeibkifaaDoor
open Go.RowKit Plain
set_option linter.unusedVariables false
set_option linter.unusedSimpArgs false
/-- the first i rows of the unit matrix lie there -/
structure InitR (O n i : Nat) (idO : Nat → Nat) (w0 w : World) : Prop where
  outer : ∃ cs : Array Value, w.heap[O]? = some (.cells cs 34 (0, 0)) ∧ cs.size = n ∧ ∀ r, r < i → cs[r]? = some (rowV idO n r)
  rows : ∀ r, r < i → BRow w 5 (idO r) (mapr n (idM r))
  new : ∀ r, r < i → O < idO r
  inj : ∀ r s, r < i → s < i → idO r = idO s → r = s
  bel : Below w0.heap.size w0 w
theorem InitR.step {O n i : Nat} {idO : Nat → Nat} {w0 w : World} (h : InitR O n i idO w0 w) (hi : i < n) (hO : w0.heap.size ≤ O) :
    InitR O n (i + 1) (fun r => if r = i then w.heap.size else idO r) w0 ((w.setCell ⟨O, i, none⟩ (.slice (some ⟨w.heap.size, 0, none⟩) n n)).alloc (.cells ((Array.replicate n (bV 0)).setIfInBounds i (.int .u8 1)) 5)) := by
  obtain ⟨cs, h1, h2, h3⟩ := h.outer
  have hOlt := lt_of_block h1
  have hsz : (w.setCell ⟨O, i, none⟩ (.slice (some ⟨w.heap.size, 0, none⟩) n n)).heap.size = w.heap.size := by simp
  have k1 := heap_setCell_same w O i cs _ (.slice (some ⟨w.heap.size, 0, none⟩) n n) h1
  have hlt : ∀ r, r < i → idO r < w.heap.size := fun r hr => (h.rows r hr).lt
  refine ⟨⟨_, (Below.heap_alloc _ _ _ (by rw [hsz]; exact hOlt)).trans k1, by simp [h2], fun r hr => ?_⟩, fun r hr => ?_, fun r hr => ?_, fun r s hr hs e => ?_, (h.bel.setCell hO _).alloc (by rw [hsz]; exact Nat.le_trans hO (Nat.le_of_lt hOlt)) _⟩
  · unfold rowV
    by_cases e : r = i
    · subst e
      simp [h2, hi]
    · rw [Array.getElem?_setIfInBounds, if_neg (by omega), h3 r (by omega)]
      simp [e]
  · by_cases e : r = i
    · subst e
      simp only [if_true]
      have e1 : mapr n (idM r) = (List.replicate n 0).set r 1 := by
        rw [mapr_zero, mapr_set]
        refine mapr_congr fun k hk => ?_
        unfold idM
        by_cases q : r = k
        · rw [if_pos q, if_pos q.symm]
        · rw [if_neg q, if_neg (Ne.symm q)]
      have e2 : ((Array.replicate n (bV 0)).setIfInBounds r (.int .u8 1)) = (((List.replicate n 0).set r 1).map bV).toArray := by
        rw [List.map_set, List.map_replicate]
        apply Array.ext'
        simp [bV]
      have := BRow.new (w.setCell ⟨O, r, none⟩ (.slice (some ⟨w.heap.size, 0, none⟩) n n)) 5 ((List.replicate n 0).set r 1)
      rw [hsz] at this
      rw [e1, e2]
      exact this
    · simp only [if_neg e]
      have hb := h.rows r (by omega)
      have hl := hlt r (by omega)
      unfold BRow at hb ⊢
      exact (Below.heap_alloc _ _ _ (by rw [hsz]; exact hl)).trans ((heap_setCell_other w ⟨O, i, none⟩ (idO r) _ (by have := h.new r (by omega); simp only; omega)).trans hb)
  · by_cases e : r = i
    · simp only [if_pos e]; exact hOlt
    · simp only [if_neg e]; exact h.new r (by omega)
  · by_cases e1 : r = i <;> by_cases e2 : s = i
    · omega
    · simp only [if_pos e1, if_neg e2] at e
      have := hlt s (by omega)
      omega
    · simp only [if_neg e1, if_pos e2] at e
      have := hlt r (by omega)
      omega
    · simp only [if_neg e1, if_neg e2] at e
      exact h.inj r s (by omega) (by omega) e
theorem InitR.two {O n A oa B0 : Nat} {ids idO : Nat → Nat} {M0 : Mtx} {w0 w : World} (h : InitR O n n idO w0 w) (hM : Mat w0 A oa ids M0 n n) (hO : w0.heap.size = O) (hBA : B0 ≤ A) (hBi : ∀ r, r < n → B0 ≤ ids r) (hB0 : B0 ≤ w0.heap.size) :
    Two B0 A oa O n w0 ids idO M0 idM w := by
  obtain ⟨cs, h1, h2, h3⟩ := h.outer
  have hA := hM.ltA
  exact ⟨hM.below h.bel, ⟨⟨cs, h1, fun r hr => by rw [Nat.zero_add]; exact h3 r hr⟩, h.rows, h.inj⟩, by omega, fun r s hr hs e => by have := (hM.rows r hr).lt; have := h.new s hs; omega, hBA, by omega, hBi, fun r hr => by have := h.new r hr; omega, h.bel.mono hB0, Kpr.below h.bel⟩
theorem Mat.cell2 {w : World} {A oa n K : Nat} {ids : Nat → Nat} {M : Mtx} (h : Mat w A oa ids M n K) {c p : Nat} (hc : c < K) (hp : p < K) : (w.setCell ⟨A, oa + c, none⟩ (rowV ids n p)).cell? ⟨A, oa + p, none⟩ = some (rowV ids n p) := by
  obtain ⟨cs, h1, h2⟩ := h.outer
  rw [cell_of_row _ _ _ _ _ _ (heap_setCell_same w A (oa + c) cs _ (rowV ids n p) h1)]
  have l1 := (Array.getElem?_eq_some_iff.1 (h2 c hc)).1
  by_cases e : c = p
  · subst e
    simp [l1]
  · rw [Array.getElem?_setIfInBounds, if_neg (by omega)]
    exact h2 p hp
set_option maxRecDepth 100000 in
set_option maxHeartbeats 16000000 in
theorem inverse_any (B0 A oa n cap : Nat) (ids : Nat → Nat) (M0 : Mtx) (w : World) (hn1 : 1 ≤ n) (hn : n ≤ 16) (hM : Mat w A oa ids M0 n n) (hBA : B0 ≤ A) (hBi : ∀ r, r < n → B0 ≤ ids r) (hB0 : B0 ≤ w.heap.size) (hByt : BytM M0) (hNS : NS n M0) :
    Calls Tryd.prog 18 #[.slice (some ⟨A, oa, none⟩) n cap] w (IvEnd n M0 B0 w) := by
  have hmo := run_make_rows n hn
  have hmk := fun (wx : World) => run_make_bytes (P := Tryd.prog) wx 34 5 Tryd.underlying34 infoU8 (n : Int) (by omega) (by omega)
  simp only [Int.toNat_natCast] at hmk
  have HM := Lib.hid hM
  have HI0 : Hid (InitR w.heap.size n 0 (fun _ => 0) w (w.alloc (.cells (Array.replicate n (.slice none 0 0)) 34))) := Lib.hid ⟨⟨_, heap_alloc_new w _, by simp, fun r hr => by omega⟩, fun r hr => by omega, fun r hr => by omega, fun r s hr => by omega, (Below.refl _ w).alloc (Nat.le_refl _) _⟩
  clear hM
  have HNS := Lib.hid hNS
  have HBY := Lib.hid hByt
  have HBI := Lib.hid hBi
  clear hNS hByt hBi
  go_enter Tryd.func18, Tryd.ntmps18
  go_wp2_with fail
  go_loopw [20] (fun iv wr => ∃ (i : Nat) (idO : Nat → Nat), i ≤ n ∧ iv = .int .i64 (i : Int) ∧ InitR w.heap.size n i idO w wr) (fun iv _ => n - (intOf iv).toNat)
  case atStart => exact ⟨0, _, by omega, rfl, HI0.out⟩
  case round =>
    obtain ⟨i, idO, hi, rfl, hinit⟩ := hrel
    have HIN := Lib.hid hinit
    clear hinit
    by_cases hin : i < n
    · have m1 : (i : Int) < (n : Int) := by omega
      have m0 : (0 : Int) ≤ (i : Int) := by omega
      have hOlt : w.heap.size < wr.heap.size := by
        obtain ⟨cs, h1, _⟩ := HIN.out.outer
        exact lt_of_block h1
      have hfr : wr.frozen? ⟨w.heap.size, i, none⟩ = false := by
        obtain ⟨cs, h1, _⟩ := HIN.out.outer
        exact frozen_of_row _ _ _ _ _ h1
      obtain ⟨v0, hc0⟩ : ∃ v, wr.cell? ⟨w.heap.size, i, none⟩ = some v := by
        obtain ⟨cs, h1, h2, _⟩ := HIN.out.outer
        rw [cell_of_row _ _ _ _ _ _ h1]
        exact ⟨_, Array.getElem?_eq_getElem (by omega)⟩
      have hlt2 : w.heap.size < wr.heap.size + 1 := by omega
      have HST := Lib.hid (HIN.out.step hin (Nat.le_refl _))
      go_wp2_with fail
      go_roundw
      case rel => exact ⟨i + 1, _, by omega, by go_num, HST.out⟩
      case measure => simp [intOf]; omega
    · have m1 : ¬ (i : Int) < (n : Int) := by omega
      obtain rfl : i = n := by omega
      have HTW := Lib.hid (HIN.out.two HM.out rfl hBA HBI.out hB0)
      have HAL : Hid (Alg i M0 M0 idM) := Lib.hid ⟨tied_start i M0 HBY.out, HNS.out, HBY.out, fun r k => by unfold idM; split <;> decide, ns_id i⟩
      clear HIN HM hmo hmk
      obtain ⟨O, hO⟩ : ∃ O, w.heap.size = O := ⟨_, rfl⟩
      rw [hO] at HTW
      go_wp2_with fail
      clear hO
      go_loopw [36] (fun cv wr => ∃ (c : Nat) (ids idO : Nat → Nat) (M N : Mtx), c ≤ i ∧ cv = .int .i64 (c : Int) ∧ Two B0 A oa O i w ids idO M N wr ∧ Alg i M0 M N ∧ Cols c i M) (fun cv _ => i - (intOf cv).toNat)
      case atStart => exact ⟨0, _, _, _, _, by omega, rfl, HTW.out, HAL.out, fun r _ k hk => by omega⟩
      case round =>
        clear HTW HAL HI0 HNS HBI
        obtain ⟨c, id1, id2, M, N, hc, rfl, htw, hal, hco⟩ := hrel
        have HTW := Lib.hid htw
        have HAL := Lib.hid hal
        have HCO := Lib.hid hco
        clear htw hal hco
        by_cases hcn : c < i
        · have c1 : (c : Int) < (i : Int) := by omega
          have c0 : (0 : Int) ≤ (c : Int) := by omega
          go_upto_block 4 with fail
          go_cut [7, 36] from 36 to 190 (fun pv cv wx => ∃ p : Nat, c ≤ p ∧ p < i ∧ pv = .int .i64 (p : Int) ∧ cv = .int .i64 (c : Int) ∧ M p c ≠ 0 ∧ Two B0 A oa O i w id1 id2 M N wx)
          case first =>
            go_wp2_with fail
            go_loopw [7] (fun pv wr => ∃ p : Nat, c ≤ p ∧ p < i ∧ pv = .int .i64 (p : Int) ∧ (∀ q, c ≤ q → q < p → M q c = 0) ∧ Two B0 A oa O i w id1 id2 M N wr) (fun pv _ => i - (intOf pv).toNat)
            case atStart => exact ⟨c, Nat.le_refl _, hcn, rfl, fun q h1 h2 => by omega, HTW.out⟩
            case round =>
              obtain ⟨p, hcp, hpi, rfl, hzero, htw⟩ := hrel
              have HTP := Lib.hid htw
              have HZ := Lib.hid hzero
              clear htw hzero HTW
              have cellp := HTP.out.m.cell hpi
              have bytep := HTP.out.m.byte (k := c) hpi hcn
              have p0 : (0 : Int) ≤ (p : Int) := by omega
              have p1 : (p : Int) < (i : Int) := by omega
              by_cases hcont : M p c = 0 ∧ p + 1 < i
              · have HZ2 : Hid (∀ q, c ≤ q → q < p + 1 → M q c = 0) := Lib.hid fun q h1 h2 => by
                  by_cases e : q = p
                  · rw [e]; exact hcont.1
                  · exact HZ.out q h1 (by omega)
                rw [hcont.1] at bytep
                have p2 : (p : Int) < (i : Int) - 1 := by omega
                have hp3 := hcont.2
                clear hcont
                go_wp2_with fail
                go_roundw
                case rel => exact ⟨p + 1, by omega, hp3, by go_num, HZ2.out, HTP.out⟩
                case measure => simp [intOf]; omega
              · have HNE : Hid (M p c ≠ 0) := Lib.hid fun hz => by
                  obtain ⟨q, q1, q2, q3⟩ := pivot HAL.out.ns HAL.out.bm HCO.out hcn
                  rcases Nat.lt_or_ge q p with h | h
                  · exact q3 (HZ.out q q1 h)
                  · by_cases e : q = p
                    · rw [e] at q3; exact q3 hz
                    · exact hcont ⟨hz, by omega⟩
                clear HZ hcont
                obtain ⟨x, hx⟩ : ∃ x, M p c = x := ⟨_, rfl⟩
                rw [hx] at bytep
                have hx0 : x ≠ 0 := by rw [← hx]; exact HNE.out
                have z1 : ((x : Int) == 0) = false := by simp; omega
                have z2 : ¬ ((x : Int) = 0) := by omega
                clear hx hx0
                by_cases hg : (p : Int) < (i : Int) - 1
                · go_wp2_with fail
                  go_meet
                  exact ⟨p, hcp, hpi, rfl, rfl, HNE.out, HTP.out⟩
                · go_wp2_with fail
                  go_meet
                  exact ⟨p, hcp, hpi, rfl, rfl, HNE.out, HTP.out⟩
          case rest =>
            obtain ⟨p, hcp, hpi, rfl, rfl, hne, htw⟩ := hcut
            have HNE := Lib.hid hne
            have p0 : (0 : Int) ≤ (p : Int) := by omega
            have p1 : (p : Int) < (i : Int) := by omega
            have cellp := htw.m.cell hpi
            have cellc := htw.m.cell hcn
            have frc := htw.m.frozen c
            have frp := htw.m.frozen p
            have cell2 := htw.m.cell2 hcn hpi
            have HT1 := Lib.hid (htw.swapA hcn hpi).drew
            unfold rowV at cell2 HT1
            clear htw hne HTW
            go_wp2_with fail
            go_region
            generalize ((wc.setCell ⟨A, oa + c, none⟩ (.slice (some ⟨id1 p, 0, none⟩) i i)).setCell ⟨A, oa + p, none⟩ (.slice (some ⟨id1 c, 0, none⟩) i i)).drew = w1 at HT1 ⊢
            clear cellp cellc frc frp cell2
            have cellp := HT1.out.o.cell hpi
            have cellc := HT1.out.o.cell hcn
            have frc := HT1.out.o.frozen c
            have frp := HT1.out.o.frozen p
            have cell2 := HT1.out.o.cell2 hcn hpi
            have HT2 := Lib.hid (HT1.out.swapO hcn hpi).drew
            unfold rowV at cell2 HT2
            simp only [Nat.zero_add] at cellp cellc frc frp cell2
            go_wp2_with fail
            go_region
            generalize ((w1.setCell ⟨O, c, none⟩ (.slice (some ⟨id2 p, 0, none⟩) i i)).setCell ⟨O, p, none⟩ (.slice (some ⟨id2 c, 0, none⟩) i i)).drew = w2 at HT2 ⊢
            clear cellp cellc frc frp cell2 HT1
            have HA2 : Hid (Alg i M0 (swapM M c p) (swapM N c p)) := Lib.hid ⟨tied_swap HAL.out.tied hcn hpi, ns_swap HAL.out.ns hcn hpi, byt_swap HAL.out.bm c p, byt_swap HAL.out.bn c p, ns_swap HAL.out.nsn hcn hpi⟩
            have HC2 := Lib.hid (cols_swap HCO.out hcp hpi)
            have HP2 : Hid (swapM M c p c c ≠ 0) := Lib.hid (by unfold swapM; rw [if_pos rfl]; exact HNE.out)
            clear HAL HCO HNE
            generalize swapM M c p = M1 at *
            generalize swapM N c p = N1 at *
            generalize swapI id1 c p = ia at *
            generalize swapI id2 c p = ib at *
            obtain ⟨x, hx⟩ : ∃ x, M1 c c = x := ⟨_, rfl⟩
            have HX := Lib.hid hx
            have hxb := HA2.out.bm c c
            rw [hx] at hxb
            have HX0 : Hid (x ≠ 0) := Lib.hid (by rw [← hx]; exact HP2.out)
            have cellc := HT2.out.m.cell hcn
            have bytec := HT2.out.m.byte (k := c) hcn hcn
            rw [hx] at bytec
            have HIV := Lib.hid fun wx => inv_any x wx hxb
            clear hx HP2
            go_wp2_with fail
            refine (HIV.out _).mono ?_
            rintro e w' ⟨⟨cc, rfl⟩, rfl⟩
            have hfb := finv_lt x
            have HF0 : Hid (finv x ≠ 0) := Lib.hid fun h => by
              have := fmul_finv hxb HX0.out
              rw [h, fmul_zero_right] at this
              omega
            have HFX : Hid (finv x = finv (M1 c c)) := Lib.hid (by rw [HX.out])
            clear HIV cellc bytec
            obtain ⟨f, hf⟩ : ∃ f, finv x = f := ⟨_, rfl⟩
            rw [hf] at hfb HF0 HFX ⊢
            clear hf
            go_wp2_with fail
            go_loopw [96] (fun kv wr => ∃ k : Nat, k ≤ i ∧ kv = .int .i64 (k : Int) ∧ Two B0 A oa O i w ia ib (scaleP M1 c f k) (scaleP N1 c f k) wr) (fun kv _ => i - (intOf kv).toNat)
            case atStart => exact ⟨0, by omega, rfl, HT2.out.congr (fun r _ k _ => scaleP_zero M1 c f r k) (fun r _ k _ => scaleP_zero N1 c f r k)⟩
            case round =>
              clear HT2
              obtain ⟨k, hk, rfl, htw⟩ := hrel
              have HTK := Lib.hid htw
              clear htw
              by_cases hki : k < i
              · have k1 : (k : Int) < (i : Int) := by omega
                have k0 : (0 : Int) ≤ (k : Int) := by omega
                have HTD := Lib.hid HTK.out.drew
                have cA := HTD.out.m.cell hcn
                have cO := HTD.out.o.cell hcn
                have bA := HTD.out.m.byte (k := k) hcn hki
                have bO := HTD.out.o.byte (k := k) hcn hki
                rw [scaleP_get] at bA bO
                simp only [Nat.zero_add] at cO
                have fA := HTD.out.m.bfrozen hcn k
                have HT3 := Lib.hid ((HTD.out.setM hcn k (fmul f (M1 c k))).setO hcn k (fmul f (N1 c k)))
                have bO2 := (HTD.out.setM hcn k (fmul f (M1 c k))).o.byte (k := k) hcn hki
                have fO2 := (HTD.out.setM hcn k (fmul f (M1 c k))).o.bfrozen hcn k
                rw [scaleP_get] at bO2
                have HT4 : Hid (∀ u, Two B0 A oa O i w ia ib (upd (scaleP M1 c f k) c k (fmul f (M1 c k))) (upd (scaleP N1 c f k) c k (fmul f (N1 c k))) u → Two B0 A oa O i w ia ib (scaleP M1 c f (k + 1)) (scaleP N1 c f (k + 1)) u) := Lib.hid fun u hu => hu.congr (fun r _ k' _ => scaleP_step M1 c f k r k') (fun r _ k' _ => scaleP_step N1 c f k r k')
                have hmb := HA2.out.bm c k
                have hnb := HA2.out.bn c k
                obtain ⟨y, hy⟩ : ∃ y, M1 c k = y := ⟨_, rfl⟩
                obtain ⟨z, hz⟩ : ∃ z, N1 c k = z := ⟨_, rfl⟩
                rw [hy] at bA hmb HT3 HT4 bO2 fO2
                rw [hz] at bO hnb HT3 HT4 bO2
                have HM1 := Lib.hid fun wx => (mul_any f y wx (by omega) (by omega)).mono (R' := fun e w' => e = .returned (.int .u8 (fmul f y)) ∧ w' = wx) (by rintro e w' ⟨rfl, rfl⟩; exact ⟨rfl, rfl⟩)
                have HM2 := Lib.hid fun wx => (mul_any f z wx (by omega) (by omega)).mono (R' := fun e w' => e = .returned (.int .u8 (fmul f z)) ∧ w' = wx) (by rintro e w' ⟨rfl, rfl⟩; exact ⟨rfl, rfl⟩)
                clear hy hz
                go_wp2_with fail
                refine wp_region_any (by kernel_rfl) ?_
                have hw3 : ({ heap := wr.heap, tape := wr.tape, drawn := wr.drawn + 1, os := wr.os, output := wr.output } : World) = wr.drew := rfl
                rw [hw3]
                clear hw3
                generalize wr.drew = w3 at *
                refine wpAny_take (i := 9) (v := .int .i64 (k : Int)) rfl (by kernel_rfl) (by kernel_rfl) (by kernel_rfl) (fun _ _ _ h => h) (Or.inl ⟨by rfl, fun wz => by go_simp⟩) ?_
                refine wpAny_head [0, 1, 2, 3, 4, 5, 6, 7, 8, 10, 11, 12, 13, 14, 15, 16, 17, 18, 19, 20, 21, 22, 23, 24, 25, 26, 27] (fun L => L.take 9 ++ (L.take 28).drop 10) 4 (fun _ => True) rfl (by kernel_rfl) (by kernel_rfl) (by kernel_rfl) (by kernel_rfl) (by kernel_rfl) rfl ?_
                simp only [List.take_succ_cons, List.take_zero, List.drop_succ_cons, List.drop_zero, List.cons_append, List.nil_append]
                repeat still_step
                still_call (HM1.out w3)
                repeat still_step
                still_call (HM2.out w3)
                repeat still_step
                refine wpStill_nil ?_
                refine take_val 28 (.pointer (some ⟨ia c, k, none⟩)) rfl (by kernel_rfl) (by kernel_rfl) (by kernel_rfl) (fun _ _ _ _ h => h) (by rfl) rfl (fun wz hS => by go_simp) trivial ?_
                try simp only [List.set_cons_zero, List.set_cons_succ]
                refine one_ready 29 (by kernel_rfl) rfl (by rfl) (fun K hK => ?_)
                refine wp_store_1 5 _ _ rfl (ia c) k (.int .u8 ((fmul f y : Nat) : Int)) rfl rfl rfl (by rw [bA]; rfl) fA (by kernel_rfl) rfl ?_
                refine hK.out _ _ trivial ?_
                simp only [Act.put]
                clear hK K
                refine take_val 30 (.pointer (some ⟨ib c, k, none⟩)) rfl (by kernel_rfl) (by kernel_rfl) (by kernel_rfl) (fun _ _ _ _ h => h) (by rfl) rfl (fun wz hS => by go_simp) trivial ?_
                try simp only [List.set_cons_zero, List.set_cons_succ]
                refine one_ready 31 (by kernel_rfl) rfl (by rfl) (fun K hK => ?_)
                refine wp_store_1 5 _ _ rfl (ib c) k (.int .u8 ((fmul f z : Nat) : Int)) rfl rfl rfl (by rw [bO2]; rfl) fO2 (by kernel_rfl) rfl ?_
                refine hK.out _ _ trivial ?_
                simp only [Act.put]
                clear hK K
                refine wpAnyH_done (by kernel_rfl) ?_ _
                simp only [Exit.inBlock, Exit.then]
                rename_i HKK
                refine HKK _ _ ?_
                clear HKK
                go_wp2_with fail
                go_roundw
                case rel => exact ⟨k + 1, by omega, by go_num, HT4.out _ HT3.out⟩
                case measure => simp [intOf]; omega
              · have k1 : ¬ (k : Int) < (i : Int) := by omega
                have hke : k = i := by omega
                have HT5 : Hid (Two B0 A oa O i w ia ib (scaleM M1 c f) (scaleM N1 c f) wr) := Lib.hid (by
                  have h := HTK.out
                  rw [hke] at h
                  exact h.congr (fun r _ k' hk' => scaleP_end M1 c f i r k' hk') (fun r _ k' hk' => scaleP_end N1 c f i r k' hk'))
                have HA5 : Hid (Alg i M0 (scaleM M1 c f) (scaleM N1 c f)) := Lib.hid ⟨tied_scale HA2.out.tied HBY.out HA2.out.bm HA2.out.bn hfb, ns_scale HA2.out.ns HA2.out.bm hfb HF0.out, byt_scale HA2.out.bm hfb, byt_scale HA2.out.bn hfb, ns_scale HA2.out.nsn HA2.out.bn hfb HF0.out⟩
                have HP5 : Hid (Part c 0 i (scaleM M1 c f)) := Lib.hid (by
                  rw [HFX.out]
                  exact part_start HC2.out HA2.out.bm hcn (by rw [HX.out]; exact HX0.out))
                clear HTK HA2 HC2 HF0 HFX HX HX0 hfb hxb
                generalize scaleM M1 c f = M2 at *
                generalize scaleM N1 c f = N2 at *
                go_wp2_with fail
                go_loopw [131] (fun rv wr => ∃ (r : Nat) (M3 N3 : Mtx), r ≤ i ∧ rv = .int .i64 (r : Int) ∧ Two B0 A oa O i w ia ib M3 N3 wr ∧ Alg i M0 M3 N3 ∧ Part c r i M3) (fun rv _ => i - (intOf rv).toNat)
                case atStart => exact ⟨0, M2, N2, by omega, rfl, HT5.out, HA5.out, HP5.out⟩
                case round =>
                  clear HT5 HA5 HP5
                  obtain ⟨r, M3, N3, hr, rfl, htw, hal, hpt⟩ := hrel
                  have HT3 := Lib.hid htw
                  have HA3 := Lib.hid hal
                  have HP3 := Lib.hid hpt
                  clear htw hal hpt
                  by_cases hri : r < i
                  · have r1 : (r : Int) < (i : Int) := by omega
                    have r0 : (0 : Int) ≤ (r : Int) := by omega
                    have cR := HT3.out.m.cell hri
                    have bR := HT3.out.m.byte (k := c) hri hcn
                    have hfb := HA3.out.bm r c
                    obtain ⟨f, hf⟩ : ∃ f, M3 r c = f := ⟨_, rfl⟩
                    have HFE := Lib.hid hf
                    rw [hf] at bR hfb
                    clear hf
                    by_cases hskip : r = c ∨ f = 0
                    · have HSK := Lib.hid (part_skip HP3.out (hskip.imp id fun h => by rw [HFE.out]; exact h))
                      by_cases hrc : r = c
                      · have z1 : ((r : Int) != (c : Int)) = false := by simp; omega
                        clear hskip hrc
                        go_wp2_with fail
                        go_roundw
                        case rel => exact ⟨r + 1, M3, N3, by omega, by go_num, HT3.out, HA3.out, HSK.out⟩
                        case measure => simp [intOf]; omega
                      · have z1 : ((r : Int) != (c : Int)) = true := by simp; omega
                        have z3 : f = 0 := by rcases hskip with h | h; exact absurd h hrc; exact h
                        rw [z3] at bR
                        clear hskip
                        go_wp2_with fail
                        go_roundw
                        case rel => exact ⟨r + 1, M3, N3, by omega, by go_num, HT3.out, HA3.out, HSK.out⟩
                        case measure => simp [intOf]; omega
                    · have hrc : r ≠ c := fun h => hskip (.inl h)
                      have hf0 : f ≠ 0 := fun h => hskip (.inr h)
                      have z1 : ((r : Int) != (c : Int)) = true := by simp; omega
                      have z2 : ((f : Int) != 0) = true := by simp; omega
                      clear hskip
                      go_wp2_with fail
                      clear cR bR z1 z2 hf0
                      go_loopw [149] (fun kv wr => ∃ k : Nat, k ≤ i ∧ kv = .int .i64 (k : Int) ∧ Two B0 A oa O i w ia ib (elimP M3 r f (M3 c) k) (elimP N3 r f (N3 c) k) wr) (fun kv _ => i - (intOf kv).toNat)
                      case atStart => exact ⟨0, by omega, rfl, HT3.out.congr (fun r' _ k _ => elimP_zero M3 r f (M3 c) r' k) (fun r' _ k _ => elimP_zero N3 r f (N3 c) r' k)⟩
                      case round =>
                        clear HT3
                        obtain ⟨k, hk, rfl, htw⟩ := hrel
                        have HTQ := Lib.hid htw
                        clear htw
                        by_cases hki : k < i
                        · have k1 : (k : Int) < (i : Int) := by omega
                          have k0 : (0 : Int) ≤ (k : Int) := by omega
                          have HTD := Lib.hid HTQ.out.drew
                          have cR := HTD.out.m.cell hri
                          have cC := HTD.out.m.cell hcn
                          have bR := HTD.out.m.byte (k := k) hri hki
                          have bC := HTD.out.m.byte (k := k) hcn hki
                          rw [elimP_get] at bR
                          rw [elimP_row _ _ _ _ _ _ _ (Ne.symm hrc)] at bC
                          try simp only [Nat.zero_add] at cR cC
                          have fR := HTD.out.m.bfrozen hri k
                          have hrb := HA3.out.bm r k
                          have hcb := HA3.out.bm c k
                          have HSET := Lib.hid (HTD.out.setM hri k (M3 r k ^^^ fmul f (M3 c k)))
                          obtain ⟨o, ho⟩ : ∃ o, M3 r k = o := ⟨_, rfl⟩
                          obtain ⟨y, hy⟩ : ∃ y, M3 c k = y := ⟨_, rfl⟩
                          have HOE := Lib.hid ho
                          have HYE := Lib.hid hy
                          rw [ho] at bR hrb HSET
                          rw [hy] at bC hcb HSET
                          have HML := Lib.hid fun wx => (mul_any f y wx (by omega) (by omega)).mono (R' := fun e w' => e = .returned (.int .u8 (fmul f y)) ∧ w' = wx) (by rintro e w' ⟨rfl, rfl⟩; exact ⟨rfl, rfl⟩)
                          have HXO := Lib.hid (u8_xor_nat o (fmul f y) hrb (fmul_lt f y hfb))
                          clear ho hy
                          go_wp2_with fail
                          refine wp_region_still_tail 18 (by kernel_rfl) (by kernel_rfl) ?_
                          have hw3 : ({ heap := wr.heap, tape := wr.tape, drawn := wr.drawn + 1, os := wr.os, output := wr.output } : World) = wr.drew := rfl
                          rw [hw3]
                          clear hw3 HTQ
                          generalize wr.drew = w3 at *
                          simp only [List.take_succ_cons, List.take_zero, List.drop_succ_cons, List.drop_zero]
                          repeat still_step
                          still_call (HML.out w3)
                          have hxo := HXO.out
                          repeat still_step
                          refine wpStill_nil ?_
                          go_wp2_with fail
                          have HTQ := Lib.hid HSET.out
                          generalize w3.setCell ⟨ia r, k, none⟩ (.int .u8 ((o ^^^ fmul f y : Nat) : Int)) = w4 at HTQ ⊢
                          have HE1 : Hid (o ^^^ fmul f y = M3 r k ^^^ fmul f (M3 c k)) := Lib.hid (by rw [HOE.out, HYE.out])
                          rw [HE1.out] at HTQ
                          clear HSET HTD cR cC bR bC fR hrb hcb HOE HYE HML HXO hxo HE1
                          have HTD := Lib.hid HTQ.out.drew
                          have cR := HTD.out.o.cell hri
                          have cC := HTD.out.o.cell hcn
                          have bR := HTD.out.o.byte (k := k) hri hki
                          have bC := HTD.out.o.byte (k := k) hcn hki
                          rw [elimP_get] at bR
                          rw [elimP_row _ _ _ _ _ _ _ (Ne.symm hrc)] at bC
                          try simp only [Nat.zero_add] at cR cC
                          have fR := HTD.out.o.bfrozen hri k
                          have hrb := HA3.out.bn r k
                          have hcb := HA3.out.bn c k
                          have HSET := Lib.hid (HTD.out.setO hri k (N3 r k ^^^ fmul f (N3 c k)))
                          obtain ⟨o, ho⟩ : ∃ o, N3 r k = o := ⟨_, rfl⟩
                          obtain ⟨y, hy⟩ : ∃ y, N3 c k = y := ⟨_, rfl⟩
                          have HOE := Lib.hid ho
                          have HYE := Lib.hid hy
                          rw [ho] at bR hrb HSET
                          rw [hy] at bC hcb HSET
                          have HML := Lib.hid fun wx => (mul_any f y wx (by omega) (by omega)).mono (R' := fun e w' => e = .returned (.int .u8 (fmul f y)) ∧ w' = wx) (by rintro e w' ⟨rfl, rfl⟩; exact ⟨rfl, rfl⟩)
                          have HXO := Lib.hid (u8_xor_nat o (fmul f y) hrb (fmul_lt f y hfb))
                          clear ho hy
                          go_wp2_with fail
                          refine wp_region_still_tail 18 (by kernel_rfl) (by kernel_rfl) ?_
                          have hw3 : ({ heap := w4.heap, tape := w4.tape, drawn := w4.drawn + 1, os := w4.os, output := w4.output } : World) = w4.drew := rfl
                          rw [hw3]
                          clear hw3 HTQ
                          generalize w4.drew = w5 at *
                          simp only [List.take_succ_cons, List.take_zero, List.drop_succ_cons, List.drop_zero]
                          repeat still_step
                          still_call (HML.out w5)
                          have hxo := HXO.out
                          repeat still_step
                          refine wpStill_nil ?_
                          go_wp2_with fail
                          have HTZ := Lib.hid HSET.out
                          generalize w5.setCell ⟨ib r, k, none⟩ (.int .u8 ((o ^^^ fmul f y : Nat) : Int)) = w6 at HTZ ⊢
                          have HE1 : Hid (o ^^^ fmul f y = N3 r k ^^^ fmul f (N3 c k)) := Lib.hid (by rw [HOE.out, HYE.out])
                          rw [HE1.out] at HTZ
                          go_roundw
                          case rel => exact ⟨k + 1, by omega, by go_num, HTZ.out.congr (fun r' _ k' _ => elimP_step M3 r f k (M3 c) r' k') (fun r' _ k' _ => elimP_step N3 r f k (N3 c) r' k')⟩
                          case measure => simp [intOf]; omega
                        · have k1 : ¬ (k : Int) < (i : Int) := by omega
                          have hke : k = i := by omega
                          have HT7 : Hid (Two B0 A oa O i w ia ib (elimM M3 r f (M3 c)) (elimM N3 r f (N3 c)) wr) := Lib.hid (by
                            have h := HTQ.out
                            rw [hke] at h
                            exact h.congr (fun r' _ k' hk' => elimP_end M3 r f i (M3 c) r' k' hk') (fun r' _ k' hk' => elimP_end N3 r f i (N3 c) r' k' hk'))
                          have HA7 : Hid (Alg i M0 (elimM M3 r f (M3 c)) (elimM N3 r f (N3 c))) := Lib.hid ⟨tied_elim HA3.out.tied HBY.out HA3.out.bm HA3.out.bn hcn hfb, ns_elim HA3.out.ns HA3.out.bm hcn hrc hfb, byt_elim HA3.out.bm hfb, byt_elim HA3.out.bn hfb, ns_elim HA3.out.nsn HA3.out.bn hcn hrc hfb⟩
                          have HP7 : Hid (Part c (r + 1) i (elimM M3 r f (M3 c))) := Lib.hid (by
                            have h := part_elim HP3.out hri hcn hrc
                            rwa [HFE.out] at h)
                          go_wp2_with fail
                          go_roundw
                          case rel => exact ⟨r + 1, _, _, by omega, by go_num, HT7.out, HA7.out, HP7.out⟩
                          case measure => simp [intOf]; omega
                  · have r1 : ¬ (r : Int) < (i : Int) := by omega
                    have hre : r = i := by omega
                    have HCN : Hid (Cols (c + 1) i M3) := Lib.hid (by
                      have h := HP3.out
                      rw [hre] at h
                      exact part_end h)
                    go_wp2_with fail
                    go_roundw
                    case rel => exact ⟨c + 1, ia, ib, M3, N3, by omega, by go_num, HT3.out, HA3.out, HCN.out⟩
                    case measure => simp [intOf]; omega
        · have c1 : ¬ (c : Int) < (i : Int) := by omega
          obtain rfl : c = i := by omega
          go_wp2_with fail
          go_ret
          exact ⟨HTW.out.bel, HTW.out.kp, O, id2, N, rfl, HTW.out.o, HAL.out.bn, HAL.out.nsn, fun x hx r hr => tied_end HAL.out.tied HCO.out x hx r hr⟩
end Go.Proofs.YtigdpmeeibkifaaDoor
