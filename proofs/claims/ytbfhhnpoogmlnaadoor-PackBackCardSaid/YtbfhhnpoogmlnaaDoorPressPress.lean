/- Press: compressing. -/
import Derived.Test.YtbfhhnpoogmlnaaDoorPressPut
import Derived.Test.YtbfhhnpoogmlnaaDoorPressGood
import Derived.Test.YtbfhhnpoogmlnaaDoorBase4
import Derived.Lib.AppendStr
import Derived.Laws.AppendOwnNone
import Derived.StillTailTactics
namespace Go.Proofs.YtbfhhnpoogmlnaaDoor
open Go.RowKit Plain Go.ChangeMaps
set_option linter.unusedVariables false
set_option linter.unusedSimpArgs false
namespace Plain
theorem countP_one {p q : Nat → Bool} {x : Nat} : ∀ n, x < n → (∀ y, y ≠ x → p y = q y) → p x = false → q x = true → (List.range n).countP q = (List.range n).countP p + 1
  | 0, h, _, _, _ => absurd h (Nat.not_lt_zero _)
  | n + 1, h, h1, h2, h3 => by
    rw [List.range_succ, List.countP_append, List.countP_append, List.countP_singleton, List.countP_singleton]
    by_cases hx : x = n
    · subst hx
      have : (List.range x).countP q = (List.range x).countP p := List.countP_congr (fun y hy => by rw [h1 y (by have := List.mem_range.1 hy; omega)])
      rw [this, h2, h3]
      rfl
    · rw [countP_one n (by omega) h1 h2 h3, h1 n (fun e => hx e.symm)]
      omega
def cntF (F : List Nat) : Nat := (List.range 256).countP fun x => decide (0 < at0 F x)
theorem cntF_le (F : List Nat) : cntF F ≤ 256 := by
  unfold cntF
  have := List.countP_le_length (p := fun x => decide (0 < at0 F x)) (l := List.range 256)
  rwa [List.length_range] at this
/-- how often each byte was seen -/
def FInv (T : List Nat) (i : Nat) (F : List Nat) : Prop := F.length = 256 ∧ (∀ x, at0 F x ≤ i) ∧ ∀ x, 0 < at0 F x ↔ x ∈ T.take i
theorem FInv.start (T : List Nat) : FInv T 0 (List.replicate 256 0) := ⟨List.length_replicate, fun x => by rw [at0_rep]; exact Nat.zero_le _, fun x => by rw [at0_rep]; simp⟩
theorem FInv.step {T F : List Nat} {i : Nat} (h : FInv T i F) (hi : i < T.length) (hx : T.getD i 0 < 256) : FInv T (i + 1) (F.set (T.getD i 0) (at0 F (T.getD i 0) + 1)) ∧
    cntF (F.set (T.getD i 0) (at0 F (T.getD i 0) + 1)) = (if at0 F (T.getD i 0) = 0 then cntF F + 1 else cntF F) := by
  obtain ⟨h1, h2, h3⟩ := h
  have hg : T.getD i 0 = T[i] := by rw [List.getD_eq_getElem?_getD, List.getElem?_eq_getElem hi]; rfl
  have ht : T.take (i + 1) = T.take i ++ [T.getD i 0] := by rw [List.take_succ_eq_append_getElem hi, hg]
  generalize T.getD i 0 = x at *
  have hs := set_at (o := F) (s := x) (v := at0 F x + 1) (by omega)
  refine ⟨⟨by rw [List.length_set]; exact h1, fun y => ?_, fun y => ?_⟩, ?_⟩
  · rw [hs]
    have := h2 y
    have := h2 x
    split <;> omega
  · rw [hs, ht, List.mem_append, List.mem_singleton]
    by_cases e : y = x
    · rw [if_pos e]
      exact ⟨fun _ => .inr e, fun _ => Nat.succ_pos _⟩
    · rw [if_neg e, h3 y]
      exact ⟨.inl, fun h => h.resolve_right e⟩
  · by_cases h0 : at0 F x = 0
    · rw [if_pos h0]
      unfold cntF
      exact countP_one 256 hx (fun y hy => by rw [hs, if_neg hy]) (by rw [h0]; rfl) (by rw [hs, if_pos rfl]; simp)
    · rw [if_neg h0]
      unfold cntF
      refine List.countP_congr (fun y _ => ?_)
      rw [hs]
      by_cases e : y = x
      · subst e; rw [if_pos rfl]; simp; omega
      · rw [if_neg e]
theorem prn_cnt {F o : List Nat} (h : FinH F o) : prn (intF o) 0 256 = cntF F := by
  unfold prn cntF
  rw [← List.range_eq_range']
  refine List.countP_congr (fun y _ => ?_)
  rw [intF_getD]
  have := h.pos y
  simp only [decide_eq_true_eq]
  omega
end Plain
theorem nC_il (o : List Nat) : nC o = ilC (intF o) := by simp [nC, ilC, intF, vN]
theorem sat_nc {w : World} {g : Nat} {o : List Nat} {T : TypeId} {fr : Nat × Nat} (h : w.heap[g]? = some (.cells (nC o) T fr)) : SAt 1 iC w (some ⟨g, 0, none⟩) (intF o) := sat_il (by rw [← nC_il]; exact h)
theorem natF_int (F : List Nat) : natF (intF F) = F := by
  unfold natF intF
  rw [List.map_map]
  exact (List.map_congr_left (fun x _ => rfl)).trans (List.map_id F)
theorem strCells_bVP (s : ByteArray) : Lib.strCells s = (strN s).map bV := by
  simp [Lib.strCells, strN, bV]
theorem strN_addP (a b : ByteArray) : strN (a ++ b) = strN a ++ strN b := by
  simp [strN, ByteArray.toList_data_append]
theorem flat_code_len {c : List Nat} {l : List Int} (h : ∀ y, (l.getD y 0).toNat ≤ 48) : ∀ t : List Nat, (t.flatMap fun x => bitsL (c.getD x 0) (l.getD x 0).toNat).length ≤ 48 * t.length
  | [] => Nat.le_refl _
  | x :: t => by
    have := flat_code_len (c := c) h t
    have := h x
    rw [List.flatMap_cons, List.length_append, bitsL_length, List.length_cons]
    omega
/-- what Press answers -/
def PrEnd (w0 : World) (s : ByteArray) (e : Ending) (w : World) : Prop := Below w0.heap.size w0 w ∧ ((4096 < s.size ∧ e = .returned (.tuple #[.string ⟨#[]⟩, .int .i64 2])) ∨
  (s.size ≤ 4096 ∧ ∃ t, e = .returned (.tuple #[.string t, .int .i64 0]) ∧ 1 ≤ t.size ∧ t.size ≤ 1 + s.size ∧ (strN t = 0 :: strN s ∨ ∃ r, strN t = 1 :: r ∧ PGood r (strN s))))
set_option maxRecDepth 100000 in
set_option maxHeartbeats 8000000 in
theorem press_any (s : ByteArray) (w : World) :
    Calls Tryd.prog 25 #[.string s] w (PrEnd w s) := by
  by_cases hbig : 4096 < s.size
  · have HG := Lib.hid fun wx => greedy_large s wx hbig
    have HBIG := Lib.hid hbig
    clear hbig
    go_enter Tryd.func25, Tryd.ntmps25
    go_wp2_with fail
    refine (HG.out _).mono ?_
    rintro e w1 ⟨rfl, hb1⟩
    go_wp2_with fail
    go_ret2
    exact ⟨hb1, .inl ⟨HBIG.out, rfl⟩⟩
  · have hsm : s.size ≤ 4096 := by omega
    have HG := Lib.hid fun wx => greedy_any s wx hsm
    have HSM := Lib.hid hsm
    have hsl : (strN s).length ≤ 4096 := by rw [strN_length]; exact hsm
    have HSL := Lib.hid hsl
    obtain ⟨i0, hi0, hz0, hz1, hz2⟩ := info_parts info_u8
    clear hbig hsm hsl
    go_enter Tryd.func25, Tryd.ntmps25
    go_wp2_with fail
    refine (HG.out _).mono ?_
    rintro e w1 ⟨oa, tk, oc, rfl, hown1, hgr, hb1⟩
    have hsat := sat_own1 tC_length hown1
    have hle := hgr.le
    have hlit := hgr.lit (strN_lt s)
    have HPK : Hid (∀ wx, SAt 3 tC wx oa tk → Calls Tryd.prog 61 #[.slice oa tk.length oc] wx fun e w' => e = .returned (.tuple #[.string (strOf (pk tk)), .int .i64 0]) ∧ Below wx.heap.size wx w') := fun wx hx => by
      have := pack_any oa oc tk wx hx (by have := HSL.out; omega) hlit
      rw [lchk_gr hgr HSL.out, if_pos rfl] at this
      exact this
    have HB1 := Lib.hid hb1
    have HSAT := Lib.hid hsat
    have HGR := Lib.hid hgr
    have htl : (pk tk).length ≤ 12288 := by have h1 := pk_length tk; have h2 := HSL.out; omega
    have htb := pk_lt tk hlit
    have hts : strN (strOf (pk tk)) = pk tk := strN_strOf _ htb
    have htz : (strOf (pk tk)).size = (pk tk).length := strOf_size _
    obtain ⟨T, hT⟩ : ∃ T, pk tk = T := ⟨_, rfl⟩
    obtain ⟨ts, hss⟩ : ∃ ts, strOf (pk tk) = ts := ⟨_, rfl⟩
    rw [hss] at HPK hts htz
    rw [hT] at htl htb hts htz
    have HT := Lib.hid hT
    have HTL := Lib.hid htl
    have HTB := Lib.hid htb
    have HTS := Lib.hid hts
    have HTZ := Lib.hid htz
    clear hss hT htl htb hts htz hb1 hsat hgr hown1 hle hlit
    go_wp2_with fail
    refine (HPK.out _ HSAT.out).mono ?_
    rintro e w2 ⟨rfl, hb2⟩
    have hmk : ∀ u : World, (Instr.makeSlice 116 (.int .i64 256) (.int .i64 256)).run Tryd.prog u = .ok (.slice (some ⟨u.heap.size, 0, none⟩) 256 256) (u.alloc (.cells (nC (List.replicate 256 0)) 3)) := fun u => run_make_ints 256 (by decide) u
    have hb2' := HB1.out.trans (hb2.mono HB1.out.size)
    have HB2 := Lib.hid (hb2'.alloc hb2'.size (.cells (nC (List.replicate 256 0)) 3))
    have HF0 := Lib.hid (heap_alloc_new w2 (.cells (nC (List.replicate 256 0)) 3))
    have hgf : w.heap.size ≤ w2.heap.size := hb2'.size
    have HFI := Lib.hid (FInv.start T)
    have HCN : Hid (cntF (List.replicate 256 0) = 0) := by
      show _ = _
      unfold cntF
      rw [List.countP_eq_zero]
      intro x _
      rw [at0_rep]
      decide
    generalize hz : List.replicate 256 0 = Z at hmk HB2 HF0 HFI HCN
    clear hb2 hb2' HSAT HPK HB1 HG hz
    go_wp2_with fail
    clear hmk
    generalize w2.alloc (.cells (nC Z) 3) = wa at *
    obtain ⟨gf, hgfe⟩ : ∃ gf, w2.heap.size = gf := ⟨_, rfl⟩
    rw [hgfe] at HF0 hgf ⊢
    have HGF := Lib.hid hgf
    clear hgfe hgf
    go_loopw [9, 38] (fun dv iv wr => ∃ (i : Nat) (F : List Nat), dv = .int .i64 (cntF F : Int) ∧ iv = .int .i64 (i : Int) ∧ i ≤ ts.size ∧ FInv T i F ∧ wr.heap[gf]? = some (.cells (nC F) 3 (0, 0)) ∧ Below w.heap.size w wr) (fun _ iv _ => ts.size - (intOf iv).toNat)
    case atStart => exact ⟨0, Z, by rw [HCN.out]; rfl, rfl, Nat.zero_le _, HFI.out, HF0.out, HB2.out⟩
    case round =>
      obtain ⟨i, F, rfl, rfl, hi, hf, hrow, hbr⟩ := hrel
      have HFV := Lib.hid hf
      have HROW := Lib.hid hrow
      have HBR := Lib.hid hbr
      have hcl := cntF_le F
      clear hf hbr
      by_cases hlt : i < ts.size
      · have m1 : (i : Int) < (ts.size : Int) := by omega
        have hxb := byte_at' ts i hlt
        rw [HTS.out] at hxb
        have hx := UInt8.toNat_lt (ts[i]'hlt)
        obtain ⟨x, hxe⟩ : ∃ x, (ts[i]'hlt).toNat = x := ⟨_, rfl⟩
        rw [hxe] at hxb hx
        have hx : x < 256 := hx
        have hst := HFV.out.step (by rw [← HTZ.out]; exact hlt) (by rw [← hxb]; exact hx)
        rw [← hxb] at hst
        have HST := Lib.hid hst
        have hxF : x < F.length := by rw [HFV.out.1]; exact hx
        have hfx := HFV.out.2.1 x
        have c1 : wr.cell? ⟨gf, x, none⟩ = some (.int .i64 ((at0 F x : Nat) : Int)) := by rw [cell_of_row _ _ _ _ _ _ hrow, nC_get F x hxF]; rfl
        have f1 := frozen_of_row _ gf x _ _ hrow
        have HROW2 : Hid ((wr.setCell ⟨gf, x, none⟩ (.int .i64 (((at0 F x + 1 : Nat)) : Int))).heap[gf]? = some (.cells (nC (F.set x (at0 F x + 1))) 3 (0, 0))) := by
          show _ = _
          rw [← nC_set]
          exact heap_setCell_same wr gf x (nC F) _ _ hrow
        have HBN : Hid (Below w.heap.size w (wr.setCell ⟨gf, x, none⟩ (.int .i64 (((at0 F x + 1 : Nat)) : Int)))) := HBR.out.setCell HGF.out _
        have z256 : (x : Int) < 256 := by omega
        have z00 : (0 : Int) ≤ (x : Int) := Int.natCast_nonneg _
        have hil : (i : Int) < 12289 := by have h1 := HTL.out; have h2 := HTZ.out; omega
        obtain ⟨fx, hfe⟩ : ∃ fx, at0 F x = fx := ⟨_, rfl⟩
        rw [hfe] at c1 hfx HROW2 HBN HST
        have zfx : (fx : Int) < 12290 := by omega
        have zf0 : (0 : Int) ≤ (fx : Int) := Int.natCast_nonneg _
        have hwd : IntKind.i64.wrap ((cntF F : Int) + 1) = (cntF F : Int) + 1 := by rw [IntKind.wrap_i64]; omega
        have hwf : IntKind.i64.wrap ((fx : Int) + 1) = (fx : Int) + 1 := by rw [IntKind.wrap_i64]; omega
        rw [show (((fx + 1 : Nat)) : Int) = (fx : Int) + 1 from rfl] at HROW2 HBN
        generalize hcf : cntF F = cf at *
        clear hrow hxb hst hxF hfx hcl hfe
        by_cases hz : fx = 0
        · subst hz
          rw [if_pos rfl] at HST
          have z1 : (((0 : Nat) : Int) == 0) = true := rfl
          go_wp2_with fail
          go_roundw
          case rel => exact ⟨i + 1, _, by rw [HST.out.2]; rfl, by go_num, by omega, HST.out.1, HROW2.out, HBN.out⟩
          case measure => simp [intOf]; omega
        · rw [if_neg hz] at HST
          have z1 : ((fx : Int) == 0) = false := beq_eq_false_iff_ne.2 (by omega)
          go_wp2_with fail
          go_roundw
          case rel => exact ⟨i + 1, _, by rw [HST.out.2], by go_num, by omega, HST.out.1, HROW2.out, HBN.out⟩
          case measure => simp [intOf]; omega
      · have m1 : ¬ (i : Int) < (ts.size : Int) := by omega
        obtain rfl : i = ts.size := by omega
        clear hlt hi HF0 HB2 HFI HCN hrow m1 hcl
        have HTI : Hid (∀ x ∈ T, 0 < at0 F x) := by
          show ∀ x ∈ T, _
          intro x hx
          refine (HFV.out.2.2 x).2 ?_
          rw [HTZ.out, List.take_of_length_le (Nat.le_refl _)]
          exact hx
        have hFl : (intF F).length = 256 := by rw [intF_len]; exact HFV.out.1
        have HLG : Hid (∀ wx, SAt 1 iC wx (some ⟨gf, 0, none⟩) (intF F) → Calls Tryd.prog 62 #[.slice (some ⟨gf, 0, none⟩) 256 256] wx (LgEnd wx (intF F))) := fun wx hx => by
          have := lengths_any (some ⟨gf, 0, none⟩) 256 (intF F) wx hx (by omega)
          rw [hFl] at this
          exact this
        have HFL := Lib.hid hFl
        have hm2 : (¬ (ts.size : Int) < (ts.size : Int)) := by omega
        clear hFl
        go_wp2_with fail
        refine (HLG.out _ (sat_nc HROW.out)).mono ?_
        rintro e w3 ⟨hb3, hcase⟩
        have HB3 := Lib.hid (HBR.out.trans (hb3.mono HBR.out.size))
        rcases hcase with ⟨hbad, _⟩ | ⟨_, go, o, rfl, hgo, horow, hfin⟩
        · exfalso
          rcases hbad with h | h | h
          · have := HFL.out; omega
          · have := HFL.out; omega
          · obtain ⟨n, hn, hq⟩ := List.any_eq_true.1 h
            obtain ⟨j, hj, rfl⟩ := List.mem_iff_getElem.1 hn
            have h1 := intF_getD F j
            rw [List.getD_eq_getElem?_getD, List.getElem?_eq_getElem hj] at h1
            simp only [Option.getD_some] at h1
            simp only [wbad, decide_eq_true_eq] at hq
            have h2 := HFV.out.2.1 j
            have h3 := HTL.out
            have h4 := HTZ.out
            omega
        · rw [natF_int] at hfin
          rw [HFL.out]
          have HFIN := Lib.hid hfin
          have HOROW := Lib.hid horow
          have HGO : Hid (w.heap.size ≤ go) := Nat.le_trans HBR.out.size hgo
          have hol : (intF o).length = 256 := by rw [intF_len, hfin.len]; exact HFV.out.1
          have HOL := Lib.hid hol
          have HCD : Hid (∀ wx, SAt 1 iC wx (some ⟨go, 0, none⟩) (intF o) → Calls Tryd.prog 63 #[.slice (some ⟨go, 0, none⟩) 256 256] wx (CodesEnd wx (intF o))) := fun wx hx => by
            have := codes_any (some ⟨go, 0, none⟩) 256 (intF o) wx hx (by omega)
            rw [hol] at this
            exact this
          have hkr := kr_eq hfin (by rw [HFV.out.1]; decide) (by rw [HFV.out.1]; decide)
          have hks : ks (intF o) ≤ 281474976710656 := by
            rw [ks_eq hfin, hfin.kf]
            split
            · omega
            · split <;> omega
          have HKR := Lib.hid hkr
          have HKS := Lib.hid hks
          have HCNT : Hid (prn (intF o) 0 256 = cntF F) := prn_cnt hfin
          have hcl := cntF_le F
          clear hb3 hfin horow hgo hol hkr hks HLG HROW HBR
          go_wp2_with fail
          refine (HCD.out _ (sat_nc HOROW.out)).mono ?_
          rintro e w4 ⟨hb4, hcase⟩
          rcases hcase with ⟨hk1, _⟩ | ⟨_, hk2, _⟩ | ⟨_, _, gc, cs, rfl, _, hgc, hcrow, hcode, hcz⟩
          · exfalso
            rw [HKR.out] at hk1
            injection hk1 with _ hk1
            cases hk1
          · exfalso
            have := HKS.out
            omega
          · have HB4 := Lib.hid (HB3.out.trans (hb4.mono HB3.out.size))
            have HO4 := Lib.hid ((hb4.block _ (lt_of_block HOROW.out)).trans HOROW.out)
            have HC4 := Lib.hid hcrow
            have HCODE := Lib.hid hcode
            have HCZ := Lib.hid hcz
            rw [HOL.out]
            clear hb4 hcrow hcode hcz hgc HCD HB3 HOROW HKR
            have HB5 : Hid (Below w4.heap.size w4 ((w4.alloc (.cells #[.int .u8 1] 5)).alloc (.cells #[.int .i64 (s.size : Int), .int .i64 (ts.size : Int), .int .i64 (cntF F : Int)] 3))) := ((Below.refl _ _).alloc (Nat.le_refl _) _).alloc (by simp) _
            have h2 := heap_twoK w4 (.cells #[.int .u8 1] 5) (.cells #[.int .i64 (s.size : Int), .int .i64 (ts.size : Int), .int .i64 (cntF F : Int)] 3)
            have HN5 := Lib.hid h2.2
            have HW5 : Hid (((w4.alloc (.cells #[.int .u8 1] 5)).alloc (.cells #[.int .i64 (s.size : Int), .int .i64 (ts.size : Int), .int .i64 (cntF F : Int)] 3)).ownsRow w4.heap.size 5 1 (.slice (some ⟨w4.heap.size, 0, none⟩) 1 1) 1 ([1].map bV)) := (World.ownsRow_lit w4 #[.int .u8 1] 1 (Nat.le_refl _) (by decide) rfl).alloc _
            clear h2
            generalize hcf : cntF F = cf at *
            have HCF := Lib.hid hcf
            clear hcf
            go_wp2_with fail
            generalize (w4.alloc (.cells #[.int .u8 1] 5)).alloc (.cells #[.int .i64 (s.size : Int), .int .i64 (ts.size : Int), .int .i64 (cf : Int)] 3) = w6 at *
            go_loopw [15, 77] (fun ov jv wr => ∃ (j : Nat) (ms : List (List Nat)) (L : List Nat) (oa : Option Addr) (oc : Nat), ov = .slice oa L.length oc ∧ Hid (L = 1 :: ms.flatten) ∧ jv = .int .i64 (j : Int) ∧ j ≤ 3 ∧ ms.length = j ∧ ms.flatten.length ≤ 9 * j ∧ (∀ c ∈ ms.flatten, c < 256) ∧ (∀ i, i < j → Num ([s.size, ts.size, cf].getD i 0) (ms.getD i [])) ∧
              wr.ownsRow w4.heap.size 5 1 (.slice oa L.length oc) L.length (L.map bV) ∧ wr.heap[w4.heap.size + 1]? = some (.cells #[.int .i64 (s.size : Int), .int .i64 (ts.size : Int), .int .i64 (cf : Int)] 3 (0, 0)) ∧ Below w4.heap.size w4 wr) (fun _ jv _ => 3 - (intOf jv).toNat)
            case atStart => exact ⟨0, [], [1], _, _, rfl, Lib.hid rfl, rfl, by omega, rfl, by simp, by simp, fun i hi => absurd hi (Nat.not_lt_zero _), HW5.out, HN5.out, HB5.out⟩
            case round =>
              obtain ⟨j, ms, L, oa, oc, rfl, HLE, rfl, hj, hms, hml, hmb, hmn, hown, hrow, hbr⟩ := hrel
              have HMS := Lib.hid hms
              have HML := Lib.hid hml
              have HMB := Lib.hid hmb
              have HMN := Lib.hid hmn
              have HOWN := Lib.hid hown
              have HROW := Lib.hid hrow
              have HBR := Lib.hid hbr
              clear hms hml hmb hmn hown hbr
              by_cases hlt : j < 3
              · have m1 : (j : Int) < 3 := by omega
                obtain ⟨v, hv⟩ : ∃ v, [s.size, ts.size, cf].getD j 0 = v := ⟨_, rfl⟩
                have c1 : wr.cell? ⟨w4.heap.size + 1, j, none⟩ = some (.int .i64 (v : Int)) := by
                  rw [cell_of_row _ _ _ _ _ _ hrow, ← hv]
                  match j, hlt with
                  | 0, _ => rfl
                  | 1, _ => rfl
                  | 2, _ => rfl
                have hvl : v ≤ 12288 := by
                  have h1 := HSM.out
                  have h2 := HTL.out
                  have h3 := HTZ.out
                  rw [← hv]
                  match j, hlt with
                  | 0, _ => show s.size ≤ _; omega
                  | 1, _ => show ts.size ≤ _; omega
                  | 2, _ => show cf ≤ _; omega
                have zv : (v : Int) < 12289 := by omega
                have zv0 : (0 : Int) ≤ (v : Int) := Int.natCast_nonneg _
                have HPT := Lib.hid fun wx => put_any v (by omega) wx
                have HV := Lib.hid hv
                clear hrow hv hvl
                go_wp2_with fail
                refine (HPT.out _).mono ?_
                rintro e w7 ⟨f, hf, rfl, hb7⟩
                have HF7 := Lib.hid hf
                have hfl := hf.length
                rw [strN_length] at hfl
                have B7 := Lib.hid (Below.step HBR.out hb7)
                have HO7 := Lib.hid (own_belowK HOWN.out hb7)
                have HR7 : Hid (w7.heap[w4.heap.size + 1]? = _) := (hb7.block _ (lt_of_block HROW.out)).trans HROW.out
                have D3 : Hid (L.length + f.size ≤ maxLen) := by have := HML.out; show _ ≤ _; rw [HLE.out, List.length_cons]; unfold maxLen; omega
                have D4 : Hid (L.length + f.size ≤ 140737488355328) := by have := HML.out; show _ ≤ _; rw [HLE.out, List.length_cons]; omega
                have D5 : Hid (w4.heap.size ≤ w7.heap.size) := B7.out.size
                have HFS := Lib.hid hfl
                clear hb7 hf hfl
                go_wp2_with (at_builtin; refine Lib.wpList_append_own_string _ rfl _ _ 92 9 rfl w4.heap.size 5 i0 Tryd.underlying92 Tryd.underlying9 hi0 hz0 hz1 hz2 _ _ _ rfl HO7.out f rfl D3.out D4.out D5.out ?_)
                intro v' w8 hown' hgrow _
                have BW := Lib.hid (below_own B7.out hgrow D5.out HO7.out (Nat.le_refl _))
                have HR8 : Hid (w8.heap[w4.heap.size + 1]? = _) := (hgrow.block _ (lt_of_block HR7.out) (own_neqK HO7.out HR7.out (by decide))).trans HR7.out
                have hfe : (ms ++ [strN f]).flatten = ms.flatten ++ strN f := by simp
                have OW : Hid (w8.ownsRow w4.heap.size 5 1 v' (L ++ strN f).length ((L ++ strN f).map bV)) := by
                  show w8.ownsRow _ _ _ _ _ _
                  rw [List.length_append, strN_length, List.map_append, ← strCells_bVP]
                  exact hown'
                have HLE2 : Hid (L ++ strN f = 1 :: (ms ++ [strN f]).flatten) := by show _ = _; rw [HLE.out, hfe]; rfl
                generalize L ++ strN f = L2 at *
                obtain ⟨oa2, oc2, hv'⟩ := own_formK OW.out
                subst hv'
                have HFE := Lib.hid hfe
                clear hown' hgrow hfe
                go_wp2_with fail
                go_roundw
                case rel =>
                  refine ⟨j + 1, ms ++ [strN f], L2, oa2, oc2, rfl, HLE2, by go_num, by omega, by rw [List.length_append, HMS.out]; rfl, ?_, ?_, ?_, OW.out, HR8.out, BW.out⟩
                  · rw [HFE.out, List.length_append, strN_length]; have := HML.out; have := HFS.out; omega
                  · rw [HFE.out]
                    intro c hc
                    rcases List.mem_append.1 hc with hc | hc
                    · exact HMB.out c hc
                    · exact strN_lt f c hc
                  · intro i hi
                    by_cases e : i = j
                    · subst e
                      rw [HV.out, List.getD_eq_getElem?_getD, List.getElem?_append_right (by rw [HMS.out]; exact Nat.le_refl _), HMS.out, Nat.sub_self]
                      exact HF7.out
                    · rw [List.getD_eq_getElem?_getD (l := ms ++ _), List.getElem?_append_left (by rw [HMS.out]; omega), ← List.getD_eq_getElem?_getD]
                      exact HMN.out i (by omega)
                case measure => simp [intOf]; omega
              · have m1 : ¬ (j : Int) < 3 := by omega
                obtain rfl : j = 3 := by omega
                have HLB : Hid (∀ c ∈ L, c < 256) := by
                  show ∀ c ∈ L, _
                  rw [HLE.out]
                  intro c hc
                  rcases List.mem_cons.1 hc with rfl | hc
                  · decide
                  · exact HMB.out c hc
                have HL28 : Hid (L.length ≤ 28) := by show _ ≤ _; rw [HLE.out, List.length_cons]; have := HML.out; omega
                clear hlt hj HN5 HW5 HB5 hrow hcl
                go_wp2_with fail
                go_loopw [15, 89] (fun ov iv wr => ∃ (i : Nat) (K : List Nat) (oa : Option Addr) (oc : Nat), ov = .slice oa K.length oc ∧ iv = .int .i64 (i : Int) ∧ i ≤ 256 ∧ Hid (K = L ++ prs (intF o) 0 i) ∧ K.length ≤ 28 + 2 * i ∧ (∀ c ∈ K, c < 256) ∧ wr.ownsRow w4.heap.size 5 1 (.slice oa K.length oc) K.length (K.map bV) ∧ Below w4.heap.size w4 wr) (fun _ iv _ => 256 - (intOf iv).toNat)
                case atStart => exact ⟨0, L, oa, oc, rfl, rfl, by omega, Lib.hid (by simp [prs]), by have := HL28.out; omega, HLB.out, HOWN.out, HBR.out⟩
                case round =>
                  obtain ⟨i, K, ka, kc, rfl, rfl, hi, HK, hkl, hkb, hown, hbr⟩ := hrel
                  have HKL := Lib.hid hkl
                  have HKB := Lib.hid hkb
                  have HOK := Lib.hid hown
                  have HBK := Lib.hid hbr
                  have HOI : Hid (wr.heap[go]? = some (.cells (nC o) 3 (0, 0))) := (hbr.block _ (lt_of_block HO4.out)).trans HO4.out
                  clear hkl hkb hown hbr
                  by_cases hlt : i < 256
                  · have m1 : (i : Int) < 256 := by omega
                    have hio : i < o.length := by rw [HFIN.out.len, HFV.out.1]; exact hlt
                    have c1 : wr.cell? ⟨go, i, none⟩ = some (.int .i64 ((at0 o i : Nat) : Int)) := by rw [cell_of_row _ _ _ _ _ _ HOI.out, nC_get o i hio]; rfl
                    have hl48 := HFIN.out.le i
                    have hpr : prs (intF o) 0 (i + 1) = prs (intF o) 0 i ++ (if 0 < at0 o i then [i, at0 o i] else []) := by
                      unfold prs
                      rw [List.range'_1_concat, List.flatMap_append, List.flatMap_singleton, Nat.zero_add, intF_getD]
                      by_cases h : 0 < at0 o i
                      · rw [if_pos h, if_pos (by omega), Int.toNat_natCast]
                      · rw [if_neg h, if_neg (by omega)]
                    obtain ⟨ln, hle⟩ : ∃ ln, at0 o i = ln := ⟨_, rfl⟩
                    rw [hle] at c1 hl48 hpr
                    clear hio hle
                    by_cases h0 : 0 < ln
                    · rw [if_pos h0] at hpr
                      have HPR := Lib.hid hpr
                      have z1 : (0 : Int) < (ln : Int) := by omega
                      have z48 : (ln : Int) < 49 := by omega
                      have z49 : (0 : Int) ≤ (ln : Int) := by omega
                      have zi0 : (0 : Int) ≤ (i : Int) := Int.natCast_nonneg _
                      have D1 := Lib.hid (cells_new_at wr wr.heap.size rfl #[.int .u8 (i : Int), .int .u8 (ln : Int)] 5 [.int .u8 (i : Int), .int .u8 (ln : Int)] rfl)
                      have D2 : Hid (∀ u ∈ ([.int .u8 (i : Int), .int .u8 (ln : Int)] : List Value), u.oneCell' = true) := by intro u hu; simp only [List.mem_cons, List.not_mem_nil, or_false] at hu; rcases hu with rfl | rfl <;> rfl
                      have D3 : Hid (K.length + 2 ≤ maxLen) := by show _ ≤ _; have := HKL.out; unfold maxLen; omega
                      have D4 : Hid ((K.length + 2) * 1 ≤ 140737488355328) := by show _ ≤ _; have := HKL.out; omega
                      have D5 : Hid (w4.heap.size ≤ (wr.alloc (.cells #[.int .u8 (i : Int), .int .u8 (ln : Int)] 5)).heap.size) := by show _ ≤ _; have := HBK.out.size; simp; omega
                      have HBA := Lib.hid (HBK.out.alloc HBK.out.size (.cells #[.int .u8 (i : Int), .int .u8 (ln : Int)] 5))
                      have HI256 := Lib.hid hlt
                      have HLN48 := Lib.hid hl48
                      clear hpr hl48 hlt h0
                      go_wp2_with (at_builtin; refine wpList_append_own _ rfl _ _ 92 rfl w4.heap.size 5 i0 (.int .u8 0) 1 1 Tryd.underlying92 hi0 hz0 hz1 hz2 rfl (by decide) _ _ _ rfl (HOK.out.alloc _) ⟨wr.heap.size, 0, none⟩ 2 2 [.int .u8 (i : Int), .int .u8 (ln : Int)] rfl rfl D1.out D2.out D3.out D4.out D5.out ?_)
                      intro v' w8 hown' hgrow _
                      have BW := Lib.hid (below_own HBA.out hgrow D5.out (HOK.out.alloc _) (Nat.le_refl _))
                      have OW : Hid (w8.ownsRow w4.heap.size 5 1 v' (K ++ [i, ln]).length ((K ++ [i, ln]).map bV)) := by
                        show w8.ownsRow _ _ _ _ _ _
                        rw [List.length_append, List.map_append]
                        exact hown'
                      have HK2 : Hid (K ++ [i, ln] = L ++ prs (intF o) 0 (i + 1)) := by show _ = _; rw [HK.out, HPR.out, List.append_assoc]
                      have HKL2 : Hid ((K ++ [i, ln]).length ≤ 28 + 2 * (i + 1)) := by show _ ≤ _; rw [List.length_append]; have := HKL.out; show _ + 2 ≤ _; omega
                      have HKB2 : Hid (∀ c ∈ K ++ [i, ln], c < 256) := fun c hc => by
                        rcases List.mem_append.1 hc with hc | hc
                        · exact HKB.out c hc
                        · simp only [List.mem_cons, List.not_mem_nil, or_false] at hc
                          have h1 := HI256.out
                          have h2 := HLN48.out
                          omega
                      generalize K ++ [i, ln] = K2 at *
                      obtain ⟨oa2, oc2, hv'⟩ := own_formK OW.out
                      subst hv'
                      clear hown' hgrow
                      go_wp2_with fail
                      go_roundw
                      case rel => exact ⟨i + 1, K2, oa2, oc2, rfl, by go_num, by omega, HK2, HKL2.out, HKB2.out, OW.out, BW.out⟩
                      case measure => simp [intOf]; have := HI256.out; omega
                    · rw [if_neg h0, List.append_nil] at hpr
                      have HPR := Lib.hid hpr
                      obtain rfl : ln = 0 := by omega
                      rw [show ((0 : Nat) : Int) = 0 from rfl] at c1
                      have HI256 := Lib.hid hlt
                      clear hpr hl48 h0 hlt
                      go_wp2_with fail
                      go_roundw
                      case rel => exact ⟨i + 1, K, ka, kc, rfl, by go_num, by omega, Lib.hid (by rw [HPR.out]; exact HK.out), by have := HKL.out; omega, HKB.out, HOK.out, HBK.out⟩
                      case measure => simp [intOf]; have := HI256.out; omega
                  · have m1 : ¬ (i : Int) < 256 := by omega
                    obtain rfl : i = 256 := by omega
                    rw [show ((256 : Nat) : Int) = 256 from rfl]
                    have hb9 : Below wr.heap.size wr (wr.alloc (.cells #[.slice none 0 0, .int .i64 0] 123)) := (Below.refl _ _).alloc (Nat.le_refl _) _
                    have HB9 := Lib.hid (HBK.out.trans (hb9.mono HBK.out.size))
                    have HOK9 := Lib.hid (HOK.out.alloc (.cells #[.slice none 0 0, .int .i64 0] 123))
                    have hw9 := heap_alloc_new wr (.cells #[.slice none 0 0, .int .i64 0] 123)
                    have HW9 : Hid (WrAt wr.heap.size [] 0 (wr.alloc (.cells #[.slice none 0 0, .int .i64 0] 123))) := ⟨none, 0, hw9, World.ownsRow_nil _ _ _ _⟩
                    have HN9 := Lib.hid hw9
                    have HO9 : Hid (w4.heap.size ≤ wr.heap.size) := HBK.out.size
                    have HKO : Hid (∀ g cs, (wr.alloc (.cells #[.slice none 0 0, .int .i64 0] 123)).heap[g]? = some (.cells cs 5 (0, 0)) → g < wr.heap.size) := fun g cs hg => by
                      have h1 := lt_of_block hg
                      rw [World.size_alloc] at h1
                      have h2 : g ≠ wr.heap.size := type_ne hg hw9 (by decide)
                      omega
                    clear hlt hi hb9 hw9
                    go_wp2_with fail
                    generalize wr.alloc (.cells #[.slice none 0 0, .int .i64 0] 123) = w9 at *
                    obtain ⟨O, hO⟩ : ∃ O, wr.heap.size = O := ⟨_, rfl⟩
                    rw [hO] at HW9 HN9 HO9 HKO ⊢
                    clear hO
                    go_loopw [108] (fun iv wr => ∃ (i : Nat) (Lw : List Nat) (k : Nat), iv = .int .i64 (i : Int) ∧ i ≤ ts.size ∧ Hid (WrAt O Lw k wr) ∧ Hid (WB Lw k ((T.take i).flatMap fun x => bitsL (cs.getD x 0) ((intF o).getD x 0).toNat)) ∧ Hid (Below O w9 wr) ∧ Hid (Lw = [] → wr.heap[O]? = some (.cells #[.slice none 0 0, .int .i64 0] 123 (0, 0)))) (fun iv _ => ts.size - (intOf iv).toNat)
                    case atStart => exact ⟨0, [], 0, rfl, Nat.zero_le _, HW9, Lib.hid (by simpa using WB.nil), Lib.hid (Below.refl _ _), Lib.hid (fun _ => HN9.out)⟩
                    case round =>
                      obtain ⟨i, Lw, k, rfl, hi, HWA, HWB, HBW, HNW⟩ := hrel
                      by_cases hlt : i < ts.size
                      · have m2 : (i : Int) < (ts.size : Int) := by omega
                        have hxb := byte_at' ts i hlt
                        rw [HTS.out] at hxb
                        have hx := UInt8.toNat_lt (ts[i]'hlt)
                        obtain ⟨x, hxe⟩ : ∃ x, (ts[i]'hlt).toNat = x := ⟨_, rfl⟩
                        rw [hxe] at hxb hx
                        have hx : x < 256 := hx
                        have hiT : i < T.length := by rw [← HTZ.out]; exact hlt
                        have hmem : x ∈ T := by
                          rw [hxb, List.getD_eq_getElem?_getD, List.getElem?_eq_getElem hiT]
                          exact List.getElem_mem hiT
                        have hti : T.take (i + 1) = T.take i ++ [x] := by
                          rw [List.take_succ_eq_append_getElem hiT, hxb, List.getD_eq_getElem?_getD, List.getElem?_eq_getElem hiT]
                          rfl
                        have HOI : Hid (wr.heap[go]? = some (.cells (nC o) 3 (0, 0))) := by
                          have h1 := (HB9.out.block go (by have := lt_of_block HO4.out; exact this))
                          have h2 : go < O := Nat.lt_of_lt_of_le (lt_of_block HO4.out) HO9.out
                          exact ((HBW.out.block go h2).trans h1).trans HO4.out
                        have HCI : Hid (wr.heap[gc]? = some (.cells (nC cs) 3 (0, 0))) := by
                          have h1 := (HB9.out.block gc (by have := lt_of_block HC4.out; exact this))
                          have h2 : gc < O := Nat.lt_of_lt_of_le (lt_of_block HC4.out) HO9.out
                          exact ((HBW.out.block gc h2).trans h1).trans HC4.out
                        have hF0 : 0 < at0 o x := (HFIN.out.pos x).1 (HTI.out x hmem)
                        have hl48 := HFIN.out.le x
                        have hxo : x < o.length := by rw [HFIN.out.len, HFV.out.1]; exact hx
                        have hxc : x < cs.length := by rw [HCODE.out.1, HOL.out]; exact hx
                        have c1 : wr.cell? ⟨gc, x, none⟩ = some (.int .i64 ((cs.getD x 0 : Nat) : Int)) := by rw [cell_of_row _ _ _ _ _ _ HCI.out, nC_get cs x hxc]
                        have c2 : wr.cell? ⟨go, x, none⟩ = some (.int .i64 ((at0 o x : Nat) : Int)) := by rw [cell_of_row _ _ _ _ _ _ HOI.out, nC_get o x hxo]; rfl
                        have hb48 : ∀ n ∈ intF o, n ≤ 48 := fun n hn => by
                          obtain ⟨q, hq, rfl⟩ := List.mem_iff_getElem.1 hn
                          have h1 := intF_getD o q
                          rw [List.getD_eq_getElem?_getD, List.getElem?_eq_getElem hq] at h1
                          simp only [Option.getD_some] at h1
                          have := HFIN.out.le q
                          omega
                        have hcn : cs.getD x 0 < 281474976710656 := by
                          have h1 := code_short HCODE.out hb48 HKS.out (i := x) (by rw [HOL.out]; exact hx) (by rw [intF_getD]; omega)
                          rw [intF_getD, Int.toNat_natCast] at h1
                          have h2 := (Nat.div_eq_zero_iff.1 h1).resolve_left (by have := Nat.two_pow_pos (at0 o x); omega)
                          exact Nat.lt_of_lt_of_le h2 (Nat.le_trans (Nat.pow_le_pow_right (by decide) hl48) (by decide))
                        have hBl : ((T.take i).flatMap fun x => bitsL (cs.getD x 0) ((intF o).getD x 0).toNat).length ≤ 1000000 := by
                          have h1 := flat_code_len (c := cs) (l := intF o) (fun y => by rw [intF_getD, Int.toNat_natCast]; exact HFIN.out.le y) (T.take i)
                          rw [List.length_take] at h1
                          have := HTL.out
                          omega
                        have HSTEP : Hid (((T.take (i + 1)).flatMap fun x => bitsL (cs.getD x 0) ((intF o).getD x 0).toNat) = ((T.take i).flatMap fun x => bitsL (cs.getD x 0) ((intF o).getD x 0).toNat) ++ bitsL (cs.getD x 0) (at0 o x)) := by
                          show _ = _
                          rw [hti, List.flatMap_append, List.flatMap_singleton, intF_getD, Int.toNat_natCast]
                        generalize cs.getD x 0 = n at *
                        generalize at0 o x = ln at *
                        generalize ((T.take i).flatMap fun x => bitsL (cs.getD x 0) ((intF o).getD x 0).toNat) = BB at *
                        have HPB := Lib.hid fun u (hu : WrAt O Lw k u) => put_bits_any O Lw BB k n ln u hu HWB.out hBl hl48 hcn
                        have HLN0 := Lib.hid hF0
                        have HLT := Lib.hid hlt
                        have hil : (i : Int) < 12289 := by have h1 := HTL.out; have h2 := HTZ.out; omega
                        have z256 : (x : Int) < 256 := by omega
                        have z00 : (0 : Int) ≤ (x : Int) := Int.natCast_nonneg _
                        clear hxb hx hiT hmem hti hl48 hxo hxc hb48 hcn hBl hF0
                        go_wp2_with fail
                        go_still_tail 13, (by kernel_rfl)
                        change wpList _ _ _ _ _ wr.drew
                        have HWA2 : Hid (WrAt O Lw k wr.drew) := HWA.out
                        have HBW2 : Hid (Below O w9 wr.drew) := HBW.out.drew
                        generalize wr.drew = wd at *
                        go_wp2_with fail
                        refine (HPB.out _ HWA2.out).mono ?_
                        rintro e w10 ⟨rfl, hb10, L', k', hwa, hwb⟩
                        have HWA3 := Lib.hid hwa
                        have HWB3 : Hid (WB L' k' ((T.take (i + 1)).flatMap fun x => bitsL (cs.getD x 0) ((intF o).getD x 0).toNat)) := by show WB _ _ _; rw [HSTEP.out]; exact hwb
                        have HBW3 := Lib.hid (HBW2.out.trans hb10)
                        have HNW3 : Hid (L' = [] → w10.heap[O]? = some (.cells #[.slice none 0 0, .int .i64 0] 123 (0, 0))) := by
                          intro h
                          exfalso
                          have h1 := wb_len hwb
                          rw [h, List.length_append, bitsL_length] at h1
                          have := HLN0.out
                          simp at h1
                          omega
                        clear hb10 hwa hwb c1 c2
                        go_wp2_with fail
                        go_roundw
                        case rel => exact ⟨i + 1, L', k', by go_num, by omega, HWA3, HWB3, HBW3, HNW3⟩
                        case measure => simp [intOf]; have := HLT.out; omega
                      · have m2 : ¬ (i : Int) < (ts.size : Int) := by omega
                        obtain rfl : i = ts.size := by omega
                        clear hlt hi
                        have HTT : Hid (T.take ts.size = T) := by show _ = _; rw [HTZ.out]; exact List.take_of_length_le (Nat.le_refl _)
                        rw [HTT.out] at HWB
                        have hBl : (T.flatMap fun x => bitsL (cs.getD x 0) ((intF o).getD x 0).toNat).length ≤ 1000000 := by
                          have h1 := flat_code_len (c := cs) (l := intF o) (fun y => by rw [intF_getD, Int.toNat_natCast]; exact HFIN.out.le y) T
                          have := HTL.out
                          omega
                        have hwl := wb_len HWB.out
                        have hk8 := HWB.out.2.1
                        have hLwl : Lw.length ≤ 200000 := by omega
                        have HLWL := Lib.hid hLwl
                        have HOKW : Hid (wr.ownsRow w4.heap.size 5 1 (.slice ka K.length kc) K.length (K.map bV)) := own_keep HOK9.out (fun g cs hg hge => HBW.out.block g (HKO.out g cs hg))
                        have HBF : Hid (Below w.heap.size w wr) := (HB4.out.trans (HB9.out.mono HB4.out.size)).trans (HBW.out.mono (Nat.le_trans HB4.out.size HO9.out))
                        have HPG : Hid (∃ r, K ++ Lw = 1 :: r ∧ PGood r (strN s)) := by
                          have hm3 := HMS.out
                          match ms, hm3, HLE, HMN with
                          | [m0, m1, m2], _, HLE, HMN =>
                            refine ⟨m0 ++ (m1 ++ (m2 ++ (prs (intF o) 0 256 ++ Lw))), ?_, ?_⟩
                            · rw [HK.out, HLE.out]
                              simp
                            · have h1 := HMN.out 0 (by decide)
                              have h2 := HMN.out 1 (by decide)
                              have h3 := HMN.out 2 (by decide)
                              simp only [List.getD_cons_zero, List.getD_cons_succ] at h1 h2 h3
                              exact pgood (F := F) (tk := tk) (k := k) (t := T) HSL.out HGR.out HT.out.symm HFV.out.1 HTI.out HFIN.out HCODE.out (by rw [HOL.out]; exact fun t ht h0 => HCZ.out t (by have := HOL.out; omega) (by omega)) (by rw [strN_length]; exact h1) (by rw [← HTZ.out]; exact h2) (by rw [HCNT.out]; exact h3) HWB.out
                        have HFB : Hid (∀ c ∈ K ++ Lw, c < 256) := fun c hc => by
                          rcases List.mem_append.1 hc with hc | hc
                          · exact HKB.out c hc
                          · exact HWB.out.2.2.2 c hc
                        clear hBl hwl hk8 hLwl
                        by_cases hLn : Lw = []
                        · subst hLn
                          have hrw := HNW.out rfl
                          have c0 := cell_of_row _ _ 0 _ _ _ hrw
                          simp only [List.getElem?_toArray, List.getElem?_cons_succ, List.getElem?_cons_zero] at c0
                          rw [List.append_nil] at HPG HFB
                          clear hrw
                          have zs : (s.size : Int) < 4097 := by have := HSM.out; omega
                          have hcv := run_string_own (P := Tryd.prog) wr 92 5 9 Tryd.underlying92 Tryd.underlying5 Tryd.underlying9 HFB.out HOKW.out
                          have hsn := strN_strOf K HFB.out
                          have hsz := strOf_size K
                          obtain ⟨q, hq⟩ : ∃ q, strOf K = q := ⟨_, rfl⟩
                          rw [hq] at hcv hsn hsz
                          have HQN := Lib.hid hsn
                          have HQZ := Lib.hid hsz
                          obtain ⟨ln, hln⟩ : ∃ ln, K.length = ln := ⟨_, rfl⟩
                          rw [hln] at hcv HQZ HOKW ⊢
                          have HQL : Hid (1 ≤ ln) := by
                            obtain ⟨r, h, _⟩ := HPG.out
                            rw [← hln, h]
                            exact Nat.le_add_left 1 _
                          clear hsn hsz hq hln
                          by_cases hsm : ln < 1 + s.size
                          · have z5 : (ln : Int) < 1 + (s.size : Int) := by omega
                            have HLS := Lib.hid hsm
                            clear hsm
                            go_wp2_with (at_builtin; refine wpList_append_own_none rfl _ _ 92 rfl w4.heap.size 5 i0 1 Tryd.underlying92 hi0 _ _ _ rfl HOKW.out rfl ?_)
                            go_ret2
                            exact ⟨HBF.out, .inr ⟨HSM.out, q, rfl, by rw [HQZ.out]; exact HQL.out, by rw [HQZ.out]; exact Nat.le_of_lt HLS.out, .inr (by rw [HQN.out]; exact HPG.out)⟩⟩
                          · have z5 : ¬ (ln : Int) < 1 + (s.size : Int) := by omega
                            have hc0 := conv1 0 (by decide) wr
                            rw [show ((0 : Nat) : Int) = 0 from rfl] at hc0
                            have h0s : strN (strOf [0] ++ s) = 0 :: strN s := by rw [strN_addP, strN_strOf [0] (by decide)]; rfl
                            have h0z : (strOf [0] ++ s).size = 1 + s.size := by rw [ByteArray.size_append, strOf_size]; rfl
                            have H0S := Lib.hid h0s
                            have H0Z := Lib.hid h0z
                            have hmx : ¬ 9223372036854775807 < (strOf [0]).size + s.size := by rw [strOf_size]; have := HSM.out; show ¬ _ < 1 + _; omega
                            have HBA := Lib.hid (HBF.out.alloc HBF.out.size (.cells #[.int .u8 0] 5))
                            clear hsm h0s h0z hcv
                            go_wp2_with (at_builtin; refine wpList_append_own_none rfl _ _ 92 rfl w4.heap.size 5 i0 1 Tryd.underlying92 hi0 _ _ _ rfl HOKW.out rfl ?_)
                            go_ret2
                            exact ⟨HBA.out, .inr ⟨HSM.out, _, rfl, by rw [H0Z.out]; omega, by rw [H0Z.out]; exact Nat.le_refl _, .inl H0S.out⟩⟩
                        · obtain ⟨oaW, ocW, hrw, how⟩ := HWA.out
                          obtain ⟨g, rfl, hg, _, _⟩ := own_byte how hLn
                          have c0 := cell_of_row _ _ 0 _ _ _ hrw
                          simp only [List.getElem?_toArray, List.getElem?_cons_succ, List.getElem?_cons_zero] at c0
                          have D1 : Hid (∀ j u, (Lw.map bV)[j]? = some u → wr.cell? ((⟨g, 0, none⟩ : Addr).add j) = some u) := how.cells (g := g) rfl
                          have D2 : Hid (∀ u ∈ Lw.map bV, u.oneCell' = true) := fun u hu => by
                            obtain ⟨q, _, rfl⟩ := List.mem_map.1 hu
                            rfl
                          have D3 : Hid (K.length + Lw.length ≤ maxLen) := by show _ ≤ _; have := HKL.out; have := HLWL.out; unfold maxLen; omega
                          have D4 : Hid ((K.length + Lw.length) * 1 ≤ 140737488355328) := by show _ ≤ _; have := HKL.out; have := HLWL.out; omega
                          have D5 : Hid (w4.heap.size ≤ wr.heap.size) := Nat.le_trans HO9.out (Nat.le_of_lt (lt_of_block hrw))
                          clear hrw how hg hLn
                          go_wp2_with (at_builtin; refine wpList_append_own _ rfl _ _ 92 rfl w4.heap.size 5 i0 (.int .u8 0) 1 1 Tryd.underlying92 hi0 hz0 hz1 hz2 rfl (by decide) _ _ _ rfl HOKW.out ⟨g, 0, none⟩ Lw.length _ (Lw.map bV) rfl (by rw [List.length_map, Nat.mul_one]) D1.out D2.out D3.out D4.out D5.out ?_)
                          intro v' w11 hown' hgrow _
                          have HBF2 := Lib.hid (below_own HBF.out hgrow HBF.out.size HOKW.out HB4.out.size)
                          have HOKW2 : Hid (w11.ownsRow w4.heap.size 5 1 v' (K ++ Lw).length ((K ++ Lw).map bV)) := by
                            show w11.ownsRow _ _ _ _ _ _
                            rw [List.length_append, List.map_append]
                            exact hown'
                          obtain ⟨oa2, oc2, hv'⟩ := own_formK HOKW2.out
                          subst hv'
                          generalize K ++ Lw = KF at *
                          clear hown' hgrow c0
                          have zs : (s.size : Int) < 4097 := by have := HSM.out; omega
                          have hcv := run_string_own (P := Tryd.prog) w11 92 5 9 Tryd.underlying92 Tryd.underlying5 Tryd.underlying9 HFB.out HOKW2.out
                          have hsn := strN_strOf KF HFB.out
                          have hsz := strOf_size KF
                          obtain ⟨q, hq⟩ : ∃ q, strOf KF = q := ⟨_, rfl⟩
                          rw [hq] at hcv hsn hsz
                          have HQN := Lib.hid hsn
                          have HQZ := Lib.hid hsz
                          obtain ⟨ln, hln⟩ : ∃ ln, KF.length = ln := ⟨_, rfl⟩
                          rw [hln] at hcv HQZ ⊢
                          have HQL : Hid (1 ≤ ln) := by
                            obtain ⟨r, h, _⟩ := HPG.out
                            rw [← hln, h]
                            exact Nat.le_add_left 1 _
                          clear hsn hsz hq hln
                          by_cases hsm : ln < 1 + s.size
                          · have z5 : (ln : Int) < 1 + (s.size : Int) := by omega
                            have HLS := Lib.hid hsm
                            clear hsm
                            go_wp2_with fail
                            go_ret2
                            exact ⟨HBF2.out, .inr ⟨HSM.out, q, rfl, by rw [HQZ.out]; exact HQL.out, by rw [HQZ.out]; exact Nat.le_of_lt HLS.out, .inr (by rw [HQN.out]; exact HPG.out)⟩⟩
                          · have z5 : ¬ (ln : Int) < 1 + (s.size : Int) := by omega
                            have hc0 := conv1 0 (by decide) w11
                            rw [show ((0 : Nat) : Int) = 0 from rfl] at hc0
                            have h0s : strN (strOf [0] ++ s) = 0 :: strN s := by rw [strN_addP, strN_strOf [0] (by decide)]; rfl
                            have h0z : (strOf [0] ++ s).size = 1 + s.size := by rw [ByteArray.size_append, strOf_size]; rfl
                            have H0S := Lib.hid h0s
                            have H0Z := Lib.hid h0z
                            have hmx : ¬ 9223372036854775807 < (strOf [0]).size + s.size := by rw [strOf_size]; have := HSM.out; show ¬ _ < 1 + _; omega
                            have HBA := Lib.hid (HBF2.out.alloc HBF2.out.size (.cells #[.int .u8 0] 5))
                            clear hsm h0s h0z hcv
                            go_wp2_with fail
                            go_ret2
                            exact ⟨HBA.out, .inr ⟨HSM.out, _, rfl, by rw [H0Z.out]; omega, by rw [H0Z.out]; exact Nat.le_refl _, .inl H0S.out⟩⟩
end Go.Proofs.YtbfhhnpoogmlnaaDoor
