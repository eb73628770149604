/- The walks of DiskCalm and DiskWhole. -/
import Derived.Test.YtmnmgoafemnppaaDiskPlayed
namespace Go.Proofs.Ytmnmgoafemnppaa
open Go.RowKit Plain Go.Maps
set_option linter.unusedVariables false
set_option linter.unusedSimpArgs false
/-- what files handed back, carried along -/
theorem fl_keep {w w' : World} {base p N : Nat} {L : List TB} {a : Option Addr} {c : Nat} (h : w.ownsRow base 9 1 (.slice a L.length c) L.length (L.flatMap sTB)) (hf : FrT w w') : w'.ownsRow base 9 1 (.slice a L.length c) L.length (L.flatMap sTB) := own_fr h hf (by decide) (by decide)
theorem own_satT {w : World} {base : Nat} {L : List TB} {a : Option Addr} {c : Nat} (h : w.ownsRow base 9 1 (.slice a L.length c) L.length (L.flatMap sTB)) : SAt 1 sTB w a L ∧ L.length ≤ 9223372036854775807 := by
  obtain ⟨a1, c1, e1, h1, h2, hs1⟩ := SAt.own h sTB_length
  injection e1 with e1 _ e3
  subst e1
  subst e3
  exact ⟨hs1, by omega⟩
theorem eqT_same (a b : Option Addr) (ca cb : Nat) (l : List TB) (w : World) (hl : SAt 1 sTB w a l) (hm : SAt 1 sTB w b l) (nl : l.length ≤ 9223372036854775807) :
    Calls Try.prog 13 #[.slice a l.length ca, .slice b l.length cb] w fun e w' => e = .returned (.bool true) ∧ Below w.heap.size w w' := by
  refine (eqT_any a b ca cb l l w hl hm nl nl).mono ?_
  rintro e w' ⟨he, hb⟩
  exact ⟨by rw [he, decide_eq_true rfl], hb⟩
def calmD (d : Dst) : Dst := (d.fuse (-1)).dec.sync
theorem calm_facts (d : Dst) (K : List Int) : (calmD d).down = false ∧ ((calmD d).crash K).F = (calmD d).F ∧ ((calmD d).crash K).down = false ∧ (((calmD d).crash K).crash K).F = (calmD d).F ∧ (((calmD d).crash K).crash K).down = false := by
  have h1 : (d.fuse (-1)).dec = d.fuse (-1) := rfl
  unfold calmD
  rw [h1]
  exact ⟨rfl, rfl, rfl, rfl, rfl⟩
set_option maxRecDepth 100000 in
set_option maxHeartbeats 8000000 in
theorem diskCalm_any (a : Option Addr) (cap : Nat) (L : List MD) (ka : Option Addr) (kc : Nat) (K : List Int) (w : World) (h : SAt 5 mdC w a L) (hm : ∀ m ∈ L, MdOk w m) (hl : L.length ≤ 1960000000000) (hk : SAt 1 iC w ka K) (hkl : K.length ≤ 9223372036854775807) (hki : ∀ k ∈ K, I64 k) :
    Calls Try.prog 3 #[.slice a L.length cap, .slice ka K.length kc] w fun e w' => e = .returned (.bool true) ∧ Below w.heap.size w w' := by
  have HST := Lib.hid (stored_any w)
  have HPL := Lib.hid fun (W : World) (hb : Below w.heap.size w W) => played_any a cap L h hm (by omega) hb
  have HKK := Lib.hid fun (W : World) (hb : Below w.heap.size w W) => hk.below hb
  have HKI := Lib.hid hki
  have HLN := Lib.hid hl
  have HKL := Lib.hid hkl
  clear h hm hk hki
  go_enter Try.func3, Try.ntmps3
  go_wp2_with fail
  refine HST.out.mono ?_
  rintro e w1 ⟨rfl, hb⟩
  have HB1 := Lib.hid hb
  clear hb HST
  go_wp2_with fail
  refine (HPL.out w1 HB1.out).mono ?_
  rintro e w2 ⟨p, d, rfl, hds, _, hf⟩
  have HD2 := Lib.hid hds
  have HB2 := Lib.hid (HB1.out.trans hf.1)
  clear hds hf HPL HB1
  have HFU := Lib.hid (fuse_any (-1) (by decide) HD2.out)
  go_wp2_with fail
  refine HFU.out.mono ?_
  rintro e w3 ⟨hf, rfl, hds⟩
  have HD3 := Lib.hid hds
  have HB3 := Lib.hid (HB2.out.trans hf.1)
  clear hds hf HFU HB2 HD2
  have HSY := Lib.hid (dsync_any HD3.out)
  go_wp2_with fail
  refine HSY.out.mono ?_
  rintro e w4 ⟨c, d4, rfl, hs, hds, hf⟩
  obtain ⟨rfl, hd4⟩ : c = 0 ∧ d4 = calmD d := by
    rcases hs with ⟨h1, _, _⟩ | ⟨_, h1, h2⟩
    · have : (d.fuse (-1)).down = false := rfl
      rw [this] at h1; cases h1
    · exact ⟨h1, h2⟩
  subst hd4
  have HD4 := Lib.hid hds
  have HB4 := Lib.hid (HB3.out.trans hf.1)
  clear hs hds hf HSY HB3 HD3
  obtain ⟨g1, g2, g3, g4, g5⟩ := calm_facts d K
  have HG := Lib.hid (And.intro g1 (And.intro g2 (And.intro g3 (And.intro g4 g5))))
  clear g1 g2 g3 g4 g5
  have HFL := Lib.hid (files_any (by have := HLN.out; omega) HD4.out)
  go_wp2_with fail
  refine HFL.out.mono ?_
  rintro e w5 ⟨hb, ks, fa, fc, hks, rfl, ho⟩
  have HKS := Lib.hid (hks HG.out.1)
  have HD5 := Lib.hid (HD4.out.below hb)
  have HB5 := Lib.hid (Below.step HB4.out hb)
  have HO5 := Lib.hid ho
  clear hb hks ho HFL HB4
  have HCR := Lib.hid (crash_any ka kc K (fun X hX => HKK.out X (HB5.out.trans hX.1)) HKL.out HKI.out (by have := HLN.out; omega) HD5.out)
  go_wp2_with fail
  refine HCR.out.mono ?_
  rintro e w6 ⟨hf, rfl, hds⟩
  have HD6 := Lib.hid hds
  have HB6 := Lib.hid (HB5.out.trans hf.1)
  have HO6 := Lib.hid (own_fr HO5.out hf.2 (by decide) (by decide))
  clear hds hf HCR HB5 HO5
  have HFL := Lib.hid (files_any (by have := HLN.out; omega) HD6.out)
  go_wp2_with fail
  refine HFL.out.mono ?_
  rintro e w7 ⟨hb, ks2, fa2, fc2, hks, rfl, ho⟩
  have hk2 : ks2 = ks := KS.unique (hks HG.out.2.2.1) (HG.out.2.1 ▸ HKS.out)
  subst hk2
  rw [HG.out.2.1] at ho ⊢
  have HD7 := Lib.hid (HD6.out.below hb)
  have HB7 := Lib.hid (Below.step HB6.out hb)
  have HO7 := Lib.hid (own_belowD HO6.out hb)
  have HP7 := Lib.hid ho
  clear hb hks ho HFL HB6 HO6
  have HCR := Lib.hid (crash_any ka kc K (fun X hX => HKK.out X (HB7.out.trans hX.1)) HKL.out HKI.out (by have := HLN.out; omega) HD7.out)
  go_wp2_with fail
  refine HCR.out.mono ?_
  rintro e w8 ⟨hf, rfl, hds⟩
  have HD8 := Lib.hid hds
  have HB8 := Lib.hid (HB7.out.trans hf.1)
  have HO8 := Lib.hid (own_fr HO7.out hf.2 (by decide) (by decide))
  have HP8 := Lib.hid (own_fr HP7.out hf.2 (by decide) (by decide))
  clear hds hf HCR HB7 HO7 HP7
  have HEQ := Lib.hid (eqT_same fa fa2 fc fc2 _ w8 (own_satT HO8.out).1 (own_satT HP8.out).1 (own_satT HO8.out).2)
  go_wp2_with fail
  refine HEQ.out.mono ?_
  rintro e w9 ⟨rfl, hb⟩
  have HD9 := Lib.hid (HD8.out.below hb)
  have HB9 := Lib.hid (Below.step HB8.out hb)
  have HP9 := Lib.hid (own_belowD HP8.out hb)
  clear hb HEQ HB8 HO8
  have HFL := Lib.hid (files_any (by have := HLN.out; omega) HD9.out)
  go_wp2_with fail
  refine HFL.out.mono ?_
  rintro e wa ⟨hb, ks3, fa3, fc3, hks, rfl, ho⟩
  have hk3 : ks3 = ks2 := KS.unique (hks HG.out.2.2.2.2) (HG.out.2.2.2.1 ▸ HKS.out)
  subst hk3
  rw [HG.out.2.2.2.1] at ho ⊢
  have HBa := Lib.hid (Below.step HB9.out hb)
  have HPa := Lib.hid (own_belowD HP9.out hb)
  have HQa := Lib.hid ho
  clear hb hks ho HFL HB9
  have HEQ := Lib.hid (eqT_same fa3 fa2 fc3 fc2 _ wa (own_satT HQa.out).1 (own_satT HPa.out).1 (own_satT HQa.out).2)
  go_wp2_with fail
  refine HEQ.out.mono ?_
  rintro e wb ⟨rfl, hb⟩
  have HBb := Lib.hid (Below.step HBa.out hb)
  clear hb HEQ
  go_wp2_with fail
  go_ret
  exact ⟨rfl, HBb.out⟩
theorem whole_facts {L : List Dd} {d : Dst} (h : ReachD L d) (n : Nat) (hn : d.C.length ≤ n) : ((d.fuse (-1)).crash (List.replicate n 1)).F = d.F ∧ (d.fuse (-1)).down = false ∧ (d.fuse (-1)).F = d.F ∧ ((d.fuse (-1)).crash (List.replicate n 1)).down = false := by
  have hw : Whole d := h Whole rfl (fun d x e d' _ hw hs => whole_step hw hs)
  refine ⟨?_, rfl, rfl, rfl⟩
  show crF d.C (List.replicate n 1) d.G = d.F
  rw [crF_ones d.C n d.G hn]
  exact hw.symm
/-- a row of ones, then of zeros -/
def rowO (i n : Nat) : Array Value := ((List.replicate i (1 : Int) ++ List.replicate (n - i) (0 : Int)).map fun k => Value.int .i64 k).toArray
theorem rowO_zero (n : Nat) : Array.replicate n (Value.int .i64 0) = rowO 0 n := by
  unfold rowO
  simp
theorem rowO_set {i n : Nat} (h : i < n) : (rowO i n).setIfInBounds i (.int .i64 1) = rowO (i + 1) n := by
  have e : n - i = (n - (i + 1)) + 1 := by omega
  unfold rowO
  rw [e, List.replicate_succ]
  simp only [List.setIfInBounds_toArray, List.map_append, List.map_cons, List.map_replicate]
  congr 1
  rw [List.set_append_right _ _ (by simp)]
  simp [List.replicate_succ', List.append_assoc]
theorem rowO_full (n : Nat) : rowO n n = ((List.replicate n (1 : Int)).map fun k => Value.int .i64 k).toArray := by
  unfold rowO
  simp
theorem rowO_get {i n j : Nat} (h : j < n) (hi : i ≤ n) : ∃ v, (rowO i n)[j]? = some v := by
  have : j < (rowO i n).size := by simp [rowO]; omega
  exact ⟨_, Array.getElem?_eq_getElem this⟩
theorem sat_ones {w : World} {B n : Nat} {t : TypeId} (h : w.heap[B]? = some (.cells (rowO n n) t (0, 0))) : SAt 1 iC w (some ⟨B, 0, none⟩) (List.replicate n (1 : Int)) := fun i hi => by
  have hin : i < n := by simpa using hi
  refine ⟨B, 0, rfl, lt_of_block h, fun j u hu => ?_⟩
  have hj : j < 1 := by
    rcases Nat.lt_or_ge j 1 with h | h
    · exact h
    · rw [List.getElem?_eq_none (by rw [iC_length]; exact h)] at hu; cases hu
  obtain rfl : j = 0 := by omega
  rw [cell_of_row _ _ _ _ _ _ h, rowO_full]
  simp only [Nat.zero_add, Nat.mul_one, Nat.add_zero, List.getElem?_toArray, List.getElem?_map]
  rw [List.getElem?_eq_getElem hi]
  exact hu
set_option maxRecDepth 100000 in
theorem run_make_intD (n : Nat) (hn : n ≤ 1960000000000) (u : World) : (Instr.makeSlice 23 (.int .i64 (n : Int)) (.int .i64 (n : Int))).run Try.prog u = .ok (.slice (some ⟨u.heap.size, 0, none⟩) n n) (u.alloc (.cells (Array.replicate n ((.int .i64 0 : Value))) 3)) := by
  obtain ⟨i, hi, hz, hs, hb⟩ := info_parts (show (Try.prog.info? 3).map (fun i => (i.zero, i.size, i.bytes)) = some (some (.int .i64 0), 1, 8) by kernel_rfl)
  have := run_make (P := Try.prog) u 23 3 i (.int .i64 0) Try.underlying23 hi hz .i64 .i64 (n : Int) (n : Int) (by omega) (by omega) (by rw [hb]; omega) (by omega)
  rw [this, hs]
  have e : ((n : Int)).toNat = n := by omega
  rw [e]
  congr 3
  simp only [madeCells, Nat.mul_one]
  apply Array.ext
  · simp
  · intro k h1 h2
    simp [Value.cells, Nat.mod_one]
theorem ds_len {base p N : Nat} {d : Dst} {w : World} (h : DS base p N d w) : d.C.length ≤ N := by
  obtain ⟨f, g, nf, ng, DF, DG, ca, cc, hx⟩ := h
  have := hx.2.2.2.2.2.2.2.2.1.2
  omega
set_option maxRecDepth 100000 in
set_option maxHeartbeats 8000000 in
theorem diskWhole_any (a : Option Addr) (cap : Nat) (L : List MD) (w : World) (h : SAt 5 mdC w a L) (hm : ∀ m ∈ L, MdOk w m) (hl : L.length ≤ 1960000000000) :
    Calls Try.prog 4 #[.slice a L.length cap] w fun e w' => e = .returned (.bool true) ∧ Below w.heap.size w w' := by
  have HST := Lib.hid (stored_any w)
  have HPL := Lib.hid fun (W : World) (hb : Below w.heap.size w W) => played_any a cap L h hm (by omega) hb
  have HLN := Lib.hid hl
  have hmk := run_make_intD L.length hl
  have hl63 : (L.length : Int) ≤ 1960000000000 := by omega
  clear h hm
  go_enter Try.func4, Try.ntmps4
  go_wp2_with fail
  refine HST.out.mono ?_
  rintro e w1 ⟨rfl, hb⟩
  have HB1 := Lib.hid hb
  clear hb HST
  go_wp2_with fail
  refine (HPL.out w1 HB1.out).mono ?_
  rintro e w2 ⟨p, d, rfl, hds, hrc, hf⟩
  have HD2 := Lib.hid hds
  have HB2 := Lib.hid (HB1.out.trans hf.1)
  obtain ⟨g1, g2, g3, g4⟩ := whole_facts hrc L.length (ds_len hds)
  have HG := Lib.hid (And.intro g1 (And.intro g2 (And.intro g3 g4)))
  clear hds hf HPL HB1 g1 g2 g3 g4 hrc
  have HFU := Lib.hid (fuse_any (-1) (by decide) HD2.out)
  go_wp2_with fail
  refine HFU.out.mono ?_
  rintro e w3 ⟨hf, rfl, hds⟩
  have HD3 := Lib.hid hds
  have HB3 := Lib.hid (HB2.out.trans hf.1)
  clear hds hf HFU HB2 HD2
  have HFL := Lib.hid (files_any (by have := HLN.out; omega) HD3.out)
  go_wp2_with fail
  refine HFL.out.mono ?_
  rintro e w5 ⟨hb, ks, fa, fc, hks, rfl, ho⟩
  have HKS := Lib.hid (hks HG.out.2.1)
  have HD5 := Lib.hid (HD3.out.below hb)
  have HB5 := Lib.hid (Below.step HB3.out hb)
  have HO5 := Lib.hid ho
  have HAL := Lib.hid ((Below.refl w5.heap.size w5).alloc (Nat.le_refl _) (.cells (Array.replicate L.length (.int .i64 0)) 3))
  have HR0 : Hid ((w5.alloc (.cells (Array.replicate L.length (.int .i64 0)) 3)).heap[w5.heap.size]? = some (.cells (rowO 0 L.length) 3 (0, 0))) := Lib.hid (by rw [← rowO_zero]; exact heap_alloc_new w5 _)
  clear hb hks ho HFL HB3 HD3
  go_wp2_with fail
  have HWA := Lib.hid HAL.out
  generalize (w5.alloc (.cells (Array.replicate L.length (.int .i64 0)) 3)) = wa at *
  generalize hKB : w5.heap.size = KB at *
  go_loopw [20] (fun iv wr => ∃ i : Nat, i ≤ L.length ∧ iv = .int .i64 (i : Int) ∧ Hid (wr.heap[KB]? = some (.cells (rowO i L.length) 3 (0, 0))) ∧ Hid (Below KB w5 wr)) (fun iv _ => L.length - (intOf iv).toNat)
  case atStart => exact ⟨0, by omega, rfl, HR0, HWA⟩
  case round =>
    obtain ⟨i, hi, rfl, HR, HBR⟩ := hrel
    by_cases hlt : i < L.length
    · have m1 : (i : Int) < (L.length : Int) := by omega
      have hfz := frozen_of_row _ KB i _ _ HR.out
      obtain ⟨v0, hv0⟩ := rowO_get (i := i) hlt (by omega)
      have hcl := (cell_of_row _ KB i _ _ _ HR.out).trans hv0
      have HRS : Hid ((wr.setCell ⟨KB, i, none⟩ (.int .i64 1)).heap[KB]? = some (.cells (rowO (i + 1) L.length) 3 (0, 0))) := Lib.hid (by rw [row_setD HR.out, rowO_set hlt])
      have HBS := Lib.hid (HBR.out.setCell (p := ⟨KB, i, none⟩) (Nat.le_refl _) (.int .i64 1))
      have m3 : (0 : Int) ≤ (i : Int) := Int.natCast_nonneg _
      clear hv0
      go_wp2_with fail
      go_roundw
      case rel => exact ⟨i + 1, by omega, by go_num, HRS, HBS⟩
      case measure => simp [intOf]; omega
    · have m1 : ¬ (i : Int) < (L.length : Int) := by omega
      obtain rfl : i = L.length := by omega
      have HBW : Hid (Below w5.heap.size w5 wr) := Lib.hid (by rw [hKB]; exact HBR.out)
      have HD6 := Lib.hid (HD5.out.below HBW.out)
      have HB6 := Lib.hid (Below.step HB5.out HBW.out)
      have HO6 := Lib.hid (own_belowD HO5.out HBW.out)
      have HCR := Lib.hid (crash_any (some ⟨KB, 0, none⟩) L.length (List.replicate L.length (1 : Int)) (fun X hX => sat_ones (hX.2.2 KB _ _ _ HR.out (by decide) (by decide))) (by rw [List.length_replicate]; have := HLN.out; omega) (fun k hk => by rw [List.eq_of_mem_replicate hk]; unfold I64; omega) (by have := HLN.out; omega) HD6.out)
      rw [List.length_replicate] at HCR
      clear HBW HD5 HB5 HO5 HAL HR0 HWA
      go_wp2_with fail
      refine HCR.out.mono ?_
      rintro e w7 ⟨hf, rfl, hds⟩
      have HD7 := Lib.hid hds
      have HB7 := Lib.hid (HB6.out.trans hf.1)
      have HO7 := Lib.hid (own_fr HO6.out hf.2 (by decide) (by decide))
      clear hds hf HCR HB6 HO6
      have HFL := Lib.hid (files_any (by have := HLN.out; omega) HD7.out)
      go_wp2_with fail
      refine HFL.out.mono ?_
      rintro e w8 ⟨hb, ks2, fa2, fc2, hks, rfl, ho⟩
      have hk2 : ks2 = ks := KS.unique (hks HG.out.2.2.2) (by rw [HG.out.1, ← HG.out.2.2.1]; exact HKS.out)
      subst hk2
      rw [HG.out.1] at ho ⊢
      have HB8 := Lib.hid (Below.step HB7.out hb)
      have HO8 := Lib.hid (own_belowD HO7.out hb)
      rw [HG.out.2.2.1] at HO8
      have HP8 := Lib.hid ho
      clear hb hks ho HFL HB7 HO7
      have HEQ := Lib.hid (eqT_same fa2 fa fc2 fc _ w8 (own_satT HP8.out).1 (own_satT HO8.out).1 (own_satT HP8.out).2)
      rw [HG.out.2.2.1]
      go_wp2_with fail
      refine HEQ.out.mono ?_
      rintro e w9 ⟨rfl, hb⟩
      have HB9 := Lib.hid (Below.step HB8.out hb)
      clear hb HEQ
      go_wp2_with fail
      go_ret
      exact ⟨rfl, HB9.out⟩
end Go.Proofs.Ytmnmgoafemnppaa
