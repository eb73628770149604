/- shield.combine: the sum of texts multiplied by factors. -/
import Derived.Test.YtigdpmeeibkifaaDoorShieldRow
import Derived.Test.YtigdpmeeibkifaaDoorStrs
import Derived.Test.YtigdpmeeibkifaaDoorBytesOwn
import Derived.StillTailTactics
namespace Go.Proofs.YtigdpmeeibkifaaDoor
open Go.RowKit Plain
/-- byte t of text i -/
def txt (ts : List ByteArray) (i t : Nat) : Nat := (strN (ts.getD i ⟨#[]⟩)).getD t 0
theorem getD_lt256 {l : List Nat} (h : ∀ c ∈ l, c < 256) (k : Nat) : l.getD k 0 < 256 := by
  rw [List.getD_eq_getElem?_getD]
  rcases Nat.lt_or_ge k l.length with hk | hk
  · rw [List.getElem?_eq_getElem hk]
    exact h _ (List.getElem_mem hk)
  · rw [List.getElem?_eq_none hk]
    decide
theorem txt_lt (ts : List ByteArray) (i t : Nat) : txt ts i t < 256 := getD_lt256 (strN_lt _) t
theorem txt_byt (ts : List ByteArray) (t : Nat) : Byt fun i => txt ts i t := fun i => txt_lt ts i t
theorem getD_getB {ts : List ByteArray} {i : Nat} (h : i < ts.length) : ts.getD i ⟨#[]⟩ = ts[i] := by rw [List.getD_eq_getElem?_getD, List.getElem?_eq_getElem h]; rfl
/-- the texts' sum: the first i of them -/
def comb (len i : Nat) (f : Nat → Nat) (ts : List ByteArray) : List Nat := mapr len fun t => dotN i f fun j => txt ts j t
theorem comb_lt {len i : Nat} {f : Nat → Nat} {ts : List ByteArray} (hf : Byt f) : ∀ c ∈ comb len i f ts, c < 256 := mapr_lt fun _ _ => dot_lt hf
theorem comb_skip {len i : Nat} {f : Nat → Nat} {ts : List ByteArray} (h : f i = 0) : comb len (i + 1) f ts = comb len i f ts := mapr_congr fun t _ => by
  show dotN i f _ ^^^ fmul (f i) _ = _
  rw [h, fmul_zero_left, Nat.xor_zero]
/-- of text i the first k bytes are in -/
def combP (len i k : Nat) (f : Nat → Nat) (ts : List ByteArray) : List Nat := mapr len fun t => if t < k then dotN (i + 1) f fun j => txt ts j t else dotN i f fun j => txt ts j t
theorem combP_zero (len i : Nat) (f : Nat → Nat) (ts : List ByteArray) : combP len i 0 f ts = comb len i f ts := mapr_congr fun t _ => by rw [if_neg (by omega)]
theorem combP_end (len i : Nat) (f : Nat → Nat) (ts : List ByteArray) : combP len i len f ts = comb len (i + 1) f ts := mapr_congr fun t h => by rw [if_pos h]
theorem combP_set (len i k : Nat) (f : Nat → Nat) (ts : List ByteArray) : (combP len i k f ts).set k ((dotN i f fun j => txt ts j k) ^^^ fmul (f i) (txt ts i k)) = combP len i (k + 1) f ts := by
  unfold combP
  rw [mapr_set]
  refine mapr_congr fun t _ => ?_
  by_cases e : t = k
  · rw [if_pos e, if_pos (by omega), e]
    rfl
  · rw [if_neg e]
    by_cases e2 : t < k
    · rw [if_pos e2, if_pos (by omega)]
    · rw [if_neg e2, if_neg (by omega)]
theorem combP_get {len i k : Nat} {f : Nat → Nat} {ts : List ByteArray} (hk : k < len) : (combP len i k f ts).getD k 0 = dotN i f fun j => txt ts j k := by
  unfold combP
  rw [mapr_getD hk, if_neg (by omega)]
set_option maxRecDepth 100000 in
set_option maxHeartbeats 2000000 in
theorem combine_any (Bf n len : Nat) (f : Nat → Nat) (a : Option Addr) (cap : Nat) (ts : List ByteArray) (w : World) (hB : BRow w 5 Bf (mapr n f)) (hf : Byt f) (hS : SAt 1 sC w a ts) (hn : ts.length = n) (hn16 : n ≤ 16) (hlen : len ≤ 4096) (hts : ∀ s ∈ ts, s.size = len) :
    Calls Tryd.prog 14 #[.slice (some ⟨Bf, 0, none⟩) n n, .slice a n cap, .int .i64 len] w fun e w' => e = .returned (.string (strOf (comb len n f ts))) ∧ Below w.heap.size w w' := by
  have hmk := fun (wx : World) => run_make_bytes (P := Tryd.prog) wx 34 5 Tryd.underlying34 infoU8 (len : Int) (by omega) (by omega)
  simp only [Int.toNat_natCast] at hmk
  have z0 : (BRow (w.alloc (.cells (Array.replicate len (bV 0)) 5)) 5 w.heap.size (comb len 0 f ts)) := by
    have := BRow.zeros w 5 len
    rwa [mapr_zero] at this
  have HZ := Lib.hid z0
  have HB0 : Hid (Below w.heap.size w (w.alloc (.cells (Array.replicate len (bV 0)) 5))) := Lib.hid ((Below.refl _ w).alloc (Nat.le_refl _) _)
  have HF := Lib.hid hB
  have HS := Lib.hid hS
  have HT := Lib.hid hts
  clear z0 hB hS hts
  go_enter Tryd.func14, Tryd.ntmps14
  go_wp2_with fail
  clear hmk
  generalize w.alloc (.cells (Array.replicate len (bV 0)) 5) = w1 at *
  have HBB : Hid (w.heap.size ≤ w.heap.size) := Nat.le_refl _
  generalize hBe : w.heap.size = B at HZ HBB ⊢
  have HBE := Lib.hid hBe
  clear hBe
  go_loopw [15] (fun iv wr => ∃ i : Nat, i ≤ n ∧ iv = .int .i64 (i : Int) ∧ Below w.heap.size w wr ∧ BRow wr 5 B (comb len i f ts)) (fun iv _ => n - (intOf iv).toNat)
  case atStart => exact ⟨0, by omega, rfl, HB0.out, HZ.out⟩
  case round =>
    obtain ⟨i, hi, rfl, hbr, hrow⟩ := hrel
    have HBR := Lib.hid hbr
    have HR := Lib.hid hrow
    clear hbr hrow
    by_cases hin : i < n
    · have n1 : (i : Int) < (n : Int) := by omega
      have n0 : (0 : Int) ≤ (i : Int) := by omega
      have hfc := (HF.out.below HBR.out).cell (k := i) (by rw [mapr_length]; exact hin)
      rw [mapr_getD hin] at hfc
      have hfl := hf i
      by_cases h0 : f i = 0
      · have HE := Lib.hid (comb_skip (len := len) (i := i) (ts := ts) h0)
        rw [h0] at hfc
        clear h0 hfl
        go_wp2_with fail
        go_roundw
        case rel => exact ⟨i + 1, by omega, by go_num, HBR.out, by rw [HE.out]; exact HR.out⟩
        case measure => simp [intOf]; omega
      · obtain ⟨x, hx⟩ : ∃ x, f i = x := ⟨_, rfl⟩
        have HX := Lib.hid hx
        rw [hx] at hfc hfl h0
        have z1 : ((x : Int) == 0) = false := by simp; omega
        have z2 : ¬ ((x : Int) = 0) := by omega
        obtain ⟨g, off, rfl, hg⟩ := str_cell (HS.out.below HBR.out) i (by omega)
        have HG := Lib.hid hg
        clear hx h0 hg
        go_wp2_with fail
        go_loopw [23] (fun kv wv => ∃ k : Nat, k ≤ len ∧ kv = .int .i64 (k : Int) ∧ Below w.heap.size w wv ∧ BRow wv 5 B (combP len i k f ts)) (fun kv _ => len - (intOf kv).toNat)
        case atStart => exact ⟨0, by omega, rfl, HBR.out, by rw [combP_zero]; exact HR.out⟩
        case round =>
          obtain ⟨k, hk, rfl, hbv, hrv⟩ := hrel
          have HBV := Lib.hid hbv
          have HV := Lib.hid hrv
          clear hbv hrv
          by_cases hkn : k < len
          · have k1 : (k : Int) < (len : Int) := by omega
            have k0 : (0 : Int) ≤ (k : Int) := by omega
            obtain ⟨g', off', hgg, hg2⟩ := str_cell (HS.out.below HBV.out.drew) i (by omega)
            obtain ⟨rfl, rfl⟩ : g' = g ∧ off' = off := by
              simp only [Option.some.injEq, Addr.mk.injEq, and_true] at hgg
              exact ⟨hgg.1.symm, hgg.2.symm⟩
            have hsz := HT.out (ts[i]'(by omega)) (List.getElem_mem _)
            have htx : txt ts i k = (strN (ts[i]'(by omega))).getD k 0 := by unfold txt; rw [getD_getB]
            obtain ⟨s, hs⟩ : ∃ s, ts[i]'(by omega) = s := ⟨_, rfl⟩
            rw [hs] at hg2 hsz htx
            have ks : k < s.size := by omega
            have hbt := byte_get s k ks
            rw [← htx] at hbt
            have hyl := txt_lt ts i k
            have kS : (k : Int) < (s.size : Int) := by omega
            have iN : (i : Int) < (ts.length : Int) := by omega
            have hcell := HV.out.drew.cell (k := k) (by unfold combP; rw [mapr_length]; exact hkn)
            have hfr := HV.out.drew.frozen k
            rw [combP_get hkn] at hcell
            have hol : (dotN i f fun j => txt ts j k) < 256 := dot_lt hf
            have HST : Hid (∀ u : World, BRow u 5 B (combP len i k f ts) → BRow (u.setCell ⟨B, k, none⟩ (.int .u8 (((dotN i f fun j => txt ts j k) ^^^ fmul (f i) (txt ts i k) : Nat) : Int))) 5 B (combP len i (k + 1) f ts)) := Lib.hid fun u hu => by
              have := hu.set k ((dotN i f fun j => txt ts j k) ^^^ fmul (f i) (txt ts i k))
              rwa [combP_set] at this
            have HVD := Lib.hid HV.out.drew
            have HBD := Lib.hid HBV.out.drew
            rw [HX.out] at HST
            generalize (dotN i f fun j => txt ts j k) = o at *
            generalize txt ts i k = y at *
            have HM := Lib.hid fun wx => (mul_any x y wx hfl hyl).mono (R' := fun e w' => e = .returned (.int .u8 (fmul x y)) ∧ w' = wx) (by rintro e w' ⟨rfl, rfl⟩; exact ⟨rfl, rfl⟩)
            have HXO := Lib.hid (u8_xor_nat o (fmul x y) hol (fmul_lt x y hfl))
            clear hs htx hsz hgg hyl hol
            go_wp2_with fail
            refine wp_region_still_tail 14 (by kernel_rfl) (by kernel_rfl) ?_
            have hw3 : ({ heap := wr.heap, tape := wr.tape, drawn := wr.drawn + 1, os := wr.os, output := wr.output } : World) = wr.drew := rfl
            rw [hw3]
            clear hw3
            generalize wr.drew = w2 at *
            simp only [List.take_succ_cons, List.take_zero, List.drop_succ_cons, List.drop_zero]
            repeat still_step
            still_call (HM.out w2)
            have hxo := HXO.out
            repeat still_step
            refine wpStill_nil ?_
            go_wp2_with fail
            go_roundw
            case rel => exact ⟨k + 1, by omega, by go_num, HBD.out.setCell (by rw [HBE.out]; exact Nat.le_refl _) _, HST.out _ HVD.out⟩
            case measure => simp [intOf]; omega
          · have k1 : ¬ (k : Int) < (len : Int) := by omega
            have HE : Hid (combP len i k f ts = comb len (i + 1) f ts) := by
              show _ = _
              rw [← combP_end]
              congr 1
              omega
            go_wp2_with fail
            go_roundw
            case rel => exact ⟨i + 1, by omega, by go_num, HBV.out, by rw [← HE.out]; exact HV.out⟩
            case measure => simp [intOf]; omega
    · have n1 : ¬ (i : Int) < (n : Int) := by omega
      have hie : i = n := by omega
      subst hie
      have hst := fun (u : World) (hu : BRow u 5 B (comb len i f ts)) => run_string_of_row (P := Tryd.prog) u 34 5 9 Tryd.underlying34 Tryd.underlying5 Tryd.underlying9 B _ hu (comb_lt hf) len
      have hl : (comb len i f ts).length = len := mapr_length _ _
      rw [hl] at hst
      have hcv := hst _ HR.out
      clear hst
      go_wp2_with fail
      go_ret
      exact ⟨rfl, HBR.out⟩
end Go.Proofs.YtigdpmeeibkifaaDoor
