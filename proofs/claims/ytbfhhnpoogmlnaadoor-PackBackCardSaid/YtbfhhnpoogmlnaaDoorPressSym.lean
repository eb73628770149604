/- Press: a symbol, read bit by bit. -/
import Derived.Test.YtbfhhnpoogmlnaaDoorPressLen
namespace Go.Proofs.YtbfhhnpoogmlnaaDoor
open Go.RowKit Plain
set_option linter.unusedVariables false
set_option linter.unusedSimpArgs false
/-- a reader's state: no bits are left just when there is no byte -/
def RdOk (s : ByteArray) (k : Nat) : Prop := k ≤ 8 ∧ (0 < k ↔ 0 < s.size)
theorem bit_lt (s : ByteArray) (k : Nat) : bitOf s k < 2 := Nat.mod_lt _ (by decide)
/-- the bit that is read is the first of the stream; the rest is left -/
theorem strm_bit {s : ByteArray} {k : Nat} (h : RdOk s k) (hk : 0 < k) :
    strm (strN s) k = bitOf s k :: (if k = 1 then strm (strN (s.extract 1 s.size)) (if s.size = 1 then 0 else 8) else strm (strN s) (k - 1)) ∧
    (if k = 1 then RdOk (s.extract 1 s.size) (if s.size = 1 then 0 else 8) else RdOk s (k - 1)) := by
  obtain ⟨j, rfl⟩ : ∃ j, k = j + 1 := ⟨k - 1, by omega⟩
  have hs := h.2.1 hk
  have hc := strN_cons s hs
  have hb : bitOf s (j + 1) = (s[0]'hs).toNat / 2 ^ j % 2 := by unfold bitOf; rw [byte0 hs, Nat.add_sub_cancel]
  have hx : (s.extract 1 s.size).size = s.size - 1 := by rw [← strN_length, extract_strN, List.length_drop, strN_length]
  have h8 := h.1
  constructor
  · rw [hc, strm_succ, hb]
    congr 1
    by_cases hj : j = 0
    · subst hj
      rw [if_pos rfl, strm_zero, extract_strN]
      by_cases h1 : s.size = 1
      · have : (strN s).drop 1 = [] := by apply List.eq_nil_of_length_eq_zero; rw [List.length_drop, strN_length]; omega
        rw [this]; rfl
      · rw [if_neg h1]
    · rw [if_neg (by omega), ← hc, Nat.add_sub_cancel]
  · by_cases hj : j = 0
    · subst hj
      rw [if_pos rfl]
      unfold RdOk
      rw [hx]
      by_cases h1 : s.size = 1
      · rw [if_pos h1]; omega
      · rw [if_neg h1]; omega
    · rw [if_neg (by omega)]
      exact ⟨by omega, by omega⟩
theorem strm_none {s : ByteArray} (h : RdOk s 0) : strm (strN s) 0 = [] := by
  have : s.size = 0 := by have := h.2; omega
  have e : strN s = [] := by apply List.eq_nil_of_length_eq_zero; rw [strN_length]; exact this
  rw [e]; rfl
theorem or_bit (c b : Nat) (hc : c < 140737488355328) (hb : b < 2) : bits .or .i64 ((c : Int) * 2) (b : Int) = ((2 * c + b : Nat) : Int) := by
  have e : (c : Int) * 2 = (((2 ^ 1 * c : Nat)) : Int) := by simp; omega
  rw [e, i64_or_nat _ b (by omega) (by omega), ← Nat.two_pow_add_eq_or_of_lt (i := 1) (by simpa using hb) c]
def msym (B : Nat) (w : World) : Nat := match w.cell? ⟨B, 1, none⟩ with
  | some (.int _ n) => 48 - n.toNat
  | _ => 0
theorem msym_row {w : World} {B n : Nat} {v : Value} {T : TypeId} {fr : Nat × Nat} (h : w.heap[B]? = some (.cells #[v, .int .i64 (n : Int)] T fr)) : msym B w = 48 - n := by
  have c1 := cell_of_row _ _ 1 _ _ _ h
  unfold msym
  rw [c1]
  simp
def SyEnd (o : Nat) (es : List CE) (s : ByteArray) (k : Nat) (w0 : World) (e : Ending) (w : World) : Prop :=
  w0.grownBy w (some o) ∧ ∃ s' k', RdAt o s' k' w ∧ RdOk s' k' ∧ s'.size ≤ s.size ∧ e = .returned (.tuple #[.int .u8 (((syP es 48 0 0 (strm (strN s) k)).2.1 : Nat) : Int), .int .i64 (((syP es 48 0 0 (strm (strN s) k)).1 : Nat) : Int)]) ∧
    ((syP es 48 0 0 (strm (strN s) k)).1 = 0 → strm (strN s') k' = (syP es 48 0 0 (strm (strN s) k)).2.2)
theorem SyEnd.of {o : Nat} {es : List CE} {s : ByteArray} {k : Nat} {w0 w : World} {s' : ByteArray} {k' : Nat} {c x : Nat} {r : List Nat} (hR : syP es 48 0 0 (strm (strN s) k) = (c, x, r)) (hg : w0.grownBy w (some o)) (hr : RdAt o s' k' w) (hok : RdOk s' k') (hs : s'.size ≤ s.size) (hc : c = 0 → strm (strN s') k' = r) :
    SyEnd o es s k w0 (.returned (.tuple #[.int .u8 (x : Int), .int .i64 (c : Int)])) w :=
  ⟨hg, s', k', hr, hok, hs, by rw [hR], by rw [hR]; exact hc⟩
theorem grown_alloc {w u : World} {x : Option Nat} (h : w.grownBy u x) (o : Obj) : w.grownBy (u.alloc o) x := ⟨h.os, h.tape, h.output, Nat.le_trans h.size (by simp), fun k hk hx => (Below.heap_alloc u o k (Nat.lt_of_lt_of_le hk h.size)).trans (h.block k hk hx)⟩
theorem grown_setCellsP {w u : World} {x : Option Nat} (h : w.grownBy u x) {B : Nat} (hB : w.heap.size ≤ B) (o : Nat) (vs : List Value) : w.grownBy (u.setCells B o vs) x := by
  have hb : Below w.heap.size u (u.setCells B o vs) := below_setCells hB _ _ (Below.refl _ _)
  exact ⟨hb.os.trans h.os, hb.tape.trans h.tape, hb.output.trans h.output, Nat.le_trans h.size hb.size, fun k hk hx => (hb.block k hk).trans (h.block k hk hx)⟩
set_option maxRecDepth 100000 in
set_option maxHeartbeats 4000000 in
theorem symbol_any (o mb : Nat) (es : List CE) (s : ByteArray) (k : Nat) (w : World) (h : RdAt o s k w) (hmb : w.heap[mb]? = some (mcO es)) (hok : RdOk s k) (hs : s.size ≤ 9223372036854775807) :
    Calls Tryd.prog 115 #[.pointer (some ⟨o, 0, none⟩), .map (some mb)] w (SyEnd o es s k w) := by
  have hlo := lt_of_block h
  have hlm : mb < w.heap.size := by
    rcases Nat.lt_or_ge mb w.heap.size with h | h
    · exact h
    · rw [Array.getElem?_eq_none h] at hmb; cases hmb
  have hmo : mb ≠ o := by
    intro e
    subst e
    rw [h] at hmb
    cases hmb
  have hBO : w.heap.size ≠ o := by omega
  have HLO := Lib.hid hlo
  have HLM := Lib.hid hlm
  have HMO := Lib.hid hmo
  have HBO := Lib.hid hBO
  have HMB := Lib.hid hmb
  have HRD := Lib.hid (h.below ((Below.refl w.heap.size w).alloc (Nat.le_refl _) (.cells #[.int .i64 0, .int .i64 0] 197)))
  have HR0 := Lib.hid (heap_alloc_new w (.cells #[.int .i64 0, .int .i64 0] 197))
  have HG0 := Lib.hid (grown_alloc (grown_refl w (some o)) (.cells #[.int .i64 0, .int .i64 0] 197))
  have HOK := Lib.hid hok
  obtain ⟨R, hR⟩ : ∃ R, syP es 48 0 0 (strm (strN s) k) = R := ⟨_, rfl⟩
  have HRR := Lib.hid hR
  clear hR h hmb hok hmo hBO hlo hlm
  go_enter Tryd.func115, Tryd.ntmps115
  go_wp2_with fail
  go_loopw [] (fun wr => ∃ (n c : Nat) (s' : ByteArray) (k' : Nat), n ≤ 48 ∧ c < 2 ^ n ∧ s'.size ≤ s.size ∧ RdAt o s' k' wr ∧ RdOk s' k' ∧ syP es (48 - n) c n (strm (strN s') k') = R ∧ wr.heap[w.heap.size]? = some (.cells #[.int .i64 (c : Int), .int .i64 (n : Int)] 197 (0, 0)) ∧ w.grownBy wr (some o)) (fun wr => msym w.heap.size wr)
  case atStart => exact ⟨0, 0, s, k, by omega, by decide, Nat.le_refl _, HRD.out, HOK.out, HRR.out, HR0.out, HG0.out⟩
  case round =>
    obtain ⟨n, c, s', k', hn, hc, hx, hr, hok, hsy, hrow, hg⟩ := hrel
    have HC := Lib.hid hc
    have HX := Lib.hid hx
    have HQ := Lib.hid hr
    have HK := Lib.hid hok
    have HSY := Lib.hid hsy
    have HROW := Lib.hid hrow
    have HG := Lib.hid hg
    have c0 := cell_of_row _ _ 0 _ _ _ hrow
    have c1 := cell_of_row _ _ 1 _ _ _ hrow
    simp only [List.getElem?_toArray, List.getElem?_cons_succ, List.getElem?_cons_zero] at c0 c1
    clear hc hx hr hok hsy hrow hg HRD HR0 HG0 HOK
    by_cases h48 : n = 48
    · subst h48
      have HE : Hid (R = (4, 0, strm (strN s') k')) := by show _ = _; rw [← HSY.out]; exact syP_end _ _ _ _
      rw [show ((48 : Nat) : Int) = 48 from rfl] at c1
      go_wp2_with fail
      go_ret2
      exact SyEnd.of (c := 4) (x := 0) (by rw [HRR.out, HE.out]) HG.out HQ.out HK.out HX.out (fun h => absurd h (by decide))
    · have z1 : ((n : Int) == 48) = false := by simp; omega
      have HF : Hid (48 - n = (48 - (n + 1)) + 1) := by show _ = _; omega
      have hn47 : n ≤ 47 := by omega
      have HN := Lib.hid hn47
      clear h48
      go_wp2_with fail
      refine (bit_any o s' k' _ HQ.out HK.out.2.1 HK.out.1 (by have := HX.out; omega)).mono ?_
      rintro e w1 hbt
      by_cases hk0 : k' = 0
      · subst hk0
        unfold BtEnd at hbt
        rw [if_pos rfl] at hbt
        obtain ⟨rfl, rfl⟩ := hbt
        have HE : Hid (R = (3, 0, [])) := by show _ = _; rw [← HSY.out, strm_none HK.out, HF.out]; exact syP_short _ _ _ _
        go_wp2_with fail
        go_ret2
        exact SyEnd.of (c := 3) (x := 0) (by rw [HRR.out, HE.out]) HG.out HQ.out HK.out HX.out (fun h => absurd h (by decide))
      · unfold BtEnd at hbt
        rw [if_neg hk0] at hbt
        obtain ⟨rfl, hg1, hr1⟩ := hbt
        have hst := strm_bit HK.out (Nat.pos_of_ne_zero hk0)
        obtain ⟨b, hb⟩ : ∃ b, bitOf s' k' = b := ⟨_, rfl⟩
        have hb2 : b < 2 := hb ▸ bit_lt s' k'
        rw [hb] at hst ⊢
        obtain ⟨y, j, hry, hyk, hys, hyl⟩ : ∃ y j, RdAt o y j w1 ∧ RdOk y j ∧ strm (strN s') k' = b :: strm (strN y) j ∧ y.size ≤ s'.size := by
          by_cases h1 : k' = 1
          · rw [if_pos h1] at hr1
            rw [if_pos h1, if_pos h1] at hst
            refine ⟨_, _, hr1, hst.2, hst.1, ?_⟩
            rw [← strN_length, extract_strN, List.length_drop, strN_length]; omega
          · rw [if_neg h1] at hr1
            rw [if_neg h1, if_neg h1] at hst
            exact ⟨_, _, hr1, hst.2, hst.1, Nat.le_refl _⟩
        have HG1 := Lib.hid (Lib.grownBy_trans HG.out hg1)
        have hsz : w.heap.size < wr.heap.size := lt_of_block HROW.out
        have hrow1 : w1.heap[w.heap.size]? = some (.cells #[.int .i64 (c : Int), .int .i64 (n : Int)] 197 (0, 0)) := (hg1.block _ hsz (by have := HBO.out; simpa using this)).trans HROW.out
        have HROW1 := Lib.hid hrow1
        have d0 := cell_of_row _ _ 0 _ _ _ hrow1
        have d1 := cell_of_row _ _ 1 _ _ _ hrow1
        simp only [List.getElem?_toArray, List.getElem?_cons_succ, List.getElem?_cons_zero] at d0 d1
        have HY := Lib.hid hyk
        have HYS := Lib.hid hys
        have HYL := Lib.hid hyl
        have HRY := Lib.hid hry
        clear hst hr1 hg1 hrow1 hyk hys hyl hry hk0 hb
        have hcb : c < 140737488355328 := Nat.lt_of_lt_of_le HC.out (Nat.le_trans (Nat.pow_le_pow_right (by decide) HN.out) (by decide))
        have g0 : (0 : Int) ≤ (c : Int) := Int.natCast_nonneg _
        have g1 : (c : Int) < 140737488355328 := by omega
        obtain ⟨v, hv⟩ : ∃ v : Nat, 2 * c + b = v := ⟨_, rfl⟩
        have ho1 := or_bit c b hcb hb2
        rw [hv] at ho1
        have HV := Lib.hid hv
        clear hv
        have HB2 := Lib.hid hb2
        have HCB := Lib.hid hcb
        clear hcb hb2 hn47
        have HTH : Hid (w1.there w.heap.size 0 (#[.int .i64 (v : Int), .int .i64 ((n : Int) + 1)] : Array Value).size) := there_part HROW1.out (by show 0 + 2 ≤ 2; omega)
        have HI2 : Hid ((Tryd.prog.info? 197).map (·.size) = some (#[.int .i64 (v : Int), .int .i64 ((n : Int) + 1)] : Array Value).size) := by show (Tryd.prog.info? 197).map (·.size) = some 2; kernel_rfl
        have HO2 : Hid ((#[.int .i64 (v : Int), .int .i64 ((n : Int) + 1)] : Array Value).all (·.oneCell') = true) := by show _ = _; simp [Value.oneCell']
        have hn1 : IntKind.i64.wrap ((n : Int) + 1) = (n : Int) + 1 := by have := HN.out; rw [IntKind.wrap_i64]; omega
        have hrow2 : (w1.setCells w.heap.size 0 [.int .i64 (v : Int), .int .i64 ((n : Int) + 1)]).heap[w.heap.size]? = some (.cells #[.int .i64 (v : Int), .int .i64 ((n : Int) + 1)] 197 (0, 0)) := row_full (ns := #[.int .i64 (v : Int), .int .i64 ((n : Int) + 1)]) HROW1.out rfl
        have HROW2 := Lib.hid hrow2
        have HRD2 : Hid (RdAt o y j (w1.setCells w.heap.size 0 [.int .i64 (v : Int), .int .i64 ((n : Int) + 1)])) := (heap_setCells_other _ _ (by have := HBO.out; omega) _ _ _).trans HRY.out
        have HG2 : Hid (w.grownBy (w1.setCells w.heap.size 0 [.int .i64 (v : Int), .int .i64 ((n : Int) + 1)]) (some o)) := grown_setCellsP HG1.out (Nat.le_refl _) _ _
        have hmb2 : (w1.setCells w.heap.size 0 [.int .i64 (v : Int), .int .i64 ((n : Int) + 1)]).heap[mb]? = some (mcO es) := (HG2.out.block mb HLM.out (by have := HMO.out; simpa using this)).trans HMB.out
        have hlk := look_code hmb2 (v, n + 1)
        unfold kcV at hlk
        rw [show (((v, n + 1) : Nat × Nat).2 : Int) = (n : Int) + 1 from rfl, show (((v, n + 1) : Nat × Nat).1 : Int) = (v : Int) from rfl] at hlk
        have e0 := cell_of_row _ _ 0 _ _ _ hrow2
        have e1 := cell_of_row _ _ 1 _ _ _ hrow2
        simp only [List.getElem?_toArray, List.getElem?_cons_succ, List.getElem?_cons_zero] at e0 e1
        clear hrow2 hmb2
        cases hq : lk es (v, n + 1) with
        | some x =>
          rw [hq] at hlk
          simp only [Option.getD_some, Option.isSome_some] at hlk
          have HE : Hid (R = (0, x, strm (strN y) j)) := by show _ = _; rw [← HSY.out, HYS.out, HF.out]; exact syP_hit (by rw [HV.out]; exact hq)
          clear hq
          go_wp2_with (with_reducible refine wpList_store_mid rfl 197 (.tmp 6) (.tmp 30) rfl w.heap.size 0 #[.int .i64 (v : Int), .int .i64 ((n : Int) + 1)] rfl rfl HTH.out HI2.out HO2.out ?_)
          go_ret2
          exact SyEnd.of (c := 0) (x := x) (by rw [HRR.out, HE.out]) HG2.out HRD2.out HY.out (by have := HX.out; have := HYL.out; omega) (fun _ => rfl)
        | none =>
          rw [hq] at hlk
          simp only [Option.getD_none, Option.isSome_none] at hlk
          have HE : Hid (syP es (48 - (n + 1)) v (n + 1) (strm (strN y) j) = R) := by show _ = _; rw [← HSY.out, HYS.out, HF.out, syP_miss (by rw [HV.out]; exact hq), HV.out]
          clear hq
          go_wp2_with (with_reducible refine wpList_store_mid rfl 197 (.tmp 6) (.tmp 30) rfl w.heap.size 0 #[.int .i64 (v : Int), .int .i64 ((n : Int) + 1)] rfl rfl HTH.out HI2.out HO2.out ?_)
          go_roundw
          case rel => exact ⟨n + 1, v, y, j, by have := HN.out; omega, by have := HC.out; have := HV.out; have := HB2.out; rw [Nat.pow_succ]; omega, by have := HX.out; have := HYL.out; omega, HRD2.out, HY.out, HE.out, HROW2.out, HG2.out⟩
          case measure => rw [msym_row (n := n + 1) HROW2.out, msym_row (n := n) HROW.out]; have h47 : n ≤ 47 := HN.out; omega
end Go.Proofs.YtbfhhnpoogmlnaaDoor
