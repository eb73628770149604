/- The walk of DiskTorn. -/
import Derived.Test.YtmnmgoafemnppaaDiskCalmW
import Derived.Deep.QuietTactic
import Derived.BigQuiet
namespace Go.Proofs.Ytmnmgoafemnppaa
open Go.RowKit Plain Go.Maps
set_option linter.unusedVariables false
set_option linter.unusedSimpArgs false
/-- a deed that wrote a text that begins so -/
def wroteB (t : TB) (m : MD) : Bool := decide (m.1 = 1) && Lib.hasPrefix (bT m.2.2.1) t
/-- what the closure stands on: the row of strings behind B1's cell, the index in B2 -/
def ClW (w : World) (B1 B2 : Nat) (oa : Option Addr) (oc : Nat) (l : List TB) (j : Nat) : Prop := w.heap[B1]? = some (.cells #[.slice oa l.length oc] 30 (0, 0)) ∧ w.heap[B2]? = some (.cells #[.int .i64 (j : Int)] 3 (0, 0)) ∧ SAt 1 sTB w oa l
theorem ClW.below {w w' : World} {B1 B2 : Nat} {oa : Option Addr} {oc : Nat} {l : List TB} {j : Nat} (h : ClW w B1 B2 oa oc l j) (hb : Below w.heap.size w w') : ClW w' B1 B2 oa oc l j := ⟨(hb.block _ (lt_of_block h.1)).trans h.1, (hb.block _ (lt_of_block h.2.1)).trans h.2.1, h.2.2.below hb⟩
set_option maxRecDepth 100000 in
set_option maxHeartbeats 4000000 in
theorem torn1_any (m : MD) (B1 B2 : Nat) (oa : Option Addr) (oc : Nat) (l : List TB) (j : Nat) (hj : j < l.length) (hl : l.length ≤ oc) (w : World) (h : ClW w B1 B2 oa oc l j) :
    Calls Try.prog 17 #[.agg (mdC m).toArray, .pointer (some ⟨B1, 0, none⟩), .pointer (some ⟨B2, 0, none⟩)] w fun e w' => e = .returned (.bool (wroteB l[j] m)) ∧ Below w.heap.size w w' := by
  obtain ⟨k, nm, tx, n, ka, kc, K⟩ := m
  have HAL := Lib.hid ((Below.refl w.heap.size w).alloc (Nat.le_refl _) (.cells #[.int .i64 k, .string nm, .string tx, .int .i64 n, .slice ka K.length kc] 37))
  have hX := heap_alloc_new w (.cells #[.int .i64 k, .string nm, .string tx, .int .i64 n, .slice ka K.length kc] 37)
  have x0 := cell_of_row _ w.heap.size 0 _ _ _ hX
  have x2 := cell_of_row _ w.heap.size 2 _ _ _ hX
  simp only [List.getElem?_toArray, List.getElem?_cons_zero, List.getElem?_cons_succ] at x0 x2
  have h2 := h.below HAL.out
  have b1 := cell_of_row _ B1 0 _ _ _ h2.1
  have b2 := cell_of_row _ B2 0 _ _ _ h2.2.1
  simp only [List.getElem?_toArray, List.getElem?_cons_zero] at b1 b2
  obtain ⟨g, off, rfl, hg, hr⟩ := h2.2.2 j hj
  have y0 := hr 0 _ rfl
  simp only [Nat.add_zero, Nat.mul_one] at y0
  have m1 : (j : Int) < (l.length : Int) := by omega
  have m2 : (0 : Int) ≤ (j : Int) := Int.natCast_nonneg _
  have HP := fun (W : World) => Try.strings_HasPrefix tx (tB l[j]) W
  have HW : Hid (wroteB l[j] (k, nm, tx, n, ka, kc, K) = (decide (k = 1) && Lib.hasPrefix (bT tx) l[j])) := Lib.hid rfl
  rw [show (tB l[j]).data.toList = l[j] from bT_tB _] at HP
  have HPP := Lib.hid HP
  unfold mdC
  simp only
  clear hr h h2 hX HP
  generalize l[j] = t at *
  by_cases hk : k = 1
  · subst hk
    go_enter Try.func17, Try.ntmps17
    go_wp2_with fail
    generalize (w.alloc (.cells #[.int .i64 1, .string nm, .string tx, .int .i64 n, .slice ka K.length kc] 37)) = w1 at *
    go_quiet (with_reducible refine Calls.quiet_of_same (HPP.out _))
    go_wp2_with fail
    go_ret
    exact ⟨by rw [HW.out]; rfl, below_dn HAL.out _⟩
  · have f1 : (k == 1) = false := by simpa using hk
    have HD : Hid (decide (k = 1) = false) := Lib.hid (decide_eq_false hk)
    clear hk
    go_enter Try.func17, Try.ntmps17
    go_wp2_with fail
    generalize (w.alloc (.cells #[.int .i64 k, .string nm, .string tx, .int .i64 n, .slice ka K.length kc] 37)) = w1 at *
    go_quiet (fail)
    go_wp2_with fail
    go_ret
    exact ⟨by rw [HW.out, HD.out]; rfl, below_dn HAL.out _⟩
def IxD (w : World) (L : List MD) (t : TB) (e : Ending) (w' : World) : Prop := ∃ r : Int, e = .returned (.int .i64 r) ∧ decide (0 ≤ r) = L.any (wroteB t) ∧ Below w.heap.size w w'
set_option maxRecDepth 100000 in
set_option maxHeartbeats 4000000 in
theorem indexD_any (a : Option Addr) (cap : Nat) (L : List MD) (B1 B2 : Nat) (oa : Option Addr) (oc : Nat) (l : List TB) (j : Nat) (hj : j < l.length) (hl : l.length ≤ oc) (w : World) (h : ClW w B1 B2 oa oc l j) (hs : SAt 5 mdC w a L) (hL : L.length ≤ 1960000000000) :
    Calls Try.prog 29 #[.slice a L.length cap, .func (.func 17) #[] #[.pointer (some ⟨B1, 0, none⟩), .pointer (some ⟨B2, 0, none⟩)]] w (IxD w L l[j]) := by
  have HS := Lib.hid hs
  have HC := Lib.hid fun m u (hb : Below w.heap.size w u) => torn1_any m B1 B2 oa oc l j hj hl u (h.below hb)
  have hl63 : (L.length : Int) ≤ 1960000000000 := by omega
  clear h hs hL
  generalize l[j] = t at *
  go_enter Try.func29, Try.ntmps29
  go_wp2_with fail
  go_loopw [8] (fun iv wr => ∃ i : Nat, i ≤ L.length ∧ iv = .int .i64 (i : Int) ∧ Hid (Below w.heap.size w wr) ∧ Hid ((L.take i).any (wroteB t) = false)) (fun iv _ => L.length - (intOf iv).toNat)
  case atStart => exact ⟨0, by omega, rfl, Lib.hid (Below.refl _ _), Lib.hid rfl⟩
  case round =>
    obtain ⟨i, hi, rfl, HBR, HP⟩ := hrel
    have m0 : (0 : Int) ≤ (i : Int) := Int.natCast_nonneg _
    by_cases hil : i < L.length
    · have m1 : (i : Int) < (L.length : Int) := by omega
      obtain ⟨g, off, rfl, hg, hr⟩ := (HS.out.below HBR.out) i hil
      have y0 := hr 0 _ rfl
      have y1 := hr 1 _ rfl
      have y2 := hr 2 _ rfl
      have y3 := hr 3 _ rfl
      have y4 := hr 4 _ rfl
      simp only [Nat.add_zero] at y0
      have HT : Hid ((L.take (i + 1)).any (wroteB t) = wroteB t L[i]) := Lib.hid (by rw [List.take_succ_eq_append_getElem hil, List.any_append, HP.out]; simp)
      have HA : Hid (wroteB t L[i] = true → L.any (wroteB t) = true) := Lib.hid (fun h => List.any_eq_true.2 ⟨_, List.getElem_mem hil, h⟩)
      have i9 : (i : Int) < 1960000000000 := by omega
      clear hg hr
      generalize L[i] = m at *
      obtain ⟨k, nm, tx, nn, ka, kc, K⟩ := m
      have HCX := Lib.hid (HC.out (k, nm, tx, nn, ka, kc, K) _ HBR.out)
      simp only [mdC] at HCX
      generalize wroteB t (k, nm, tx, nn, ka, kc, K) = b at *
      go_wp2_with fail
      refine HCX.out.mono ?_
      rintro e w1 ⟨rfl, hb1⟩
      have HB1 := Lib.hid (Below.step HBR.out hb1)
      clear hb1 HCX
      cases b with
      | true =>
        have HQ := Lib.hid (HA.out rfl)
        go_wp2_with fail
        go_ret
        exact ⟨_, rfl, by rw [HQ.out]; exact decide_eq_true m0, HB1.out⟩
      | false =>
        go_wp2_with fail
        go_roundw
        case rel => exact ⟨i + 1, by omega, by go_num, HB1, HT⟩
        case measure => simp [intOf]; omega
    · have m1 : ¬ (i : Int) < (L.length : Int) := by omega
      obtain rfl : i = L.length := by omega
      rw [List.take_length] at HP
      go_wp2_with fail
      go_ret
      exact ⟨_, rfl, by rw [HP.out]; rfl, HBR.out⟩
set_option maxRecDepth 100000 in
set_option maxHeartbeats 4000000 in
theorem containsD_any (a : Option Addr) (cap : Nat) (L : List MD) (B1 B2 : Nat) (oa : Option Addr) (oc : Nat) (l : List TB) (j : Nat) (hj : j < l.length) (hl : l.length ≤ oc) (w : World) (h : ClW w B1 B2 oa oc l j) (hs : SAt 5 mdC w a L) (hL : L.length ≤ 1960000000000) :
    Calls Try.prog 16 #[.slice a L.length cap, .func (.func 17) #[] #[.pointer (some ⟨B1, 0, none⟩), .pointer (some ⟨B2, 0, none⟩)]] w fun e w' => e = .returned (.bool (L.any (wroteB l[j]))) ∧ Below w.heap.size w w' := by
  have HC := Lib.hid (indexD_any a cap L B1 B2 oa oc l j hj hl w h hs hL)
  clear h hs hL
  generalize l[j] = t at *
  go_enter Try.func16, Try.ntmps16
  go_wp2_with fail
  refine HC.out.mono ?_
  rintro e w1 ⟨r, rfl, hr, hb⟩
  have HB := Lib.hid hb
  have HR := Lib.hid hr
  clear hr hb HC
  by_cases h0 : 0 ≤ r
  · go_wp2_with fail
    go_ret
    exact ⟨by rw [← HR.out, decide_eq_true h0]; rfl, HB.out⟩
  · go_wp2_with fail
    go_ret
    exact ⟨by rw [← HR.out]; rfl, HB.out⟩
/-- all that a torn disk shows was written -/
theorem torn_shows {L : List MD} {d : Dst} (h : ReachD (L.map ddOf) d) (K : List Int) {ks : List TB} (hk : KS (d.crash K).F ks) {j : Nat} (hj : j < ks.length) : L.any (wroteB (rdF (d.crash K).F ks[j])) = true := by
  have ht : Torn (fun t => ∃ m ∈ L, m.1 = 1 ∧ t = bT m.2.2.1) d := by
    refine h _ ⟨?_, ?_, ?_⟩ (fun d x e d' hx hd hs => torn_step hd (fun h1 => ?_) hs)
    · intro k v hv; cases hv
    · intro k v hv; cases hv
    · intro c hc; cases hc
    · obtain ⟨m, hm, rfl⟩ := List.mem_map.1 hx
      exact ⟨m, hm, h1, rfl⟩
  have hc := (ht.crash K).1
  have hm := (hk.2.1 ks[j]).1 (List.getElem_mem hj)
  obtain ⟨v, hv⟩ := Option.isSome_iff_exists.1 hm
  obtain ⟨t, ⟨m, hmL, h1, rfl⟩, hp⟩ := hc _ _ hv
  refine List.any_eq_true.2 ⟨m, hmL, ?_⟩
  unfold wroteB Lib.hasPrefix
  rw [decide_eq_true h1, Bool.true_and, List.isPrefixOf_iff_prefix]
  unfold rdF
  split
  · rw [hv]; exact hp
  · exact List.nil_prefix
theorem flF_odd (F : Fm) : ∀ (ks : List TB) (j : Nat) (hj : j < ks.length) (h : 2 * j + 1 < (flF F ks).length), (flF F ks)[2 * j + 1] = rdF F ks[j]
  | k :: ks, 0, _, _ => rfl
  | k :: ks, j + 1, hj, h => by
    have e : flF F (k :: ks) = k :: rdF F k :: flF F ks := by unfold flF; rw [List.flatMap_cons]; rfl
    simp only [e, show 2 * (j + 1) + 1 = (2 * j + 1) + 1 + 1 from by omega, List.getElem_cons_succ]
    exact flF_odd F ks j (by simpa using hj) _
def boxN (v : Value) (w : World) : Nat := match v with
  | .pointer (some p) => match w.cell? p with
    | some (.int _ k) => k.toNat
    | _ => 0
  | _ => 0
theorem boxN_eq {B : Nat} {w : World} {n : Int} {t : TypeId} (h : w.heap[B]? = some (.cells #[.int .i64 n] t (0, 0))) : boxN (.pointer (some ⟨B, 0, none⟩)) w = n.toNat := by
  have := cell_of_row _ B 0 _ _ _ h
  simp only [List.getElem?_toArray, List.getElem?_cons_zero] at this
  unfold boxN
  simp only [this]
set_option maxRecDepth 100000 in
set_option maxHeartbeats 8000000 in
theorem diskTorn_any (a : Option Addr) (cap : Nat) (L : List MD) (ka : Option Addr) (kc : Nat) (K : List Int) (w : World) (h : SAt 5 mdC w a L) (hm : ∀ m ∈ L, MdOk w m) (hl : L.length ≤ 1960000000000) (hk : SAt 1 iC w ka K) (hkl : K.length ≤ 9223372036854775807) (hki : ∀ k ∈ K, I64 k) :
    Calls Try.prog 6 #[.slice a L.length cap, .slice ka K.length kc] w fun e w' => e = .returned (.bool true) ∧ Below w.heap.size w w' := by
  have HST := Lib.hid (stored_any w)
  have HPL := Lib.hid fun (W : World) (hb : Below w.heap.size w W) => played_any a cap L h hm (by omega) hb
  have HKK := Lib.hid fun (W : World) (hb : Below w.heap.size w W) => hk.below hb
  have HKI := Lib.hid hki
  have HLN := Lib.hid hl
  have HKL := Lib.hid hkl
  have HS := Lib.hid h
  clear h hm hk hki
  go_enter Try.func6, Try.ntmps6
  go_wp2_with fail
  refine HST.out.mono ?_
  rintro e w1 ⟨rfl, hb⟩
  have HB1 := Lib.hid hb
  clear hb HST
  go_wp2_with fail
  refine (HPL.out w1 HB1.out).mono ?_
  rintro e w2 ⟨p, d, rfl, hds, hrc, hf⟩
  have HD2 := Lib.hid hds
  have HB2 := Lib.hid (HB1.out.trans hf.1)
  have HRC := Lib.hid hrc
  clear hds hf HPL HB1 hrc
  have HCR := Lib.hid (crash_any ka kc K (fun X hX => HKK.out X (HB2.out.trans hX.1)) HKL.out HKI.out (by have := HLN.out; omega) HD2.out)
  go_wp2_with fail
  refine HCR.out.mono ?_
  rintro e w6 ⟨hf, rfl, hds⟩
  have HD6 := Lib.hid hds
  have HB6 := Lib.hid (HB2.out.trans hf.1)
  clear hds hf HCR HB2 HD2
  have HFL := Lib.hid (files_any (by have := HLN.out; omega) HD6.out)
  go_wp2_with fail
  refine HFL.out.mono ?_
  rintro e w7 ⟨hb, ks, fa, fc, hks, rfl, ho⟩
  obtain ⟨hn1, hn2⟩ := ks_facts HD6.out (hks rfl)
  have HN2 : Hid (ks.length ≤ 1960000000000) := Lib.hid (by have := HLN.out; omega)
  have HB7 := Lib.hid (Below.step HB6.out hb)
  obtain ⟨a1, c1, e1, hc1, hc2, hs1⟩ := SAt.own ho sTB_length
  injection e1 with e1 _ e3
  subst e1
  subst e3
  have HS7 := Lib.hid hs1
  have HCC := Lib.hid hc1
  have HAN : Hid (∀ (j : Nat) (hj : 2 * j + 1 < (flF (d.crash K).F ks).length), L.any (wroteB (flF (d.crash K).F ks)[2 * j + 1]) = true) := Lib.hid fun j hj => by
    have hj2 : j < ks.length := by rw [flF_length] at hj; omega
    rw [flF_odd _ ks j hj2 hj]
    exact torn_shows HRC.out K (hks rfl) hj2
  have HLE := Lib.hid (flF_length (d.crash K).F ks)
  have n63 : ((flF (d.crash K).F ks).length : Int) ≤ 4000000000000 := by have := HLE.out; have := HN2.out; omega
  clear hb hks ho hn1 hn2 hc1 hc2 hs1 HFL HB6 HD6 HRC
  generalize flF (d.crash K).F ks = l at *
  have HAL := Lib.hid ((Below.refl w7.heap.size w7).alloc (Nat.le_refl _) (.cells #[.slice fa l.length fc] 30))
  have HX1 := Lib.hid (heap_alloc_new w7 (.cells #[.slice fa l.length fc] 30))
  have HAL2 := Lib.hid (HAL.out.alloc HAL.out.size (.cells #[.int .i64 1] 3))
  have HX2 : Hid (((w7.alloc (.cells #[.slice fa l.length fc] 30)).alloc (.cells #[.int .i64 1] 3)).heap[w7.heap.size + 1]? = some (.cells #[.int .i64 1] 3 (0, 0))) := Lib.hid (by have := heap_alloc_new (w7.alloc (.cells #[.slice fa l.length fc] 30)) (.cells #[.int .i64 1] 3); simpa using this)
  have HX3 : Hid (((w7.alloc (.cells #[.slice fa l.length fc] 30)).alloc (.cells #[.int .i64 1] 3)).heap[w7.heap.size]? = some (.cells #[.slice fa l.length fc] 30 (0, 0))) := Lib.hid (((Below.refl (w7.alloc (.cells #[.slice fa l.length fc] 30)).heap.size _).alloc (Nat.le_refl _) _).block _ (lt_of_block HX1.out) |>.trans HX1.out)
  have HAQ : Hid (∀ (q : Nat) (hq : q < l.length), (∃ j, q = 2 * j + 1) → L.any (wroteB l[q]) = true) := Lib.hid fun q hq ⟨j, hj⟩ => by subst hj; exact HAN.out j hq
  clear HAN HLE HAL HX1
  go_wp2_with fail
  generalize (w7.alloc (.cells #[.slice fa l.length fc] 30)).alloc (.cells #[.int .i64 1] 3) = wa at *
  have HSA := Lib.hid (HS7.out.below HAL2.out)
  have HB8 := Lib.hid (Below.step HB7.out HAL2.out)
  have HSZ : Hid (w7.heap.size + 1 < wa.heap.size) := Lib.hid (lt_of_block HX2.out)
  generalize w7.heap.size = SB at *
  clear HS7 HB7 HAL2
  go_loopw [7] (fun bv wr => ∃ (q IB : Nat), q ≤ l.length + 1 ∧ bv = .pointer (some ⟨IB, 0, none⟩) ∧ Hid (∃ j, q = 2 * j + 1) ∧ Hid (SB + 1 ≤ IB) ∧ Hid (wr.heap[IB]? = some (.cells #[.int .i64 (q : Int)] 3 (0, 0))) ∧ Hid (wr.heap[SB]? = some (.cells #[.slice fa l.length fc] 30 (0, 0))) ∧ Hid (SAt 1 sTB wr fa l) ∧ Hid (Below w.heap.size w wr) ∧ Hid (Below (SB + 1) wa wr)) (fun bv wr => l.length + 1 - boxN bv wr)
  case atStart => exact ⟨1, SB + 1, by omega, rfl, Lib.hid ⟨0, rfl⟩, Lib.hid (Nat.le_refl _), HX2, HX3, HSA, HB8, Lib.hid (Below.refl _ _)⟩
  case round =>
    obtain ⟨q, IB, hq, rfl, HQ, HIB, HXI, HXS, HSR, HBR, HBA⟩ := hrel
    clear HX2 HX3 HB8
    have x0 := cell_of_row _ IB 0 _ _ _ HXI.out
    have x1 := cell_of_row _ SB 0 _ _ _ HXS.out
    simp only [List.getElem?_toArray, List.getElem?_cons_zero] at x0 x1
    by_cases hlt : q < l.length
    · have m1 : (q : Int) < (l.length : Int) := by omega
      have HCT := Lib.hid (containsD_any a cap L SB IB fa fc l q hlt HCC.out wr ⟨HXS.out, HXI.out, HSR.out⟩ (HS.out.below HBR.out) HLN.out)
      rw [HAQ.out q hlt HQ.out] at HCT
      have HMZ : Hid (boxN (.pointer (some ⟨IB, 0, none⟩)) wr = q) := Lib.hid (by rw [boxN_eq HXI.out]; omega)
      go_wp2_with fail
      refine HCT.out.mono ?_
      rintro e w9 ⟨rfl, hb⟩
      have HXI9 := Lib.hid ((hb.block _ (lt_of_block HXI.out)).trans HXI.out)
      have HXS9 := Lib.hid ((hb.block _ (lt_of_block HXS.out)).trans HXS.out)
      have HAL := Lib.hid ((Below.refl w9.heap.size w9).alloc (Nat.le_refl _) (.cells #[.int .i64 (q : Int)] 3))
      have HXN := Lib.hid (heap_alloc_new w9 (.cells #[.int .i64 (q : Int)] 3))
      have x0 := cell_of_row _ IB 0 _ _ _ HXI9.out
      have x2 := cell_of_row _ _ 0 _ _ _ HXN.out
      have x3 := frozen_of_row _ _ 0 _ _ HXN.out
      simp only [List.getElem?_toArray, List.getElem?_cons_zero] at x0 x2
      have HA2 := Lib.hid ((Below.refl w9.heap.size w9).alloc (Nat.le_refl _) (.cells #[.int .i64 ((q : Int) + 2)] 3))
      have HX2 : Hid ((w9.alloc (.cells #[.int .i64 ((q : Int) + 2)] 3)).heap[w9.heap.size]? = some (.cells #[.int .i64 (((q + 2 : Nat)) : Int)] 3 (0, 0))) := Lib.hid (heap_alloc_new w9 (.cells #[.int .i64 ((q : Int) + 2)] 3))
      have HB10 := Lib.hid (Below.step hb HA2.out)
      have HXS10 := Lib.hid ((HA2.out.block _ (lt_of_block HXS9.out)).trans HXS9.out)
      go_wp2_with fail
      have hsz := HBA.out.size
      have hs9 := hb.size
      have hzz := HSZ.out
      refine ⟨⟨q + 2, w9.heap.size, by omega, rfl, Lib.hid (by obtain ⟨j, hj⟩ := HQ.out; exact ⟨j + 1, by omega⟩), Lib.hid (by omega), HX2, HXS10, Lib.hid (HSR.out.below HB10.out), Lib.hid (Below.step HBR.out HB10.out), Lib.hid (Below.next HBA.out HB10.out (by omega))⟩, ?_⟩
      rw [HMZ.out, boxN_eq HX2.out]
      omega
    · have m1 : ¬ (q : Int) < (l.length : Int) := by omega
      go_wp2_with fail
      go_ret
      exact ⟨rfl, HBR.out⟩
end Go.Proofs.Ytmnmgoafemnppaa
