/- Press: the compressed form opened. -/
import Derived.Test.YtbfhhnpoogmlnaaDoorPressSym
import Derived.Test.YtbfhhnpoogmlnaaDoorBase4
namespace Go.Proofs.YtbfhhnpoogmlnaaDoor
open Go.RowKit Plain Go.ChangeMaps
set_option linter.unusedVariables false
set_option linter.unusedSimpArgs false
namespace Plain
theorem nmP_le : ∀ (ms S : List Nat) (i : Nat), (nmP ms S).1 = 0 → (nmP ms S).2.1.getD i 0 ≤ ms.getD i 0
  | [], S, i, _ => by rw [nmP]; simp
  | m :: ms, S, i, h => by
    by_cases h1 : (getN S).2.2 = 0
    · by_cases h2 : m < (getN S).1
      · rw [nmP_large h1 h2] at h; cases h
      · rw [nmP_more h1 h2] at h ⊢
        cases i with
        | zero => simp only [List.getD_cons_zero]; omega
        | succ i => simp only [List.getD_cons_succ]; exact nmP_le ms _ i h
    · rw [nmP_bad h1] at h; exact absurd h h1
theorem bitsL_zero (b : Nat) : ∀ k, (∀ x ∈ bitsL b k, x = 0) → b % 2 ^ k = 0
  | 0, _ => by rw [Nat.pow_zero]; omega
  | k + 1, h => by
    have h1 := h (b / 2 ^ k % 2) (by simp [bitsL])
    have h2 := bitsL_zero b k (fun x hx => h x (by simp [bitsL, hx]))
    have e := Nat.div_add_mod b (2 ^ k)
    rw [h2] at e
    have e2 : b / 2 ^ k = 2 * (b / 2 ^ k / 2) := by omega
    rw [e2] at e
    apply Nat.mod_eq_zero_of_dvd
    exact ⟨b / 2 ^ k / 2, by rw [Nat.pow_succ, Nat.mul_assoc]; omega⟩
theorem flat8_length : ∀ t : List Nat, (t.flatMap (bitsL · 8)).length = 8 * t.length
  | [] => rfl
  | x :: t => by rw [List.flatMap_cons, List.length_append, bitsL_length, flat8_length t, List.length_cons]; omega
theorem syP_val {es : List CE} (h : ∀ e ∈ es, e.2 < 256) : ∀ (f c n : Nat) (bs : List Nat), (syP es f c n bs).2.1 < 256
  | 0, c, n, bs => by rw [syP_end]; exact Nat.zero_lt_succ _
  | f + 1, c, n, [] => by rw [syP_short]; exact Nat.zero_lt_succ _
  | f + 1, c, n, b :: bs => by
    cases hq : lk es (2 * c + b, n + 1) with
    | some x => rw [syP_hit hq]; exact h _ (lk_some hq)
    | none => rw [syP_miss hq]; exact syP_val h f _ _ bs
theorem ents_val (l : List Int) (cs : List Nat) (n : Nat) (hn : n ≤ 256) : ∀ e ∈ ents l cs n, e.2 < 256 := fun e he => by
  have := ((ents_mem n e).1 he).1
  omega
end Plain
theorem rest_good {s : ByteArray} {k : Nat} (h : RdOk s k) (hl : (strm (strN s) k).length < 8) (hz : ∀ x ∈ strm (strN s) k, x = 0) : restOf s k = true := by
  unfold restOf
  split
  · rfl
  · rename_i h0
    have hs : 0 < s.size := by omega
    have hk := h.2.2 hs
    have hc := strN_cons s hs
    rw [hc] at hl hz
    simp only [strm, List.length_append, bitsL_length, flat8_length, List.length_drop, strN_length] at hl
    rw [if_neg (by omega)]
    have h1 := bitsL_zero (s[0]'hs).toNat k (fun x hx => hz x (by simp only [strm]; exact List.mem_append_left _ hx))
    rw [byte0 hs, h1]
    rfl
theorem rd_lenP (s : List Nat) (hs : ∀ c ∈ s, c < 256) : (rd 0 s).2.length ≤ 4096 := by
  by_cases h : (rd 0 s).1 = 0
  · have := (pk_rd s.length s 0 (Nat.le_refl _) (by omega) hs h).2.1
    omega
  · rw [(rd_err 0 s h).1]; simp
theorem xr_okP {a : Nat} {l : List Tok} (hl : ∀ t ∈ l, t.1 < 256) : (xr (a : Int) l).1 = 0 → (xr (a : Int) l).2.length ≤ a ∧ ∀ c ∈ (xr (a : Int) l).2, c < 256 := by
  intro h
  unfold xr at h ⊢
  split at h
  · cases h
  · rename_i h1
    rw [if_neg h1]
    split at h
    · rename_i h2
      exact absurd h h2
    · rename_i h2
      rw [if_neg h2]
      have he : ex (a : Int).toNat l = (0, (ex (a : Int).toNat l).2) := Prod.ext h rfl
      obtain ⟨h3, h4⟩ := ex_lt (a : Int).toNat l.length l _ rfl hl he
      exact ⟨by rw [Int.toNat_natCast] at h4 ⊢; exact h4, h3⟩
def PGood (S out : List Nat) : Prop := ∃ (a b c : Nat) (R : List Nat) (l : List Int) (R2 cs T B : List Nat) (tk : List Tok), nmP lims S = (0, [a, b, c], R) ∧ lnP c (-1) zLen R = (0, l, R2) ∧ kr l = (ks l, 0) ∧ ks l ≤ 281474976710656 ∧ IsCode l cs ∧ (∀ t, t < l.length → ¬ 0 < l.getD t 0 → cs.getD t 0 = 0) ∧
  sysP (ents l cs 256) b (strm R2 8) = (0, T, B) ∧ B.length < 8 ∧ (∀ x ∈ B, x = 0) ∧ rd 0 T = (0, tk) ∧ xr (a : Int) tk = (0, out) ∧ out.length = a
def OpEnd (w0 : World) (s : ByteArray) (e : Ending) (w : World) : Prop := Below w0.heap.size w0 w ∧ ∃ (k : Nat) (t : ByteArray), e = .returned (.tuple #[.string t, .int .i64 (k : Int)]) ∧ (k ≠ 0 → t = ⟨#[]⟩) ∧ t.size ≤ 4096 ∧ ∀ out, PGood (strN s) out → k = 0 ∧ strN t = out
theorem OpEnd.bad {w0 w : World} {s : ByteArray} {k : Nat} (hb : Below w0.heap.size w0 w) (hk : k ≠ 0) (h : ∀ out, ¬ PGood (strN s) out) : OpEnd w0 s (.returned (.tuple #[.string ⟨#[]⟩, .int .i64 (k : Int)])) w :=
  ⟨hb, k, ⟨#[]⟩, rfl, fun _ => rfl, by decide, fun out hg => absurd hg (h out)⟩
set_option maxRecDepth 100000 in
set_option maxHeartbeats 8000000 in
theorem popen_any (s : ByteArray) (w : World) (hs : s.size ≤ 9223372036854775807) :
    Calls Tryd.prog 66 #[.string s] w (OpEnd w s) := by
  obtain ⟨i0, hi0, hz0, hz1, hz2⟩ := info_parts info_u8
  have HNM := Lib.hid fun wx => numbers_any s wx hs
  have HLN := Lib.hid fun (x : ByteArray) (m : Nat) wx (hm : m ≤ 256) (hx : x.size ≤ 9223372036854775807) => plens_any x m wx hm hx
  go_enter Tryd.func66, Tryd.ntmps66
  go_wp2_with fail
  refine (HNM.out _).mono ?_
  rintro e w1 ⟨hb1, a, b, c, t, k, rfl, hk, ht, hk2⟩
  have HB1 := Lib.hid hb1
  have HT : Hid (t.size ≤ s.size) := ht
  have HK2 := Lib.hid hk2
  have HKE := Lib.hid hk
  clear hb1 ht hk2 hk HNM
  by_cases hk0 : k = 0
  · subst hk0
    have HN : Hid (nmP lims (strN s) = (0, [a, b, c], strN t)) := by
      show _ = _
      have h1 := HK2.out rfl
      have h2 := HKE.out
      exact Prod.ext h2.symm h1
    have ha : a ≤ 4096 := by have := nmP_le lims (strN s) 0 (by rw [HN.out]); rw [HN.out] at this; exact this
    have hb : b ≤ 12288 := by have := nmP_le lims (strN s) 1 (by rw [HN.out]); rw [HN.out] at this; exact this
    have hc : c ≤ 256 := by have := nmP_le lims (strN s) 2 (by rw [HN.out]); rw [HN.out] at this; exact this
    clear HKE HK2
    go_wp2_with fail
    have hba := HB1.out.alloc HB1.out.size (.cells #[.int .i64 (a : Int), .int .i64 (b : Int), .int .i64 (c : Int)] 190)
    have hn3 := heap_alloc_new w1 (.cells #[.int .i64 (a : Int), .int .i64 (b : Int), .int .i64 (c : Int)] 190)
    generalize w1.alloc (.cells #[.int .i64 (a : Int), .int .i64 (b : Int), .int .i64 (c : Int)] 190) = wa at *
    generalize w1.heap.size = P3 at *
    have HBA := Lib.hid hba
    have HN3 := Lib.hid hn3
    clear hba hn3 HB1
    refine (HLN.out t c _ hc (by have := HT.out; omega)).mono ?_
    rintro e w2 ⟨hb2, hcase⟩
    have HB2 := Lib.hid (Below.trans HBA.out (hb2.mono HBA.out.size))
    have HN32 := Lib.hid ((hb2.block _ (lt_of_block HN3.out)).trans HN3.out)
    have HBX := Lib.hid hb2
    clear hb2
    rcases hcase with ⟨hk, rfl⟩ | ⟨hk, g, u, rfl, hg, hrow, hu⟩
    · have HNG : Hid (∀ out, ¬ PGood (strN s) out) := by
        rintro out ⟨a', b', c', R, l, R2, cs, T, B, tk, h1, h2, _⟩
        rw [HN.out] at h1
        injection h1 with _ h1
        injection h1 with h1 h3
        injection h1 with _ h1
        injection h1 with _ h1
        injection h1 with h1 _
        subst h1 h3
        rw [h2] at hk
        exact hk rfl
      obtain ⟨k, hkk⟩ : ∃ k, (lnP c (-1) zLen (strN t)).1 = k := ⟨_, rfl⟩
      rw [hkk] at hk ⊢
      have z1 : ((k : Int) != 0) = true := by simp; omega
      have HK0 := Lib.hid hk
      clear hk hkk
      go_wp2_with fail
      go_ret2
      exact OpEnd.bad HB2.out HK0.out HNG.out
    · obtain ⟨l, hl⟩ : ∃ l, (lnP c (-1) zLen (strN t)).2.1 = l := ⟨_, rfl⟩
      have hll : l.length = 256 := by rw [← hl, (lnP_bound c (-1) zLen (strN t) hk).1]; rfl
      have HL : Hid (lnP c (-1) zLen (strN t) = (0, l, strN u)) := by
        show _ = _
        exact Prod.ext hk (Prod.ext hl hu.symm)
      have HUS : Hid (u.size ≤ s.size) := by
        have h1 := (lnP_bound c (-1) zLen (strN t) hk).2
        rw [← hu, strN_length, strN_length] at h1
        have := HT.out
        show _ ≤ _
        omega
      rw [hl] at hrow
      have HROW := Lib.hid hrow
      have HCD : Hid (∀ wx, SAt 1 iC wx (some ⟨g, 0, none⟩) l → Calls Tryd.prog 63 #[.slice (some ⟨g, 0, none⟩) 256 256] wx (CodesEnd wx l)) := fun wx hx => by
        have := codes_any (some ⟨g, 0, none⟩) 256 l wx hx (by omega)
        rw [hll] at this
        exact this
      have HLL := Lib.hid hll
      have HG : Hid (w.heap.size ≤ g) := Nat.le_trans HBA.out.size hg
      clear hk hl hu hrow hll hg
      go_wp2_with fail
      refine (HCD.out _ (sat_il HROW.out)).mono ?_
      rintro e w3 ⟨hb3, hcase⟩
      have HB3 := Lib.hid (Below.trans HB2.out (hb3.mono HB2.out.size))
      have HN33 := Lib.hid ((hb3.block _ (lt_of_block HN32.out)).trans HN32.out)
      have HROW3 := Lib.hid ((hb3.block _ (lt_of_block HROW.out)).trans HROW.out)
      clear hb3 HCD HN3 HN32 HROW HB2
      have hng : kr l ≠ (ks l, 0) ∨ 281474976710656 < ks l → ∀ out, ¬ PGood (strN s) out := by
        rintro hq out ⟨a', b', c', R, l', R2, cs, T, B, tk, h1, h2, h3, h4, _⟩
        rw [HN.out] at h1
        injection h1 with _ h1
        injection h1 with h1 h5
        injection h1 with _ h1
        injection h1 with _ h1
        injection h1 with h1 _
        subst h1 h5
        rw [HL.out] at h2
        injection h2 with _ h2
        injection h2 with h2 _
        subst h2
        rcases hq with hq | hq
        · exact hq h3
        · omega
      rcases hcase with ⟨hkr, rfl⟩ | ⟨hkr, hbig, rfl⟩ | ⟨hkr, hsm, gc, cs, rfl, hgc1, hgc2, hcrow, hcode, hczero⟩
      · have HNG := Lib.hid (hng (.inl (by rw [hkr]; intro h; injection h with _ h; cases h)))
        clear hng hkr
        go_wp2_with fail
        go_ret2
        exact OpEnd.bad (k := 1) HB3.out (by decide) HNG.out
      · have HNG := Lib.hid (hng (.inr hbig))
        clear hng hkr hbig
        go_wp2_with fail
        go_ret2
        exact OpEnd.bad (k := 4) HB3.out (by decide) HNG.out
      · have HKR := Lib.hid hkr
        have HSM := Lib.hid hsm
        have HCROW := Lib.hid hcrow
        have HCODE := Lib.hid hcode
        have HCZ := Lib.hid hczero
        have hll := HLL.out
        rw [hll] at *
        clear hng hkr hsm hcrow hcode hczero hgc1 hll
        have hmm := @run_makeMap Tryd.prog
        go_wp2_with fail
        clear hmm
        have HLE : Hid (∀ n ∈ l, n ≤ 48) := by
          rcases kr_cases l with h | ⟨_, _, _, h⟩
          · have := HKR.out; rw [h] at this; injection this with _ this; cases this
          · exact fun n hn => (h n hn).2
        have HM0 : Hid ((w3.alloc (.map #[] 0)).heap[w3.heap.size]? = some (mcO (ents l cs 0))) := heap_alloc_new w3 _
        have HBM0 : Hid (Below w3.heap.size w3 (w3.alloc (.map #[] 0))) := (Below.refl _ _).alloc (Nat.le_refl _) _
        generalize w3.alloc (.map #[] 0) = wm at *
        go_loopw [48] (fun iv wr => ∃ i : Nat, iv = .int .i64 (i : Int) ∧ i ≤ 256 ∧ wr.heap[w3.heap.size]? = some (mcO (ents l cs i)) ∧ Below w3.heap.size w3 wr) (fun iv _ => 256 - (intOf iv).toNat)
        case atStart => exact ⟨0, rfl, by omega, HM0.out, HBM0.out⟩
        case round =>
          obtain ⟨i, rfl, hi, hmr, hbr⟩ := hrel
          have HMR := Lib.hid hmr
          have HBR := Lib.hid hbr
          clear HM0 HBM0 hmr hbr
          have HRI : Hid (wr.heap[g]? = some (.cells (ilC l) 3 (0, 0))) := (HBR.out.block _ (lt_of_block HROW3.out)).trans HROW3.out
          have HCI : Hid (wr.heap[gc]? = some (.cells (nC cs) 3 (0, 0))) := (HBR.out.block _ (lt_of_block HCROW.out)).trans HCROW.out
          by_cases hlt : i < 256
          · have m1 : (i : Int) < 256 := by omega
            have hil : i < l.length := by have := HLL.out; omega
            have hic : i < cs.length := by have := HLL.out; have := HCODE.out.1; omega
            obtain ⟨li, hli⟩ : ∃ li, l[i] = li := ⟨_, rfl⟩
            have hlg : l.getD i 0 = li := by rw [List.getD_eq_getElem?_getD, List.getElem?_eq_getElem hil, hli]; rfl
            have c0 : wr.cell? ⟨g, i, none⟩ = some (.int .i64 li) := by rw [cell_of_row _ _ _ _ _ _ HRI.out, ilC_get l i hil, hli]
            have c1 : wr.cell? ⟨gc, i, none⟩ = some (.int .i64 ((cs.getD i 0 : Nat) : Int)) := by rw [cell_of_row _ _ _ _ _ _ HCI.out, nC_get cs i hic]
            by_cases h0 : 0 < li
            · have hnew := ents_new HCODE.out HLE.out hil (by rw [hlg]; exact h0)
              rw [hlg] at hnew
              obtain ⟨ln, rfl⟩ := Int.eq_ofNat_of_zero_le (Int.le_of_lt h0)
              have hES : ents l cs (i + 1) = ents l cs i ++ [((cs.getD i 0, ln), i)] := by rw [ents_succ, if_pos (by rw [hlg]; exact h0), hlg]; rfl
              have HES := Lib.hid hES
              rw [show ((ln : Int)).toNat = ln from rfl] at hnew
              have hput := put_code HMR.out (cs.getD i 0, ln) i hnew
              generalize cs.getD i 0 = ci at *
              unfold kcV at hput
              rw [← hES] at hput
              have HMN : Hid ((setBlock wr w3.heap.size (mcO (ents l cs (i + 1)))).heap[w3.heap.size]? = some (mcO (ents l cs (i + 1)))) := setBlockC_same HMR.out _
              have HBN : Hid (Below w3.heap.size w3 (setBlock wr w3.heap.size (mcO (ents l cs (i + 1))))) := below_setBlockC HBR.out (Nat.le_refl _) _
              clear hES hnew hli hlg hil hic
              go_wp2_with fail
              go_roundw
              case rel => exact ⟨i + 1, by go_num, by omega, HMN.out, HBN.out⟩
              case measure => simp [intOf]; omega
            · have HES : Hid (ents l cs (i + 1) = ents l cs i) := by show _ = _; rw [ents_succ, if_neg (by rw [hlg]; exact h0), List.append_nil]
              clear hli hlg hil hic
              go_wp2_with fail
              go_roundw
              case rel => exact ⟨i + 1, by go_num, by omega, by rw [HES.out]; exact HMR.out, HBR.out⟩
              case measure => simp [intOf]; omega
          · have m1 : ¬ (i : Int) < 256 := by omega
            obtain rfl : i = 256 := by omega
            rw [show ((256 : Nat) : Int) = 256 from rfl]
            clear hlt hi
            have HEV : Hid (∀ e ∈ ents l cs 256, e.2 < 256) := ents_val l cs 256 (Nat.le_refl _)
            have HNGS : Hid (∀ out, PGood (strN s) out → ∃ (T B : List Nat) (tk : List Tok), sysP (ents l cs 256) b (strm (strN u) 8) = (0, T, B) ∧ B.length < 8 ∧ (∀ x ∈ B, x = 0) ∧ rd 0 T = (0, tk) ∧ xr (a : Int) tk = (0, out) ∧ out.length = a) := by
              rintro out ⟨a', b', c', R, l', R2, cs', T, B, tk, h1, h2, h3, h4, h5, h6, h7, h8, h9, h10, h11, h12⟩
              rw [HN.out] at h1
              injection h1 with _ h1
              injection h1 with h1 q5
              injection h1 with q1 h1
              injection h1 with q2 h1
              injection h1 with q3 _
              subst q1 q2 q3 q5
              rw [HL.out] at h2
              injection h2 with _ h2
              injection h2 with h2 q6
              subst h2 q6
              have hcc : cs' = cs := code_one h5 HCODE.out (fun t ht h0 => by rw [h6 t ht h0, HCZ.out t (by have := HLL.out; omega) (by omega)])
              subst hcc
              exact ⟨T, B, tk, h7, h8, h9, h10, h11, h12⟩
            have HBW : Hid (Below w.heap.size w wr) := Below.trans HB3.out (HBR.out.mono HB3.out.size)
            have HN3R : Hid (wr.heap[P3]? = some (.cells #[.int .i64 (a : Int), .int .i64 (b : Int), .int .i64 (c : Int)] 190 (0, 0))) := (HBR.out.block _ (lt_of_block HN33.out)).trans HN33.out
            clear HRI HCI HROW3 HCROW HN33 HBR HB3 HKR HSM HCODE HCZ HLE
            generalize ents l cs 256 = es at *
            generalize w3.heap.size = M at *
            have HMLT : Hid (M < wr.heap.size) := by
              have h := HMR.out
              rcases Nat.lt_or_ge M wr.heap.size with h1 | h1
              · exact h1
              · rw [Array.getElem?_eq_none h1] at h; cases h
            by_cases hu0 : u.size = 0
            · have z2 := empty_str (s := u) hu0
              have hok : RdOk u 0 := ⟨by omega, by omega⟩
              have hst : strm (strN u) 0 = strm (strN u) 8 := by
                have : strN u = [] := by apply List.eq_nil_of_length_eq_zero; rw [strN_length]; exact hu0
                rw [this]; rfl
              have hrd : RdAt wr.heap.size u 0 (wr.alloc (.cells #[.string u, .int .i64 0] 200)) := heap_alloc_new wr _
              have hbx : Below wr.heap.size wr (wr.alloc (.cells #[.string u, .int .i64 0] 200)) := (Below.refl _ _).alloc (Nat.le_refl _) _
              have HRD := Lib.hid hrd
              have HOK := Lib.hid hok
              have HST := Lib.hid hst
              have hox : wr.heap.size < ((wr.alloc (.cells #[.string u, .int .i64 0] 200))).heap.size := lt_of_block hrd
              have HBX := Lib.hid hbx
              have HMX : Hid (((wr.alloc (.cells #[.string u, .int .i64 0] 200))).heap[M]? = some (mcO es)) := (hbx.block _ HMLT.out).trans HMR.out
              have HN3X : Hid (((wr.alloc (.cells #[.string u, .int .i64 0] 200))).heap[P3]? = some (.cells #[.int .i64 (a : Int), .int .i64 (b : Int), .int .i64 (c : Int)] 190 (0, 0))) := (hbx.block _ (lt_of_block HN3R.out)).trans HN3R.out
              have HMO : Hid (M ≠ wr.heap.size) := by have := HMLT.out; show M ≠ _; omega
              have HPO : Hid (P3 ≠ wr.heap.size) := by have := lt_of_block HN3R.out; show P3 ≠ _; omega
              have HMLX : Hid (M < ((wr.alloc (.cells #[.string u, .int .i64 0] 200))).heap.size) := Nat.lt_trans HMLT.out hox
              have HPLX : Hid (P3 < ((wr.alloc (.cells #[.string u, .int .i64 0] 200))).heap.size) := lt_of_block HN3X.out
              have HOX := Lib.hid hox
              have HBWX : Hid (Below w.heap.size w (wr.alloc (.cells #[.string u, .int .i64 0] 200))) := Below.trans HBW.out (hbx.mono HBW.out.size)
              have HWX : Hid (w.heap.size ≤ wr.heap.size) := HBW.out.size
              have hc1 := cell_of_row _ _ 1 _ _ _ HN3X.out
              simp only [List.getElem?_toArray, List.getElem?_cons_succ, List.getElem?_cons_zero] at hc1
              clear hrd hok hst hox hbx
              go_wp2_with fail
              clear hc1
              generalize (wr.alloc (.cells #[.string u, .int .i64 0] 200)) = wx at *
              generalize hoo : wr.heap.size = o at *
              have HOO := Lib.hid hoo
              clear hoo
              obtain ⟨k0, hk0⟩ : ∃ k0 : Nat, 0 = k0 := ⟨_, rfl⟩
              rw [hk0] at HRD HOK HST
              clear hk0 hu0
              go_loopw [12, 75] (fun tv iv wr => ∃ (i : Nat) (T : List Nat) (oa : Option Addr) (oc : Nat) (y : ByteArray) (j : Nat), tv = .slice oa T.length oc ∧ iv = .int .i64 (i : Int) ∧ i ≤ b ∧ T.length = i ∧ y.size ≤ s.size ∧ RdAt o y j wr ∧ RdOk y j ∧ (∀ x ∈ T, x < 256) ∧
                sysP es b (strm (strN u) 8) = ((sysP es (b - i) (strm (strN y) j)).1, T ++ (sysP es (b - i) (strm (strN y) j)).2.1, (sysP es (b - i) (strm (strN y) j)).2.2) ∧ wr.ownsRow wx.heap.size 5 1 (.slice oa T.length oc) T.length (T.map bV) ∧ wx.grownBy wr (some o)) (fun _ iv _ => b - (intOf iv).toNat)
              case atStart => exact ⟨0, [], none, 0, u, k0, rfl, rfl, Nat.zero_le _, rfl, HUS.out, HRD.out, HOK.out, by simp, by rw [HST.out]; rfl, World.ownsRow_nil _ _ _ _, grown_refl _ _⟩
              case round =>
                obtain ⟨i, T, oa, oc, y, j, rfl, rfl, hi, hTl, hy, hr, hok, hT, hsy, hown, hg⟩ := hrel
                have HY := Lib.hid hy
                have HQ := Lib.hid hr
                have HK := Lib.hid hok
                have HTV := Lib.hid hT
                have HSY := Lib.hid hsy
                have HOWN := Lib.hid hown
                have HGR := Lib.hid hg
                have HTL := Lib.hid hTl
                have hmq : wr.heap[M]? = some (mcO es) := (hg.block _ HMLX.out (by have := HMO.out; simpa using this)).trans HMX.out
                have HMQ := Lib.hid hmq
                have HNQ : Hid (wr.heap[P3]? = some (.cells #[.int .i64 (a : Int), .int .i64 (b : Int), .int .i64 (c : Int)] 190 (0, 0))) := (hg.block _ HPLX.out (by have := HPO.out; simpa using this)).trans HN3X.out
                have HWQ : Hid (Below w.heap.size w wr) := by
                  have h := HBWX.out
                  exact ⟨hg.os.trans h.os, hg.tape.trans h.tape, hg.output.trans h.output, Nat.le_trans h.size hg.size, fun k hk => (hg.block k (Nat.lt_of_lt_of_le hk h.size) (by have := HWX.out; simp; omega)).trans (h.block k hk)⟩
                clear hy hr hok hT hsy hown hg hmq hTl HRD HOK
                by_cases hlt : i < b
                · have m1 : (i : Int) < (b : Int) := by omega
                  obtain ⟨m, hm⟩ : ∃ m, b - i = m + 1 := ⟨b - i - 1, by omega⟩
                  have HM1 := Lib.hid hm
                  have HMI : Hid (b - (i + 1) = m) := by show _ = _; omega
                  clear hm
                  go_wp2_with fail
                  refine (symbol_any o M es y j wr HQ.out HMQ.out HK.out (by have := HY.out; omega)).mono ?_
                  rintro e w5 ⟨hg5, y', j', hr5, hok5, hy5, rfl, hst5⟩
                  obtain ⟨⟨cd, x, r⟩, hR⟩ : ∃ R, syP es 48 0 0 (strm (strN y) j) = R := ⟨_, rfl⟩
                  have hx : x < 256 := by have := syP_val HEV.out 48 0 0 (strm (strN y) j); rw [hR] at this; exact this
                  rw [hR] at hst5 ⊢
                  have HR5 := Lib.hid hR
                  have HG5 := Lib.hid (Lib.grownBy_trans HGR.out hg5)
                  have HRD5 := Lib.hid hr5
                  have HOK5 := Lib.hid hok5
                  have HY5 := Lib.hid hy5
                  have HST5 := Lib.hid hst5
                  have HOWN5 : Hid (w5.ownsRow wx.heap.size 5 1 (.slice oa T.length oc) T.length (T.map bV)) := own_keep HOWN.out (fun g cs hgc hge => hg5.block g (lt_of_block hgc) (by have := HOX.out; simp; omega))
                  have HG5S : Hid (wx.heap.size ≤ w5.heap.size) := HG5.out.size
                  have HW5 : Hid (Below w.heap.size w w5) := by
                    have h := HWQ.out
                    exact ⟨hg5.os.trans h.os, hg5.tape.trans h.tape, hg5.output.trans h.output, Nat.le_trans h.size hg5.size, fun k hk => (hg5.block k (Nat.lt_of_lt_of_le hk h.size) (by have := HWX.out; simp; omega)).trans (h.block k hk)⟩
                  clear hg5 hr5 hok5 hy5 hst5 hR
                  by_cases hcd : cd = 0
                  · subst hcd
                    have HRR : Hid (strm (strN y') j' = r) := HST5.out rfl
                    have HS2 : Hid (sysP es b (strm (strN u) 8) = ((sysP es (b - (i + 1)) (strm (strN y') j')).1, (T ++ [x]) ++ (sysP es (b - (i + 1)) (strm (strN y') j')).2.1, (sysP es (b - (i + 1)) (strm (strN y') j')).2.2)) := by
                      show _ = _
                      rw [HSY.out, HM1.out, HMI.out, sysP_more HR5.out, HRR.out]
                      simp
                    have HTV2 : Hid (∀ z ∈ T ++ [x], z < 256) := fun z hz => by
                      rcases List.mem_append.1 hz with h | h
                      · exact HTV.out z h
                      · rw [List.mem_singleton] at h; omega
                    have D1 := Lib.hid (cells_new_at w5 w5.heap.size rfl #[.int .u8 (x : Int)] 5 [.int .u8 (x : Int)] rfl)
                    have D2 : Hid (∀ u ∈ ([.int .u8 (x : Int)] : List Value), u.oneCell' = true) := by intro u hu; simp only [List.mem_cons, List.not_mem_nil, or_false] at hu; subst hu; rfl
                    have D3 : Hid (T.length + 1 ≤ maxLen) := by show _ ≤ _; have := HTL.out; unfold maxLen; omega
                    have D4 : Hid ((T.length + 1) * 1 ≤ 140737488355328) := by show _ ≤ _; have := HTL.out; omega
                    have D5 : Hid (wx.heap.size ≤ (w5.alloc (.cells #[.int .u8 (x : Int)] 5)).heap.size) := by show _ ≤ _; have := HG5S.out; simp; omega
                    have HGA : Hid (wx.grownBy (w5.alloc (.cells #[.int .u8 (x : Int)] 5)) (some o)) := grown_alloc HG5.out _
                    have HRA : Hid (RdAt o y' j' (w5.alloc (.cells #[.int .u8 (x : Int)] 5))) := HRD5.out.below ((Below.refl _ _).alloc (Nat.le_refl _) _)
                    go_wp2_with (at_builtin; refine wpList_append_own _ rfl _ _ 92 rfl wx.heap.size 5 i0 (.int .u8 0) 1 1 Tryd.underlying92 hi0 hz0 hz1 hz2 rfl (by decide) _ _ _ rfl (HOWN5.out.alloc _) ⟨w5.heap.size, 0, none⟩ 1 1 [.int .u8 (x : Int)] rfl rfl D1.out D2.out D3.out D4.out D5.out ?_)
                    intro v' w6 hown' hgrow _
                    have hb6 := below_own (Below.refl wx.heap.size (w5.alloc (.cells #[.int .u8 (x : Int)] 5))) hgrow D5.out (HOWN5.out.alloc _) (Nat.le_refl _)
                    have HG6 : Hid (wx.grownBy w6 (some o)) := ⟨hb6.os.trans HGA.out.os, hb6.tape.trans HGA.out.tape, hb6.output.trans HGA.out.output, Nat.le_trans HGA.out.size hb6.size, fun k hk hx => (hb6.block k hk).trans (HGA.out.block k hk hx)⟩
                    have HR6 : Hid (RdAt o y' j' w6) := (hb6.block o HOX.out).trans HRA.out
                    have HOW6 : Hid (w6.ownsRow wx.heap.size 5 1 v' (T ++ [x]).length ((T ++ [x]).map bV)) := by
                      show w6.ownsRow _ _ _ _ _ _
                      rw [List.length_append, List.map_append]
                      exact hown'
                    clear hown' hgrow hb6
                    obtain ⟨oa', oc', hv'⟩ := own_form HOW6.out
                    subst hv'
                    go_wp2_with fail
                    go_roundw
                    case rel => exact ⟨i + 1, T ++ [x], oa', oc', y', j', by simp, by go_num, by omega, by rw [List.length_append, HTL.out]; rfl, Nat.le_trans HY5.out HY.out, HR6.out, HOK5.out, HTV2.out, HS2.out, HOW6.out, HG6.out⟩
                    case measure => simp [intOf]; omega
                  · have z3 : ((cd : Int) != 0) = true := by simp; omega
                    have HNG : Hid (∀ out, ¬ PGood (strN s) out) := by
                      intro out hgd
                      obtain ⟨T', B', tk, h1, _⟩ := HNGS.out out hgd
                      rw [HSY.out, HM1.out, sysP_bad (by rw [HR5.out]; exact hcd), HR5.out] at h1
                      injection h1 with h1 _
                      exact hcd h1
                    have HCD := Lib.hid hcd
                    clear hcd
                    go_wp2_with fail
                    go_ret2
                    exact OpEnd.bad HW5.out HCD.out HNG.out
                · have m1 : ¬ (i : Int) < (b : Int) := by omega
                  obtain rfl : i = b := by omega
                  have HS0 : Hid (sysP es i (strm (strN u) 8) = (0, T, strm (strN y) j)) := by
                    show _ = _
                    rw [HSY.out, Nat.sub_self, sysP_zero]
                    simp
                  clear hlt hi HSY
                  go_wp2_with fail
                  refine (rest_any o y j wr HQ.out HK.out.1 (by have := HY.out; omega)).mono ?_
                  rintro e w7 ⟨rfl, hb7⟩
                  have HW7 : Hid (Below w.heap.size w w7) := Below.trans HWQ.out (hb7.mono HWQ.out.size)
                  have HN7 : Hid (w7.heap[P3]? = some (.cells #[.int .i64 (a : Int), .int .i64 (i : Int), .int .i64 (c : Int)] 190 (0, 0))) := (hb7.block _ (lt_of_block HNQ.out)).trans HNQ.out
                  have HOWN7 := Lib.hid (own_below HOWN.out hb7)
                  clear hb7
                  cases hrs : restOf y j with
                  | false =>
                    have HNG : Hid (∀ out, ¬ PGood (strN s) out) := by
                      intro out hgd
                      obtain ⟨T', B', tk, h1, h2, h3, _⟩ := HNGS.out out hgd
                      rw [HS0.out] at h1
                      injection h1 with _ h1
                      injection h1 with _ h1
                      subst h1
                      rw [rest_good HK.out h2 h3] at hrs
                      cases hrs
                    clear hrs
                    go_wp2_with fail
                    go_ret2
                    exact OpEnd.bad (k := 4) HW7.out (by decide) HNG.out
                  | true =>
                    clear hrs
                    have HTL2 : Hid (T.length ≤ 12288) := by have := HTL.out; show _ ≤ _; omega
                    have hcv := run_string_own (P := Tryd.prog) w7 92 5 9 Tryd.underlying92 Tryd.underlying5 Tryd.underlying9 HTV.out HOWN7.out
                    have hss : strN (strOf T) = T := strN_strOf T HTV.out
                    have hsz : (strOf T).size ≤ 9223372036854775807 := by rw [strOf_size]; have := HTL2.out; omega
                    obtain ⟨ts, hts⟩ : ∃ ts, strOf T = ts := ⟨_, rfl⟩
                    rw [hts] at hcv hss hsz
                    have HTS := Lib.hid hss
                    have HSZ := Lib.hid hsz
                    clear hts hss hsz
                    go_wp2_with fail
                    refine (read_any ts _ HSZ.out).mono ?_
                    rintro e w8 ⟨v, rfl, hown8, hb8⟩
                    clear hcv
                    rw [HTS.out] at hown8 ⊢
                    have hrl := rd_letters T.length T 0 (Nat.le_refl _) HTV.out
                    have hrn := rd_lenP T HTV.out
                    have HW8 : Hid (Below w.heap.size w w8) := Below.trans HW7.out (hb8.mono HW7.out.size)
                    have HN8 : Hid (w8.heap[P3]? = some (.cells #[.int .i64 (a : Int), .int .i64 (i : Int), .int .i64 (c : Int)] 190 (0, 0))) := (hb8.block _ (lt_of_block HN7.out)).trans HN7.out
                    obtain ⟨⟨cd, tk⟩, hR⟩ : ∃ R, rd 0 T = R := ⟨_, rfl⟩
                    rw [hR] at hown8 hrl hrn ⊢
                    have HR8 := Lib.hid hR
                    clear hR hb8
                    obtain ⟨oa8, oc8, rfl, _, _, hsat⟩ := SAt.own hown8 tC_length
                    have HSAT := Lib.hid hsat
                    have HRL : Hid (∀ t ∈ tk, t.1 < 256) := hrl
                    have HRN : Hid (tk.length ≤ 4096) := hrn
                    clear hown8 hsat hrl hrn
                    by_cases hcd : cd = 0
                    · subst hcd
                      have hc0 := cell_of_row _ _ 0 _ _ _ HN8.out
                      simp only [List.getElem?_toArray, List.getElem?_cons_succ, List.getElem?_cons_zero] at hc0
                      go_wp2_with fail
                      refine (expand_any oa8 oc8 tk (a : Int) _ HSAT.out (by have := HRN.out; omega) HRL.out).mono ?_
                      rintro e w9 ⟨rfl, hb9⟩
                      have HW9 : Hid (Below w.heap.size w w9) := Below.trans HW8.out (hb9.mono HW8.out.size)
                      have HN9 : Hid (w9.heap[P3]? = some (.cells #[.int .i64 (a : Int), .int .i64 (i : Int), .int .i64 (c : Int)] 190 (0, 0))) := (hb9.block _ (lt_of_block HN8.out)).trans HN8.out
                      have hd0 := cell_of_row _ _ 0 _ _ _ HN9.out
                      simp only [List.getElem?_toArray, List.getElem?_cons_succ, List.getElem?_cons_zero] at hd0
                      clear hb9 hc0
                      have hxo := xr_okP (a := a) (l := tk) HRL.out
                      obtain ⟨⟨ce, ot⟩, hX⟩ : ∃ X, xr (a : Int) tk = X := ⟨_, rfl⟩
                      rw [hX] at hxo ⊢
                      have HX9 := Lib.hid hX
                      clear hX
                      have HGO : Hid (∀ out, PGood (strN s) out → ce = 0 ∧ out = ot ∧ ot.length = a) := by
                        intro out hgd
                        obtain ⟨T', B', tk', h1, h2, h3, h4, h5, h6⟩ := HNGS.out out hgd
                        rw [HS0.out] at h1
                        injection h1 with _ h1
                        injection h1 with h1 _
                        subst h1
                        rw [HR8.out] at h4
                        injection h4 with _ h4
                        subst h4
                        rw [HX9.out] at h5
                        injection h5 with h5 h7
                        exact ⟨h5, h7.symm, by rw [h7]; exact h6⟩
                      by_cases hce : ce = 0
                      · subst hce
                        obtain ⟨hx1, hx2⟩ := hxo rfl
                        have hx1 : ot.length ≤ a := hx1
                        have hx2 : ∀ c ∈ ot, c < 256 := hx2
                        have hsz := strOf_size ot
                        have hsn : strN (strOf ot) = ot := strN_strOf ot hx2
                        generalize strOf ot = os at *
                        have HSN := Lib.hid hsn
                        clear hsn hxo hx2
                        by_cases hln : os.size < a
                        · have z4 : (os.size : Int) < (a : Int) := by omega
                          have HNG : Hid (∀ out, ¬ PGood (strN s) out) := fun out hgd => by have := (HGO.out out hgd).2.2; omega
                          clear hsz hx1
                          go_wp2_with fail
                          go_ret2
                          exact OpEnd.bad (k := 4) HW9.out (by decide) HNG.out
                        · have z4 : ¬ (os.size : Int) < (a : Int) := by omega
                          have HSL : Hid (os.size ≤ 4096) := by show _ ≤ _; omega
                          clear hsz hx1
                          go_wp2_with fail
                          go_ret2
                          exact ⟨HW9.out, 0, os, rfl, fun h => absurd rfl h, HSL.out, fun out hgd => ⟨rfl, by rw [HSN.out]; exact ((HGO.out out hgd).2.1).symm⟩⟩
                      · have z3 : ((ce : Int) != 0) = true := by simp; omega
                        have HCE := Lib.hid hce
                        have HNG : Hid (∀ out, ¬ PGood (strN s) out) := fun out hgd => hce (HGO.out out hgd).1
                        clear hce hxo
                        go_wp2_with fail
                        go_ret2
                        exact OpEnd.bad HW9.out HCE.out HNG.out
                    · have z3 : ((cd : Int) != 0) = true := by simp; omega
                      have HCD := Lib.hid hcd
                      have HNG : Hid (∀ out, ¬ PGood (strN s) out) := by
                        intro out hgd
                        obtain ⟨T', B', tk', h1, h2, h3, h4, h5, h6⟩ := HNGS.out out hgd
                        rw [HS0.out] at h1
                        injection h1 with _ h1
                        injection h1 with h1 _
                        subst h1
                        rw [HR8.out] at h4
                        injection h4 with h4 _
                        exact hcd h4
                      clear hcd
                      go_wp2_with fail
                      go_ret2
                      exact OpEnd.bad HW8.out HCD.out HNG.out
            · have z2 := full_str (s := u) hu0
              have hok : RdOk u 8 := ⟨by omega, by omega⟩
              have hst : strm (strN u) 8 = strm (strN u) 8 := rfl
              have hrd : RdAt wr.heap.size u 8 (wr.alloc (.cells #[.string u, .int .i64 8] 200)) := heap_alloc_new wr _
              have hbx : Below wr.heap.size wr (wr.alloc (.cells #[.string u, .int .i64 8] 200)) := (Below.refl _ _).alloc (Nat.le_refl _) _
              have HRD := Lib.hid hrd
              have HOK := Lib.hid hok
              have HST := Lib.hid hst
              have hox : wr.heap.size < ((wr.alloc (.cells #[.string u, .int .i64 8] 200))).heap.size := lt_of_block hrd
              have HBX := Lib.hid hbx
              have HMX : Hid (((wr.alloc (.cells #[.string u, .int .i64 8] 200))).heap[M]? = some (mcO es)) := (hbx.block _ HMLT.out).trans HMR.out
              have HN3X : Hid (((wr.alloc (.cells #[.string u, .int .i64 8] 200))).heap[P3]? = some (.cells #[.int .i64 (a : Int), .int .i64 (b : Int), .int .i64 (c : Int)] 190 (0, 0))) := (hbx.block _ (lt_of_block HN3R.out)).trans HN3R.out
              have HMO : Hid (M ≠ wr.heap.size) := by have := HMLT.out; show M ≠ _; omega
              have HPO : Hid (P3 ≠ wr.heap.size) := by have := lt_of_block HN3R.out; show P3 ≠ _; omega
              have HMLX : Hid (M < ((wr.alloc (.cells #[.string u, .int .i64 8] 200))).heap.size) := Nat.lt_trans HMLT.out hox
              have HPLX : Hid (P3 < ((wr.alloc (.cells #[.string u, .int .i64 8] 200))).heap.size) := lt_of_block HN3X.out
              have HOX := Lib.hid hox
              have HBWX : Hid (Below w.heap.size w (wr.alloc (.cells #[.string u, .int .i64 8] 200))) := Below.trans HBW.out (hbx.mono HBW.out.size)
              have HWX : Hid (w.heap.size ≤ wr.heap.size) := HBW.out.size
              have hc1 := cell_of_row _ _ 1 _ _ _ HN3X.out
              simp only [List.getElem?_toArray, List.getElem?_cons_succ, List.getElem?_cons_zero] at hc1
              clear hrd hok hst hox hbx
              go_wp2_with fail
              clear hc1
              generalize (wr.alloc (.cells #[.string u, .int .i64 8] 200)) = wx at *
              generalize hoo : wr.heap.size = o at *
              have HOO := Lib.hid hoo
              clear hoo
              obtain ⟨k0, hk0⟩ : ∃ k0 : Nat, 8 = k0 := ⟨_, rfl⟩
              have HST : Hid (strm (strN u) k0 = strm (strN u) 8) := by show _ = _; rw [hk0]
              rw [hk0] at HRD HOK
              clear hk0 hu0
              go_loopw [12, 75] (fun tv iv wr => ∃ (i : Nat) (T : List Nat) (oa : Option Addr) (oc : Nat) (y : ByteArray) (j : Nat), tv = .slice oa T.length oc ∧ iv = .int .i64 (i : Int) ∧ i ≤ b ∧ T.length = i ∧ y.size ≤ s.size ∧ RdAt o y j wr ∧ RdOk y j ∧ (∀ x ∈ T, x < 256) ∧
                sysP es b (strm (strN u) 8) = ((sysP es (b - i) (strm (strN y) j)).1, T ++ (sysP es (b - i) (strm (strN y) j)).2.1, (sysP es (b - i) (strm (strN y) j)).2.2) ∧ wr.ownsRow wx.heap.size 5 1 (.slice oa T.length oc) T.length (T.map bV) ∧ wx.grownBy wr (some o)) (fun _ iv _ => b - (intOf iv).toNat)
              case atStart => exact ⟨0, [], none, 0, u, k0, rfl, rfl, Nat.zero_le _, rfl, HUS.out, HRD.out, HOK.out, by simp, by rw [HST.out]; rfl, World.ownsRow_nil _ _ _ _, grown_refl _ _⟩
              case round =>
                obtain ⟨i, T, oa, oc, y, j, rfl, rfl, hi, hTl, hy, hr, hok, hT, hsy, hown, hg⟩ := hrel
                have HY := Lib.hid hy
                have HQ := Lib.hid hr
                have HK := Lib.hid hok
                have HTV := Lib.hid hT
                have HSY := Lib.hid hsy
                have HOWN := Lib.hid hown
                have HGR := Lib.hid hg
                have HTL := Lib.hid hTl
                have hmq : wr.heap[M]? = some (mcO es) := (hg.block _ HMLX.out (by have := HMO.out; simpa using this)).trans HMX.out
                have HMQ := Lib.hid hmq
                have HNQ : Hid (wr.heap[P3]? = some (.cells #[.int .i64 (a : Int), .int .i64 (b : Int), .int .i64 (c : Int)] 190 (0, 0))) := (hg.block _ HPLX.out (by have := HPO.out; simpa using this)).trans HN3X.out
                have HWQ : Hid (Below w.heap.size w wr) := by
                  have h := HBWX.out
                  exact ⟨hg.os.trans h.os, hg.tape.trans h.tape, hg.output.trans h.output, Nat.le_trans h.size hg.size, fun k hk => (hg.block k (Nat.lt_of_lt_of_le hk h.size) (by have := HWX.out; simp; omega)).trans (h.block k hk)⟩
                clear hy hr hok hT hsy hown hg hmq hTl HRD HOK
                by_cases hlt : i < b
                · have m1 : (i : Int) < (b : Int) := by omega
                  obtain ⟨m, hm⟩ : ∃ m, b - i = m + 1 := ⟨b - i - 1, by omega⟩
                  have HM1 := Lib.hid hm
                  have HMI : Hid (b - (i + 1) = m) := by show _ = _; omega
                  clear hm
                  go_wp2_with fail
                  refine (symbol_any o M es y j wr HQ.out HMQ.out HK.out (by have := HY.out; omega)).mono ?_
                  rintro e w5 ⟨hg5, y', j', hr5, hok5, hy5, rfl, hst5⟩
                  obtain ⟨⟨cd, x, r⟩, hR⟩ : ∃ R, syP es 48 0 0 (strm (strN y) j) = R := ⟨_, rfl⟩
                  have hx : x < 256 := by have := syP_val HEV.out 48 0 0 (strm (strN y) j); rw [hR] at this; exact this
                  rw [hR] at hst5 ⊢
                  have HR5 := Lib.hid hR
                  have HG5 := Lib.hid (Lib.grownBy_trans HGR.out hg5)
                  have HRD5 := Lib.hid hr5
                  have HOK5 := Lib.hid hok5
                  have HY5 := Lib.hid hy5
                  have HST5 := Lib.hid hst5
                  have HOWN5 : Hid (w5.ownsRow wx.heap.size 5 1 (.slice oa T.length oc) T.length (T.map bV)) := own_keep HOWN.out (fun g cs hgc hge => hg5.block g (lt_of_block hgc) (by have := HOX.out; simp; omega))
                  have HG5S : Hid (wx.heap.size ≤ w5.heap.size) := HG5.out.size
                  have HW5 : Hid (Below w.heap.size w w5) := by
                    have h := HWQ.out
                    exact ⟨hg5.os.trans h.os, hg5.tape.trans h.tape, hg5.output.trans h.output, Nat.le_trans h.size hg5.size, fun k hk => (hg5.block k (Nat.lt_of_lt_of_le hk h.size) (by have := HWX.out; simp; omega)).trans (h.block k hk)⟩
                  clear hg5 hr5 hok5 hy5 hst5 hR
                  by_cases hcd : cd = 0
                  · subst hcd
                    have HRR : Hid (strm (strN y') j' = r) := HST5.out rfl
                    have HS2 : Hid (sysP es b (strm (strN u) 8) = ((sysP es (b - (i + 1)) (strm (strN y') j')).1, (T ++ [x]) ++ (sysP es (b - (i + 1)) (strm (strN y') j')).2.1, (sysP es (b - (i + 1)) (strm (strN y') j')).2.2)) := by
                      show _ = _
                      rw [HSY.out, HM1.out, HMI.out, sysP_more HR5.out, HRR.out]
                      simp
                    have HTV2 : Hid (∀ z ∈ T ++ [x], z < 256) := fun z hz => by
                      rcases List.mem_append.1 hz with h | h
                      · exact HTV.out z h
                      · rw [List.mem_singleton] at h; omega
                    have D1 := Lib.hid (cells_new_at w5 w5.heap.size rfl #[.int .u8 (x : Int)] 5 [.int .u8 (x : Int)] rfl)
                    have D2 : Hid (∀ u ∈ ([.int .u8 (x : Int)] : List Value), u.oneCell' = true) := by intro u hu; simp only [List.mem_cons, List.not_mem_nil, or_false] at hu; subst hu; rfl
                    have D3 : Hid (T.length + 1 ≤ maxLen) := by show _ ≤ _; have := HTL.out; unfold maxLen; omega
                    have D4 : Hid ((T.length + 1) * 1 ≤ 140737488355328) := by show _ ≤ _; have := HTL.out; omega
                    have D5 : Hid (wx.heap.size ≤ (w5.alloc (.cells #[.int .u8 (x : Int)] 5)).heap.size) := by show _ ≤ _; have := HG5S.out; simp; omega
                    have HGA : Hid (wx.grownBy (w5.alloc (.cells #[.int .u8 (x : Int)] 5)) (some o)) := grown_alloc HG5.out _
                    have HRA : Hid (RdAt o y' j' (w5.alloc (.cells #[.int .u8 (x : Int)] 5))) := HRD5.out.below ((Below.refl _ _).alloc (Nat.le_refl _) _)
                    go_wp2_with (at_builtin; refine wpList_append_own _ rfl _ _ 92 rfl wx.heap.size 5 i0 (.int .u8 0) 1 1 Tryd.underlying92 hi0 hz0 hz1 hz2 rfl (by decide) _ _ _ rfl (HOWN5.out.alloc _) ⟨w5.heap.size, 0, none⟩ 1 1 [.int .u8 (x : Int)] rfl rfl D1.out D2.out D3.out D4.out D5.out ?_)
                    intro v' w6 hown' hgrow _
                    have hb6 := below_own (Below.refl wx.heap.size (w5.alloc (.cells #[.int .u8 (x : Int)] 5))) hgrow D5.out (HOWN5.out.alloc _) (Nat.le_refl _)
                    have HG6 : Hid (wx.grownBy w6 (some o)) := ⟨hb6.os.trans HGA.out.os, hb6.tape.trans HGA.out.tape, hb6.output.trans HGA.out.output, Nat.le_trans HGA.out.size hb6.size, fun k hk hx => (hb6.block k hk).trans (HGA.out.block k hk hx)⟩
                    have HR6 : Hid (RdAt o y' j' w6) := (hb6.block o HOX.out).trans HRA.out
                    have HOW6 : Hid (w6.ownsRow wx.heap.size 5 1 v' (T ++ [x]).length ((T ++ [x]).map bV)) := by
                      show w6.ownsRow _ _ _ _ _ _
                      rw [List.length_append, List.map_append]
                      exact hown'
                    clear hown' hgrow hb6
                    obtain ⟨oa', oc', hv'⟩ := own_form HOW6.out
                    subst hv'
                    go_wp2_with fail
                    go_roundw
                    case rel => exact ⟨i + 1, T ++ [x], oa', oc', y', j', by simp, by go_num, by omega, by rw [List.length_append, HTL.out]; rfl, Nat.le_trans HY5.out HY.out, HR6.out, HOK5.out, HTV2.out, HS2.out, HOW6.out, HG6.out⟩
                    case measure => simp [intOf]; omega
                  · have z3 : ((cd : Int) != 0) = true := by simp; omega
                    have HNG : Hid (∀ out, ¬ PGood (strN s) out) := by
                      intro out hgd
                      obtain ⟨T', B', tk, h1, _⟩ := HNGS.out out hgd
                      rw [HSY.out, HM1.out, sysP_bad (by rw [HR5.out]; exact hcd), HR5.out] at h1
                      injection h1 with h1 _
                      exact hcd h1
                    have HCD := Lib.hid hcd
                    clear hcd
                    go_wp2_with fail
                    go_ret2
                    exact OpEnd.bad HW5.out HCD.out HNG.out
                · have m1 : ¬ (i : Int) < (b : Int) := by omega
                  obtain rfl : i = b := by omega
                  have HS0 : Hid (sysP es i (strm (strN u) 8) = (0, T, strm (strN y) j)) := by
                    show _ = _
                    rw [HSY.out, Nat.sub_self, sysP_zero]
                    simp
                  clear hlt hi HSY
                  go_wp2_with fail
                  refine (rest_any o y j wr HQ.out HK.out.1 (by have := HY.out; omega)).mono ?_
                  rintro e w7 ⟨rfl, hb7⟩
                  have HW7 : Hid (Below w.heap.size w w7) := Below.trans HWQ.out (hb7.mono HWQ.out.size)
                  have HN7 : Hid (w7.heap[P3]? = some (.cells #[.int .i64 (a : Int), .int .i64 (i : Int), .int .i64 (c : Int)] 190 (0, 0))) := (hb7.block _ (lt_of_block HNQ.out)).trans HNQ.out
                  have HOWN7 := Lib.hid (own_below HOWN.out hb7)
                  clear hb7
                  cases hrs : restOf y j with
                  | false =>
                    have HNG : Hid (∀ out, ¬ PGood (strN s) out) := by
                      intro out hgd
                      obtain ⟨T', B', tk, h1, h2, h3, _⟩ := HNGS.out out hgd
                      rw [HS0.out] at h1
                      injection h1 with _ h1
                      injection h1 with _ h1
                      subst h1
                      rw [rest_good HK.out h2 h3] at hrs
                      cases hrs
                    clear hrs
                    go_wp2_with fail
                    go_ret2
                    exact OpEnd.bad (k := 4) HW7.out (by decide) HNG.out
                  | true =>
                    clear hrs
                    have HTL2 : Hid (T.length ≤ 12288) := by have := HTL.out; show _ ≤ _; omega
                    have hcv := run_string_own (P := Tryd.prog) w7 92 5 9 Tryd.underlying92 Tryd.underlying5 Tryd.underlying9 HTV.out HOWN7.out
                    have hss : strN (strOf T) = T := strN_strOf T HTV.out
                    have hsz : (strOf T).size ≤ 9223372036854775807 := by rw [strOf_size]; have := HTL2.out; omega
                    obtain ⟨ts, hts⟩ : ∃ ts, strOf T = ts := ⟨_, rfl⟩
                    rw [hts] at hcv hss hsz
                    have HTS := Lib.hid hss
                    have HSZ := Lib.hid hsz
                    clear hts hss hsz
                    go_wp2_with fail
                    refine (read_any ts _ HSZ.out).mono ?_
                    rintro e w8 ⟨v, rfl, hown8, hb8⟩
                    clear hcv
                    rw [HTS.out] at hown8 ⊢
                    have hrl := rd_letters T.length T 0 (Nat.le_refl _) HTV.out
                    have hrn := rd_lenP T HTV.out
                    have HW8 : Hid (Below w.heap.size w w8) := Below.trans HW7.out (hb8.mono HW7.out.size)
                    have HN8 : Hid (w8.heap[P3]? = some (.cells #[.int .i64 (a : Int), .int .i64 (i : Int), .int .i64 (c : Int)] 190 (0, 0))) := (hb8.block _ (lt_of_block HN7.out)).trans HN7.out
                    obtain ⟨⟨cd, tk⟩, hR⟩ : ∃ R, rd 0 T = R := ⟨_, rfl⟩
                    rw [hR] at hown8 hrl hrn ⊢
                    have HR8 := Lib.hid hR
                    clear hR hb8
                    obtain ⟨oa8, oc8, rfl, _, _, hsat⟩ := SAt.own hown8 tC_length
                    have HSAT := Lib.hid hsat
                    have HRL : Hid (∀ t ∈ tk, t.1 < 256) := hrl
                    have HRN : Hid (tk.length ≤ 4096) := hrn
                    clear hown8 hsat hrl hrn
                    by_cases hcd : cd = 0
                    · subst hcd
                      have hc0 := cell_of_row _ _ 0 _ _ _ HN8.out
                      simp only [List.getElem?_toArray, List.getElem?_cons_succ, List.getElem?_cons_zero] at hc0
                      go_wp2_with fail
                      refine (expand_any oa8 oc8 tk (a : Int) _ HSAT.out (by have := HRN.out; omega) HRL.out).mono ?_
                      rintro e w9 ⟨rfl, hb9⟩
                      have HW9 : Hid (Below w.heap.size w w9) := Below.trans HW8.out (hb9.mono HW8.out.size)
                      have HN9 : Hid (w9.heap[P3]? = some (.cells #[.int .i64 (a : Int), .int .i64 (i : Int), .int .i64 (c : Int)] 190 (0, 0))) := (hb9.block _ (lt_of_block HN8.out)).trans HN8.out
                      have hd0 := cell_of_row _ _ 0 _ _ _ HN9.out
                      simp only [List.getElem?_toArray, List.getElem?_cons_succ, List.getElem?_cons_zero] at hd0
                      clear hb9 hc0
                      have hxo := xr_okP (a := a) (l := tk) HRL.out
                      obtain ⟨⟨ce, ot⟩, hX⟩ : ∃ X, xr (a : Int) tk = X := ⟨_, rfl⟩
                      rw [hX] at hxo ⊢
                      have HX9 := Lib.hid hX
                      clear hX
                      have HGO : Hid (∀ out, PGood (strN s) out → ce = 0 ∧ out = ot ∧ ot.length = a) := by
                        intro out hgd
                        obtain ⟨T', B', tk', h1, h2, h3, h4, h5, h6⟩ := HNGS.out out hgd
                        rw [HS0.out] at h1
                        injection h1 with _ h1
                        injection h1 with h1 _
                        subst h1
                        rw [HR8.out] at h4
                        injection h4 with _ h4
                        subst h4
                        rw [HX9.out] at h5
                        injection h5 with h5 h7
                        exact ⟨h5, h7.symm, by rw [h7]; exact h6⟩
                      by_cases hce : ce = 0
                      · subst hce
                        obtain ⟨hx1, hx2⟩ := hxo rfl
                        have hx1 : ot.length ≤ a := hx1
                        have hx2 : ∀ c ∈ ot, c < 256 := hx2
                        have hsz := strOf_size ot
                        have hsn : strN (strOf ot) = ot := strN_strOf ot hx2
                        generalize strOf ot = os at *
                        have HSN := Lib.hid hsn
                        clear hsn hxo hx2
                        by_cases hln : os.size < a
                        · have z4 : (os.size : Int) < (a : Int) := by omega
                          have HNG : Hid (∀ out, ¬ PGood (strN s) out) := fun out hgd => by have := (HGO.out out hgd).2.2; omega
                          clear hsz hx1
                          go_wp2_with fail
                          go_ret2
                          exact OpEnd.bad (k := 4) HW9.out (by decide) HNG.out
                        · have z4 : ¬ (os.size : Int) < (a : Int) := by omega
                          have HSL : Hid (os.size ≤ 4096) := by show _ ≤ _; omega
                          clear hsz hx1
                          go_wp2_with fail
                          go_ret2
                          exact ⟨HW9.out, 0, os, rfl, fun h => absurd rfl h, HSL.out, fun out hgd => ⟨rfl, by rw [HSN.out]; exact ((HGO.out out hgd).2.1).symm⟩⟩
                      · have z3 : ((ce : Int) != 0) = true := by simp; omega
                        have HCE := Lib.hid hce
                        have HNG : Hid (∀ out, ¬ PGood (strN s) out) := fun out hgd => hce (HGO.out out hgd).1
                        clear hce hxo
                        go_wp2_with fail
                        go_ret2
                        exact OpEnd.bad HW9.out HCE.out HNG.out
                    · have z3 : ((cd : Int) != 0) = true := by simp; omega
                      have HCD := Lib.hid hcd
                      have HNG : Hid (∀ out, ¬ PGood (strN s) out) := by
                        intro out hgd
                        obtain ⟨T', B', tk', h1, h2, h3, h4, h5, h6⟩ := HNGS.out out hgd
                        rw [HS0.out] at h1
                        injection h1 with _ h1
                        injection h1 with h1 _
                        subst h1
                        rw [HR8.out] at h4
                        injection h4 with h4 _
                        exact hcd h4
                      clear hcd
                      go_wp2_with fail
                      go_ret2
                      exact OpEnd.bad HW8.out HCD.out HNG.out
  · have z1 : ((k : Int) != 0) = true := by simp; omega
    have HNG : Hid (∀ out, ¬ PGood (strN s) out) := by
      rintro out ⟨a', b', c', R, l, R2, cs, T, B, tk, h1, _⟩
      have h2 := HKE.out
      rw [h1] at h2
      exact hk0 h2
    have HK0 := Lib.hid hk0
    clear hk0
    go_wp2_with fail
    go_ret2
    exact OpEnd.bad (HB1.out.alloc HB1.out.size _) HK0.out HNG.out
end Go.Proofs.YtbfhhnpoogmlnaaDoor
