/- Press: the compressed form, as it is written, is one that opens as the string. -/
import Derived.Test.YtbfhhnpoogmlnaaDoorPressOpen
import Derived.Test.YtbfhhnpoogmlnaaDoorPressBackP
import Derived.Test.YtbfhhnpoogmlnaaDoorHuffFullW
namespace Go.Proofs.YtbfhhnpoogmlnaaDoor
open Go.RowKit Plain
theorem at0_of_mem {o : List Nat} {x : Nat} (h : 0 < at0 o x) : x < o.length := at0_lt h
theorem pgood {s t F o cs W N1 N2 N3 : List Nat} {tk : List Tok} {k : Nat} (hs : s.length ≤ 4096) (hg : Gr s s.length tk) (ht : t = pk tk) (hF : F.length = 256) (hFt : ∀ x ∈ t, 0 < at0 F x) (hfin : FinH F o)
    (hcode : IsCode (intF o) cs) (hz : ∀ t, t < (intF o).length → ¬ 0 < (intF o).getD t 0 → cs.getD t 0 = 0) (h1 : Num s.length N1) (h2 : Num t.length N2) (h3 : Num (prn (intF o) 0 256) N3)
    (hW : WB W k (t.flatMap fun x => bitsL (cs.getD x 0) ((intF o).getD x 0).toNat)) : PGood (N1 ++ (N2 ++ (N3 ++ (prs (intF o) 0 256 ++ W)))) s := by
  have hol : (intF o).length = 256 := by rw [intF_len, hfin.len, hF]
  have hle := hg.le
  have htl : t.length ≤ 12288 := by rw [ht]; have := pk_length tk; omega
  have hb48 : ∀ b, b < (intF o).length → 0 ≤ (intF o).getD b 0 ∧ (intF o).getD b 0 ≤ 48 := fun b _ => by
    rw [intF_getD]; have := hfin.le b; omega
  have hb : ∀ n ∈ intF o, n ≤ 48 := fun n hn => by
    obtain ⟨i, hi, rfl⟩ := List.mem_iff_getElem.1 hn
    have := (hb48 i hi).2
    rwa [List.getD_eq_getElem?_getD, List.getElem?_eq_getElem hi] at this
  have hks : ks (intF o) ≤ 281474976710656 := by
    rw [ks_eq hfin, hfin.kf]
    split
    · omega
    · split <;> omega
  have hpr : prn (intF o) 0 256 ≤ 256 := by
    unfold prn
    have := List.countP_le_length (p := fun b => decide (0 < (intF o).getD b 0)) (l := List.range' 0 256)
    rwa [List.length_range'] at this
  have hlch : lchk tk = 0 := lchk_gr hg hs
  refine ⟨s.length, t.length, prn (intF o) 0 256, prs (intF o) 0 256 ++ W, intF o, W, cs, t, List.replicate k 0, tk, ?_, ?_, ?_, hks, hcode, hz, ?_, ?_, ?_, ?_, ?_, rfl⟩
  · show nmP (4096 :: 12288 :: 256 :: []) _ = _
    rw [nmP_more (by rw [getN_num h1]) (by rw [getN_num h1]; simp only; omega)]
    rw [getN_num h1]
    simp only [List.drop_left]
    rw [nmP_more (by rw [getN_num h2]) (by rw [getN_num h2]; simp only; omega)]
    rw [getN_num h2]
    simp only [List.drop_left]
    rw [nmP_more (by rw [getN_num h3]) (by rw [getN_num h3]; simp only; omega)]
    rw [getN_num h3]
    simp only [List.drop_left, nmP]
  · exact lnP_prs (intF o) hb48 W 256 0 (-1) zLen (by rw [hol]) (by decide) (by rw [hol]; unfold zLen; exact List.length_replicate) (fun b hbb => absurd hbb (Nat.not_lt_zero _)) (fun b _ hbl => by unfold zLen; rw [List.getD_eq_getElem?_getD, List.getElem?_replicate, if_pos (by omega)]; rfl)
  · rw [kr_eq hfin (by omega) (by omega), ← ks_eq hfin]
  · rw [hW.strm]
    have h := sysP_syms hcode hb hks (List.replicate k 0) t (fun x hx => by
      have h0 := (hfin.pos x).1 (hFt x hx)
      exact ⟨by rw [intF_len]; exact at0_lt h0, by rw [intF_getD]; omega⟩)
    rw [hol] at h
    exact h
  · rw [List.length_replicate]; exact hW.2.1
  · intro x hx; exact (List.mem_replicate.1 hx).2
  · rw [ht]; exact rd_pk tk 0 (by omega) hg.formed
  · unfold xr
    rw [if_neg (by omega), if_neg (by rw [hlch]; exact fun h => h rfl), Int.toNat_natCast, hg.ex s.length (Nat.le_refl _), List.take_of_length_le (Nat.le_refl _)]
end Go.Proofs.YtbfhhnpoogmlnaaDoor
