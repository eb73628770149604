/- The walks of LzBack and LzLeast. -/
import Derived.Test.YtdcpihmlgaegmaaLzExpand
import Derived.Test.YtdcpihmlgaegmaaLzGreedyW
namespace Go.Proofs.Ytdcpihmlgaegmaa
open Go.RowKit Plain
namespace Plain
theorem ex_lt (most : Nat) : ∀ (n : Nat) (l : List Tok) (o : List Nat), l.length = n → (∀ t ∈ l, t.1 < 256) → ex most l = (0, o) → (∀ c ∈ o, c < 256) ∧ o.length ≤ most
  | 0, l, o, hn, _, h => by
    obtain rfl := List.eq_nil_of_length_eq_zero hn
    rw [ex_nil] at h
    obtain rfl : [] = o := congrArg Prod.snd h
    exact ⟨by simp, by simp⟩
  | n + 1, l, o, hn, hl, h => by
    obtain ⟨m, t, rfl⟩ := snoc_of l (by intro h0; subst h0; cases hn)
    rw [ex_snoc] at h
    have ht := hl t (by simp)
    unfold xs at h
    by_cases h0 : (ex most m).1 ≠ 0
    · rw [if_pos h0] at h; rw [h] at h0; exact absurd rfl h0
    · rw [if_neg h0] at h
      have he : ex most m = (0, (ex most m).2) := by
        have : (ex most m).1 = 0 := by simpa using h0
        rw [← this]
      obtain ⟨ih, ih2⟩ := ex_lt most n m _ (by simpa using hn) (fun x hx => hl x (List.mem_append_left _ hx)) he
      generalize (ex most m).2 = o1 at *
      by_cases h1 : (o1.length : Int) < t.2.2
      · rw [if_pos h1] at h; cases h
      · rw [if_neg h1] at h
        by_cases h2 : (most : Int) < o1.length + max t.2.1 1
        · rw [if_pos h2] at h; cases h
        · rw [if_neg h2] at h
          obtain rfl : put1 t o1 = o := congrArg Prod.snd h
          unfold put1
          split
          · refine ⟨fun c hc => ?_, by rw [List.length_append, List.length_singleton]; omega⟩
            rcases List.mem_append.1 hc with hc | hc
            · exact ih c hc
            · simp only [List.mem_singleton] at hc
              subst hc
              exact ht
          · exact ⟨cp_lt _ _ _ ih, by rw [cp_length]; omega⟩
theorem lchk_gr {s : List Nat} {l : List Tok} (h : Gr s s.length l) (hs : s.length ≤ 4096) : lchk l = 0 := lchk_ok.2 ⟨by have := h.le.2; omega, h.formed⟩
theorem xr_bad {most : Int} {l : List Tok} (h : (xr most l).1 ≠ 0) : (xr most l).2 = [] := by
  unfold xr at h ⊢
  split
  · rfl
  · split
    · rfl
    · rename_i h1 h2
      rw [if_neg h1, if_neg h2] at h
      rcases ex_bad most.toNat l with h3 | h3 | h3
      · exact absurd h3 h
      · rw [h3]
      · rw [h3]
theorem gr_aaaa {l : List Tok} (h : Gr [97, 97, 97, 97] 4 l) : l.length = 2 := by
  have h1 := greedy_least (most := 4096) (l := [(97, 0, 0), (0, 3, 1)]) (t := [97, 97, 97, 97]) (by decide) (by decide) h
  have h2 : l.length ≤ 2 := h1
  have h3 : 2 ≤ l.length := by
    generalize hn : 4 = n at h
    cases h with
    | nil => cases hn
    | @step a L d m hg ha hb =>
      cases hg with
      | nil =>
        obtain ⟨b1, b2, b3, b4, _⟩ := hb
        have := b3 (by omega)
        omega
      | @step a' L' d' m' hg' ha' hb' => simp
  omega
end Plain
theorem expand_any (a : Option Addr) (cap : Nat) (l : List Tok) (most : Int) (w : World) (h : SAt 3 tC w a l) (hl : l.length ≤ 9223372036854775807) (hlt : ∀ t ∈ l, t.1 < 256) : Calls Try.prog 17 #[.slice a l.length cap, .int .i64 most] w (XEnd w (xr most l)) := by
  by_cases h1 : most < 0 ∨ 4096 < most
  · exact expand_arg a cap l most w h1
  · obtain ⟨m, rfl⟩ := Int.eq_ofNat_of_zero_le (show 0 ≤ most by omega)
    by_cases hk : lchk l = 0
    · have e : xr m l = ex m l := by unfold xr; rw [if_neg h1, if_neg (by simpa using hk)]; rfl
      rw [e]
      exact expand_ok a cap l m w (by omega) h hl hlt hk
    · exact expand_chk a cap l m w (by omega) h hl hk
theorem same_str2 {a b : ByteArray} (h : a = b) : (a.toList == b.toList) = true := by subst h; simp
theorem same_str3 {a b : ByteArray} (h : a = b) : (a.toList != b.toList) = false := by subst h; simp
def lC : Array Value := #[.int .u8 97, .int .i64 0, .int .i64 0, .int .u8 0, .int .i64 3, .int .i64 1]
theorem sat_lit (w : World) : SAt 3 tC (w.alloc (.cells lC 37)) (some ⟨w.heap.size, 0, none⟩) [(97, 0, 0), (0, 3, 1)] := by
  intro i hi
  refine ⟨w.heap.size, 0, rfl, by simp, fun j u hu => ?_⟩
  rw [cell_of_row _ _ _ _ _ _ (heap_alloc_new w (.cells lC 37))]
  have hi2 : i < 2 := hi
  have hj : j < 3 := by
    rcases Nat.lt_or_ge j 3 with h | h
    · exact h
    · rw [List.getElem?_eq_none (by rw [tC_length]; exact h)] at hu; cases hu
  rw [← hu]
  match i, hi2, j, hj with
  | 0, _, 0, _ => rfl
  | 0, _, 1, _ => rfl
  | 0, _, 2, _ => rfl
  | 1, _, 0, _ => rfl
  | 1, _, 1, _ => rfl
  | 1, _, 2, _ => rfl
set_option maxRecDepth 100000 in
set_option maxHeartbeats 1000000 in
theorem lzLeast_any (a : Option Addr) (cap : Nat) (l : List Tok) (w : World) (h : SAt 3 tC w a l) (hl : l.length ≤ 9223372036854775807) (hlt : ∀ t ∈ l, t.1 < 256) :
    Calls Try.prog 6 #[.slice a l.length cap] w fun e w' => e = .returned (.bool true) ∧ Below w.heap.size w w' := by
  have HG := Lib.hid fun wx => greedy_any ⟨#[97, 97, 97, 97]⟩ wx (by decide)
  have HE := Lib.hid fun wx (hx : SAt 3 tC wx a l) => expand_any a cap l 4096 wx hx hl hlt
  have HS := Lib.hid h
  have HLT := Lib.hid hlt
  clear h hlt
  go_enter Try.func6, Try.ntmps6
  go_wp2_with fail
  refine (HG.out _).mono ?_
  rintro e w1 ⟨b, m, c, rfl, _, hgr, hb1⟩
  have hm2 : m.length = 2 := gr_aaaa hgr
  rw [hm2]
  clear hgr hm2
  go_wp2_with fail
  refine (HE.out _ (HS.out.below hb1)).mono ?_
  rintro e w2 ⟨rfl, hb2⟩
  have HB2 := Lib.hid (Below.step hb1 hb2)
  clear hb1 hb2
  by_cases hr : (xr 4096 l).1 = 0
  · have he : xr 4096 l = ex 4096 l ∧ lchk l = 0 := by
      unfold xr at hr ⊢
      rw [if_neg (by decide)] at hr ⊢
      by_cases hk : lchk l = 0
      · rw [if_neg (by simpa using hk)]; exact ⟨rfl, hk⟩
      · rw [if_pos hk] at hr; exact absurd hr hk
    have he2 : ex 4096 l = (0, (xr 4096 l).2) := by rw [← he.1, ← hr]
    obtain ⟨ho, hol⟩ := ex_lt 4096 _ l _ rfl HLT.out he2
    have hfo := (lchk_ok.1 he.2).2
    rw [hr]
    generalize (xr 4096 l).2 = o at *
    have hst := strN_strOf o ho
    have HG2 := Lib.hid fun wx => greedy_any (strOf o) wx (by rw [strOf_size]; exact hol)
    rw [hst] at HG2
    have HE2 := Lib.hid he2
    have HFO := Lib.hid hfo
    clear hr he he2 ho hol hfo hst
    go_wp2_with fail
    refine (HG2.out _).mono ?_
    rintro e w3 ⟨b, m, c, rfl, _, hgr, hb3⟩
    have hle : (m.length : Int) ≤ (l.length : Int) := by have := greedy_least HFO.out HE2.out hgr; omega
    have hle2 : m.length ≤ l.length := by omega
    have HB3 := Lib.hid (Below.step HB2.out hb3)
    clear hgr hb3
    go_wp2_with fail
    go_ret
    exact ⟨rfl, HB3.out⟩
  · have hb := xr_bad hr
    rw [hb]
    have f1 : (((xr 4096 l).1 : Int) != 0) = true := by simpa using hr
    have f3 : (strOf []).toList.isEmpty = true := empty_str (strOf_size [])
    generalize (xr 4096 l).1 = k at *
    generalize strOf [] = t at *
    clear hr hb
    go_wp2_with fail
    go_ret
    exact ⟨rfl, HB2.out⟩
set_option maxRecDepth 100000 in
set_option maxHeartbeats 2000000 in
theorem lzBack_any (s : ByteArray) (w : World) (hs : s.size ≤ 9223372036854775807) :
    Calls Try.prog 5 #[.string s] w fun e w' => e = .returned (.bool true) ∧ Below w.heap.size w w' := by
  have HX1 := Lib.hid fun wx (hx : SAt 3 tC wx (some ⟨w.heap.size, 0, none⟩) [(97, 0, 0), (0, 3, 1)]) => expand_any (some ⟨w.heap.size, 0, none⟩) 2 [(97, 0, 0), (0, 3, 1)] 4 wx hx (by decide) (by decide)
  have hx4 : xr 4 [(97, 0, 0), (0, 3, 1)] = (0, [97, 97, 97, 97]) := by decide
  rw [hx4] at HX1
  have hst4 : strOf (0, [97, 97, 97, 97]).2 = ⟨#[97, 97, 97, 97]⟩ := rfl
  have HSL := Lib.hid (sat_lit w)
  by_cases hbig : 4096 < s.size
  · have HG := Lib.hid fun wx => greedy_large s wx hbig
    have n1 : (4096 : Int) < (s.size : Int) := by omega
    go_enter Try.func5, Try.ntmps5
    go_wp2_with fail
    refine (HX1.out _ HSL.out).mono ?_
    rintro e w1 ⟨rfl, hb1⟩
    rw [hst4]
    have HB1 := Lib.hid (Below.step ((Below.refl _ _).alloc (Nat.le_refl _) (.cells lC 37)) hb1)
    clear hb1
    go_wp2_with fail
    refine (HG.out _).mono ?_
    rintro e w2 ⟨rfl, hb2⟩
    have HB2 := Lib.hid (Below.step HB1.out hb2)
    clear hb2
    go_wp2_with fail
    go_ret
    exact ⟨rfl, HB2.out⟩
  · have n1 : ¬ (4096 : Int) < (s.size : Int) := by omega
    have n2 : ¬ 4096 < s.size := hbig
    have HG := Lib.hid fun wx => greedy_any s wx (by omega)
    go_enter Try.func5, Try.ntmps5
    go_wp2_with fail
    refine (HX1.out _ HSL.out).mono ?_
    rintro e w1 ⟨rfl, hb1⟩
    rw [hst4]
    have HB1 := Lib.hid (Below.step ((Below.refl _ _).alloc (Nat.le_refl _) (.cells lC 37)) hb1)
    clear hb1
    go_wp2_with fail
    refine (HG.out _).mono ?_
    rintro e w2 ⟨b, m, c, rfl, hown, hgr, hb2⟩
    have HB2 := Lib.hid (Below.step HB1.out hb2)
    clear hb2
    obtain ⟨b', c', hbc, _, hcm, hsa⟩ := SAt.own hown tC_length
    injection hbc with hbc _ hcc
    subst hbc hcc
    have hln := strN_length s
    have hml : m.length ≤ s.size := by rw [← hln]; exact hgr.le.2
    have hk := lchk_gr hgr (by rw [hln]; omega)
    have hlit := hgr.lit (strN_lt s)
    have hex := hgr.ex s.size (by rw [hln]; exact Nat.le_refl _)
    rw [List.take_of_length_le (Nat.le_refl _)] at hex
    have hxr : xr (s.size : Int) m = (0, strN s) := by unfold xr; rw [if_neg (by omega), if_neg (by simpa using hk)]; exact hex
    have HE := Lib.hid fun wx (hx : SAt 3 tC wx b m) => expand_any b c m (s.size : Int) wx hx (by omega) hlit
    rw [hxr] at HE
    have hst : strOf (0, strN s).2 = s := strOf_strN s
    have HE2 := Lib.hid fun wx (hx : SAt 3 tC wx b m) => expand_any b c m ((s.size : Int) - 1) wx hx (by omega) hlit
    have HSA := Lib.hid hsa
    have g1 : ¬ s.size < m.length := by omega
    have g2 : ¬ (s.size : Int) < (m.length : Int) := by omega
    have g3 := same_str3 (rfl : s = s)
    by_cases h0 : s.size = 0
    · have hxr2 : xr ((s.size : Int) - 1) m = (1, []) := by unfold xr; rw [if_pos (by omega)]
      rw [hxr2] at HE2
      have g4 := empty_str h0
      clear hown hgr hsa hex hxr hxr2 hk hlit hln h0
      go_wp2_with fail
      refine (HE.out _ HSA.out).mono ?_
      rintro e w3 ⟨rfl, hb3⟩
      rw [hst]
      have HB3 := Lib.hid (Below.step HB2.out hb3)
      have HSA2 := Lib.hid (HSA.out.below hb3)
      clear hb3
      go_wp2_with fail
      refine (HE2.out _ HSA2.out).mono ?_
      rintro e w4 ⟨rfl, hb4⟩
      have HB4 := Lib.hid (Below.step HB3.out hb4)
      clear hb4
      go_wp2_with fail
      go_ret
      exact ⟨rfl, HB4.out⟩
    · have hlg := hgr.large (by rw [hln]; exact h0)
      rw [hln] at hlg
      have hxr2 : xr ((s.size : Int) - 1) m = (2, []) := by
        unfold xr
        rw [if_neg (by omega), if_neg (by simpa using hk)]
        rw [show ((s.size : Int) - 1).toNat = s.size - 1 by omega]
        exact hlg
      rw [hxr2] at HE2
      have g4 := full_str h0
      clear hown hgr hsa hex hxr hxr2 hk hlit hln hlg
      go_wp2_with fail
      refine (HE.out _ HSA.out).mono ?_
      rintro e w3 ⟨rfl, hb3⟩
      rw [hst]
      have HB3 := Lib.hid (Below.step HB2.out hb3)
      have HSA2 := Lib.hid (HSA.out.below hb3)
      clear hb3
      go_wp2_with fail
      refine (HE2.out _ HSA2.out).mono ?_
      rintro e w4 ⟨rfl, hb4⟩
      have HB4 := Lib.hid (Below.step HB3.out hb4)
      clear hb4
      go_wp2_with fail
      go_ret
      exact ⟨rfl, HB4.out⟩
end Go.Proofs.Ytdcpihmlgaegmaa
