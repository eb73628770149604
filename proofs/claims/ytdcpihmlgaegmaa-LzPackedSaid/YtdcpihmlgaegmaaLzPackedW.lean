/- The walk of LzPacked (printed by gen_lzpacked.py). -/
import Derived.Test.YtdcpihmlgaegmaaLzPack
import Derived.Test.YtdcpihmlgaegmaaLzRead
import Derived.Test.YtdcpihmlgaegmaaLzEq
namespace Go.Proofs.Ytdcpihmlgaegmaa
open Go.RowKit Plain
theorem same_str {a b : ByteArray} (h : a = b) : (a.toList == b.toList) = true := by subst h; simp
theorem rd_letters : ∀ (n : Nat) (s : List Nat) (k : Nat), s.length ≤ n → (∀ c ∈ s, c < 256) → ∀ t ∈ (rd k s).2, t.1 < 256
  | 0, s, k, hn, _, t, ht => by rw [rd_nil k s (by omega)] at ht; simp at ht
  | n + 1, s, k, hn, hs, t, ht => by
    by_cases h0 : s.length = 0
    · rw [rd_nil k s h0] at ht; simp at ht
    · by_cases h1 : s.length < tn s
      · rw [rd_short k s h0 h1] at ht; simp at ht
      · by_cases h2 : formed (tk s) = false
        · rw [rd_form k s h0 (by omega) h2] at ht; simp at ht
        · by_cases h3 : k = 4096
          · rw [rd_large k s h0 (by omega) (by simpa using h2) h3] at ht; simp at ht
          · have htn := tn_pos s
            rw [rd_more k s h0 (by omega) (by simpa using h2) h3] at ht
            split at ht
            · rcases List.mem_cons.1 ht with rfl | ht
              · unfold tk
                split
                · exact getD_lt hs 1
                · exact Nat.zero_lt_succ _
              · exact rd_letters n _ _ (by rw [List.length_drop]; omega) (fun c hc => hs c (List.mem_of_mem_drop hc)) t ht
            · simp at ht
theorem strOf_lt_size (l : List Nat) : (strOf l).size = l.length := strOf_size l
set_option maxRecDepth 100000 in
set_option maxHeartbeats 2000000 in
theorem lzPacked_any (a : Option Addr) (cap : Nat) (l : List Tok) (s : ByteArray) (w : World) (h : SAt 3 tC w a l) (hl : l.length ≤ 9223372036854775807) (hlt : ∀ t ∈ l, t.1 < 256) (hs : s.size ≤ 9223372036854775807) :
    Calls Try.prog 4 #[.slice a l.length cap, .string s] w fun e w' => e = .returned (.bool true) ∧ Below w.heap.size w w' := by
  have HP := Lib.hid fun wx (hx : SAt 3 tC wx a l) => pack_any a cap l wx hx hl hlt
  have HL := Lib.hid h
  have HRS := Lib.hid fun wx => read_any s wx hs
  have HSZ := Lib.hid hs
  clear h hs
  by_cases hc : lchk l = 0
  · obtain ⟨hc1, hc2⟩ := lchk_ok.1 hc
    have hrd := rd_pk l 0 (by omega) hc2
    have hst := strN_strOf (pk l) (pk_lt l hlt)
    have HT := Lib.hid fun wx => read_any (strOf (pk l)) wx (by rw [strOf_size]; have := pk_length l; omega)
    rw [hst, hrd] at HT
    rw [hc] at HP
    simp only [if_true] at HP
    have HEQ := Lib.hid fun wx b cb (hx : SAt 3 tC wx a l) (hy : SAt 3 tC wx b l) => eqTok_any a b cap cb l l wx hx hy hl hl
    simp only [decide_true] at HEQ
    generalize strOf (pk l) = t at *
    clear hc hc1 hc2 hrd hst
    by_cases hr : (rd 0 (strN s)).1 = 0
    · obtain ⟨hp1, hp2, hp3⟩ := pk_rd (strN s).length (strN s) 0 (Nat.le_refl _) (by omega) (strN_lt s) hr
      have hck := lchk_ok.2 ⟨by omega, hp3⟩
      have h256 : ∀ t ∈ (rd 0 (strN s)).2, t.1 < 256 := by
        intro t ht
        have := hp3 t ht
        apply Classical.byContradiction
        intro hge
        unfold formed at this
        have hb := rd_letters (strN s).length (strN s) 0 (Nat.le_refl _) (strN_lt s) t ht
        omega
      have hlen : (rd 0 (strN s)).2.length ≤ 9223372036854775807 := by omega
      have HP2 := Lib.hid fun wx b cb (hx : SAt 3 tC wx b (rd 0 (strN s)).2) => pack_any b cb (rd 0 (strN s)).2 wx hx hlen h256
      rw [hck] at HP2
      simp only [if_true] at HP2
      rw [hp1, strOf_strN] at HP2
      obtain ⟨R, hR⟩ : ∃ R, R = rd 0 (strN s) := ⟨_, rfl⟩
      rw [← hR] at HRS HP2 hr
      have HR0 := Lib.hid hr
      have fs := same_str (rfl : s = s)
      clear hR hr hp1 hp2 hp3 hck h256 hlen
      go_enter Try.func4, Try.ntmps4
      go_wp2_with fail
      refine (HP.out _ HL.out).mono ?_
      rintro e w1 ⟨rfl, hb1⟩
      go_wp2_with fail
      refine (HT.out _).mono ?_
      rintro e w2 ⟨v, rfl, hown, hb2⟩
      obtain ⟨b, cb, rfl, _, _, hsb⟩ := SAt.own hown tC_length
      have HB2 := Lib.hid (Below.step hb1 hb2)
      have HSB := Lib.hid hsb
      clear hb1 hb2 hown hsb
      go_wp2_with fail
      refine (HEQ.out _ _ _ (HL.out.below HB2.out) HSB.out).mono ?_
      rintro e w3 ⟨rfl, hb3⟩
      have HB3 := Lib.hid (Below.step HB2.out hb3)
      clear hb3
      go_wp2_with fail
      refine (HRS.out _).mono ?_
      rintro e w4 ⟨v2, rfl, hown2, hb4⟩
      obtain ⟨d, cd, rfl, _, _, hsd⟩ := SAt.own hown2 tC_length
      have HB4 := Lib.hid (Below.step HB3.out hb4)
      have HSD := Lib.hid hsd
      clear hb4 hown2 hsd
      have hr0 := HR0.out
      rw [hr0]
      clear hr0
      go_wp2_with fail
      refine (HP2.out _ _ _ HSD.out).mono ?_
      rintro e w5 ⟨rfl, hb5⟩
      have HB5 := Lib.hid (Below.step HB4.out hb5)
      clear hb5
      go_wp2_with fail
      go_ret
      exact ⟨rfl, HB5.out⟩
    · obtain ⟨hp1, hp2⟩ := rd_err 0 (strN s) hr
      rw [strN_length] at hp2
      have hr4 := rd_le 0 (strN s)
      have HP2 := Lib.hid fun wx b cb (hx : SAt 3 tC wx b ([] : List Tok)) => pack_any b cb [] wx hx (by simp) (by simp)
      obtain ⟨R, hR⟩ : ∃ R, R = rd 0 (strN s) := ⟨_, rfl⟩
      rw [← hR] at HRS hr hp1
      have f1 : (((R.1 : Nat) : Int) != 0) = true := by simpa using hr
      have f2 : (((R.1 : Nat) : Int) == 0) = false := by rw [beq_eq_false_iff_ne]; omega
      have HRE := Lib.hid hp1
      have f3 : (0 : Int) < (s.size : Int) := by omega
      have f4 : 0 < s.size := by omega
      have f5 : ¬ s.size = 0 := by omega
      clear hR hr hp1 hp2 hr4
      go_enter Try.func4, Try.ntmps4
      go_wp2_with fail
      refine (HP.out _ HL.out).mono ?_
      rintro e w1 ⟨rfl, hb1⟩
      go_wp2_with fail
      refine (HT.out _).mono ?_
      rintro e w2 ⟨v, rfl, hown, hb2⟩
      obtain ⟨b, cb, rfl, _, _, hsb⟩ := SAt.own hown tC_length
      have HB2 := Lib.hid (Below.step hb1 hb2)
      have HSB := Lib.hid hsb
      clear hb1 hb2 hown hsb
      go_wp2_with fail
      refine (HEQ.out _ _ _ (HL.out.below HB2.out) HSB.out).mono ?_
      rintro e w3 ⟨rfl, hb3⟩
      have HB3 := Lib.hid (Below.step HB2.out hb3)
      clear hb3
      go_wp2_with fail
      refine (HRS.out _).mono ?_
      rintro e w4 ⟨v2, rfl, hown2, hb4⟩
      obtain ⟨d, cd, rfl, _, _, hsd⟩ := SAt.own hown2 tC_length
      have HB4 := Lib.hid (Below.step HB3.out hb4)
      have HSD := Lib.hid hsd
      clear hb4 hown2 hsd
      have hre := HRE.out
      rw [hre] at HSD ⊢
      clear hre
      go_wp2_with fail
      refine (HP2.out _ _ _ HSD.out).mono ?_
      rintro e w5 ⟨rfl, hb5⟩
      have HB5 := Lib.hid (Below.step HB4.out hb5)
      clear hb5
      go_wp2_with fail
      go_ret
      exact ⟨rfl, HB5.out⟩
  · have hrd := rd_nil 0 [] rfl
    have hst := strN_strOf [] (by simp)
    have HT := Lib.hid fun wx => read_any (strOf []) wx (by decide)
    rw [hst, hrd] at HT
    rw [if_neg hc] at HP
    have f0 : (((lchk l : Nat) : Int) == 0) = false := by rw [beq_eq_false_iff_ne]; omega
    generalize lchk l = c at *
    generalize strOf [] = t at *
    clear hc hrd hst
    by_cases hr : (rd 0 (strN s)).1 = 0
    · obtain ⟨hp1, hp2, hp3⟩ := pk_rd (strN s).length (strN s) 0 (Nat.le_refl _) (by omega) (strN_lt s) hr
      have hck := lchk_ok.2 ⟨by omega, hp3⟩
      have h256 : ∀ t ∈ (rd 0 (strN s)).2, t.1 < 256 := by
        intro t ht
        have := hp3 t ht
        apply Classical.byContradiction
        intro hge
        unfold formed at this
        have hb := rd_letters (strN s).length (strN s) 0 (Nat.le_refl _) (strN_lt s) t ht
        omega
      have hlen : (rd 0 (strN s)).2.length ≤ 9223372036854775807 := by omega
      have HP2 := Lib.hid fun wx b cb (hx : SAt 3 tC wx b (rd 0 (strN s)).2) => pack_any b cb (rd 0 (strN s)).2 wx hx hlen h256
      rw [hck] at HP2
      simp only [if_true] at HP2
      rw [hp1, strOf_strN] at HP2
      obtain ⟨R, hR⟩ : ∃ R, R = rd 0 (strN s) := ⟨_, rfl⟩
      rw [← hR] at HRS HP2 hr
      have HR0 := Lib.hid hr
      have fs := same_str (rfl : s = s)
      clear hR hr hp1 hp2 hp3 hck h256 hlen
      go_enter Try.func4, Try.ntmps4
      go_wp2_with fail
      refine (HP.out _ HL.out).mono ?_
      rintro e w1 ⟨rfl, hb1⟩
      go_wp2_with fail
      refine (HT.out _).mono ?_
      rintro e w2 ⟨v, rfl, hown, hb2⟩
      have HB3 := Lib.hid (Below.step hb1 hb2)
      clear hb1 hb2 hown
      go_wp2_with fail
      refine (HRS.out _).mono ?_
      rintro e w4 ⟨v2, rfl, hown2, hb4⟩
      obtain ⟨d, cd, rfl, _, _, hsd⟩ := SAt.own hown2 tC_length
      have HB4 := Lib.hid (Below.step HB3.out hb4)
      have HSD := Lib.hid hsd
      clear hb4 hown2 hsd
      have hr0 := HR0.out
      rw [hr0]
      clear hr0
      go_wp2_with fail
      refine (HP2.out _ _ _ HSD.out).mono ?_
      rintro e w5 ⟨rfl, hb5⟩
      have HB5 := Lib.hid (Below.step HB4.out hb5)
      clear hb5
      go_wp2_with fail
      go_ret
      exact ⟨rfl, HB5.out⟩
    · obtain ⟨hp1, hp2⟩ := rd_err 0 (strN s) hr
      rw [strN_length] at hp2
      have hr4 := rd_le 0 (strN s)
      have HP2 := Lib.hid fun wx b cb (hx : SAt 3 tC wx b ([] : List Tok)) => pack_any b cb [] wx hx (by simp) (by simp)
      obtain ⟨R, hR⟩ : ∃ R, R = rd 0 (strN s) := ⟨_, rfl⟩
      rw [← hR] at HRS hr hp1
      have f1 : (((R.1 : Nat) : Int) != 0) = true := by simpa using hr
      have f2 : (((R.1 : Nat) : Int) == 0) = false := by rw [beq_eq_false_iff_ne]; omega
      have HRE := Lib.hid hp1
      have f3 : (0 : Int) < (s.size : Int) := by omega
      have f4 : 0 < s.size := by omega
      have f5 : ¬ s.size = 0 := by omega
      clear hR hr hp1 hp2 hr4
      go_enter Try.func4, Try.ntmps4
      go_wp2_with fail
      refine (HP.out _ HL.out).mono ?_
      rintro e w1 ⟨rfl, hb1⟩
      go_wp2_with fail
      refine (HT.out _).mono ?_
      rintro e w2 ⟨v, rfl, hown, hb2⟩
      have HB3 := Lib.hid (Below.step hb1 hb2)
      clear hb1 hb2 hown
      go_wp2_with fail
      refine (HRS.out _).mono ?_
      rintro e w4 ⟨v2, rfl, hown2, hb4⟩
      obtain ⟨d, cd, rfl, _, _, hsd⟩ := SAt.own hown2 tC_length
      have HB4 := Lib.hid (Below.step HB3.out hb4)
      have HSD := Lib.hid hsd
      clear hb4 hown2 hsd
      have hre := HRE.out
      rw [hre] at HSD ⊢
      clear hre
      go_wp2_with fail
      refine (HP2.out _ _ _ HSD.out).mono ?_
      rintro e w5 ⟨rfl, hb5⟩
      have HB5 := Lib.hid (Below.step HB4.out hb5)
      clear hb5
      go_wp2_with fail
      go_ret
      exact ⟨rfl, HB5.out⟩
end Go.Proofs.Ytdcpihmlgaegmaa
