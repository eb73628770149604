/- civil.digits, civil.Read: their walks. -/
import Derived.Test.YtplhnlcheamfbaaFmtCivilD
import Derived.Test.YtplhnlcheamfbaaFmtCivilTextP
import Derived.Test.YtplhnlcheamfbaaFmtMem
namespace Go.Proofs.YtplhnlcheamfbaaFmt
open Go.RowKit Plain
set_option linter.unusedVariables false
set_option linter.unusedSimpArgs false
theorem dnm_snoc (l : List Nat) (c : Nat) : dnm (l ++ [c]) = dnm l * 10 + (c - 48) := by simp [dnm]
theorem dnf_le : ∀ (l : List Nat) (n : Nat), isDg l → l.foldl (fun n c => n * 10 + (c - 48)) n + 1 ≤ (n + 1) * 10 ^ l.length
  | [], n, _ => by simp
  | c :: l, n, h => by
    have h1 := dnf_le l (n * 10 + (c - 48)) (fun x hx => h x (by simp [hx]))
    have h2 := h c (by simp)
    rw [List.foldl_cons, List.length_cons, Nat.pow_succ, Nat.mul_comm (10 ^ l.length) 10, ← Nat.mul_assoc]
    exact Nat.le_trans h1 (Nat.mul_le_mul_right _ (by omega))
theorem dnm_le {l : List Nat} (h : isDg l) : dnm l < 10 ^ l.length := by
  have := dnf_le l 0 h
  rw [Nat.zero_add, Nat.one_mul] at this
  exact this
def DgEnd (s : ByteArray) (w0 : World) (e : Ending) (w : World) : Prop := Below w0.heap.size w0 w ∧
  ((isDg (strN s) ∧ e = .returned (.tuple #[.int .i64 (dnm (strN s) : Int), .bool true])) ∨ (¬ isDg (strN s) ∧ e = .returned (.tuple #[.int .i64 0, .bool false])))
set_option maxRecDepth 100000 in
set_option maxHeartbeats 4000000 in
theorem digits_any (s : ByteArray) (w : World) (hs : s.size ≤ 9) :
    Calls Tryf.prog 9 #[.string s] w (DgEnd s w) := by
  go_enter Tryf.func9, Tryf.ntmps9
  go_wp2_with fail
  go_loopw [4, 8] (fun nv iv wr => ∃ i : Nat, iv = .int .i64 (i : Int) ∧ i ≤ s.size ∧ nv = .int .i64 (dnm ((strN s).take i) : Int) ∧ Hid (isDg ((strN s).take i)) ∧ Hid (Below w.heap.size w wr)) (fun _ iv _ => s.size - (intOf iv).toNat)
  case atStart => exact ⟨0, rfl, Nat.zero_le _, by simp [dnm], Lib.hid (by intro c hc; simp at hc), Lib.hid (Below.refl _ _)⟩
  case round =>
    obtain ⟨i, rfl, hi, rfl, HDG, HB⟩ := hrel
    by_cases hlt : i < s.size
    · have m1 : (i : Int) < (s.size : Int) := by omega
      have k0 : (0 : Int) ≤ (i : Int) := Int.natCast_nonneg _
      have hle := dnm_le HDG.out
      have hpw : 10 ^ ((strN s).take i).length ≤ 1000000000 := Nat.le_trans (Nat.pow_le_pow_right (by decide) (show _ ≤ 9 by rw [List.length_take, strN_length]; omega)) (by decide)
      obtain ⟨n, hn⟩ : ∃ n, dnm ((strN s).take i) = n := ⟨_, rfl⟩
      rw [hn] at hle ⊢
      have htk : (strN s).take (i + 1) = (strN s).take i ++ [(strN s)[i]'(by rw [strN_length]; exact hlt)] := List.take_succ_eq_append_getElem (by rw [strN_length]; exact hlt)
      have hx : (strN s)[i]'(by rw [strN_length]; exact hlt) = (s[i]'hlt).toNat := by simp [strN]; rfl
      obtain ⟨x, hx2⟩ : ∃ x, (s[i]'hlt).toNat = x := ⟨_, rfl⟩
      rw [hx, hx2] at htk
      have hmem : x ∈ strN s := by rw [← hx2, ← hx]; exact List.getElem_mem _
      have HTK := Lib.hid htk
      have HMEM := Lib.hid hmem
      have HN := Lib.hid hn
      have HLE : Hid (n < 1000000000) := Nat.lt_of_lt_of_le hle hpw
      have HLT := Lib.hid hlt
      have hnb := HLE.out
      by_cases h48 : x < 48
      · have y1 : (x : Int) < 48 := by omega
        have HNO : Hid (¬ isDg (strN s)) := fun h => by have := h x HMEM.out; omega
        clear htk hx hmem hle hpw hn h48
        go_wp2_with fail
        go_ret2
        exact ⟨HB.out, .inr ⟨HNO.out, rfl⟩⟩
      · by_cases h57 : 57 < x
        · have y1 : ¬ (x : Int) < 48 := by omega
          have y2 : (57 : Int) < (x : Int) := by omega
          have HNO : Hid (¬ isDg (strN s)) := fun h => by have := h x HMEM.out; omega
          clear htk hx hmem hle hpw hn h48 h57
          go_wp2_with fail
          go_ret2
          exact ⟨HB.out, .inr ⟨HNO.out, rfl⟩⟩
        · have y1 : ¬ (x : Int) < 48 := by omega
          have y2 : ¬ (57 : Int) < (x : Int) := by omega
          have hN : dnm ((strN s).take (i + 1)) = n * 10 + (x - 48) := by rw [HTK.out, dnm_snoc, HN.out]
          have HNN := Lib.hid hN
          have HX : Hid (48 ≤ x ∧ x ≤ 57) := by show _ ∧ _; omega
          have HDG2 : Hid (isDg ((strN s).take (i + 1))) := fun c hc => by
            rw [HTK.out] at hc
            rcases List.mem_append.1 hc with h | h
            · exact HDG.out c h
            · rw [List.mem_singleton] at h; subst h; exact HX.out
          have u1 : IntKind.u8.wrap ((x : Int) - 48) = (x : Int) - 48 := by rw [IntKind.wrap_u8]; omega
          have u2 : IntKind.i64.wrap ((n : Int) * 10) = (n : Int) * 10 := by rw [IntKind.wrap_i64]; omega
          have u3 : IntKind.i64.wrap ((n : Int) * 10 + ((x : Int) - 48)) = (n : Int) * 10 + ((x : Int) - 48) := by rw [IntKind.wrap_i64]; omega
          clear htk hx hmem hle hpw hn h48 h57 hN
          go_wp2_with fail
          go_roundw
          case rel => exact ⟨i + 1, by go_num, by have := HLT.out; omega, by rw [HNN.out]; have := HX.out; rw [show ((n * 10 + (x - 48) : Nat) : Int) = (n : Int) * 10 + ((x : Int) - 48) by omega], HDG2, HB⟩
          case measure => simp [intOf]; have := HLT.out; omega
    · have m1 : ¬ (i : Int) < (s.size : Int) := by omega
      have hil : i = s.size := by omega
      have hall : (strN s).take i = strN s := List.take_of_length_le (by rw [strN_length]; omega)
      rw [hall] at HDG ⊢
      have HDG3 := HDG
      clear hil hall hlt
      go_wp2_with fail
      go_ret2
      exact ⟨HB.out, .inl ⟨HDG3.out, rfl⟩⟩
theorem digits_two (s : ByteArray) (w : World) (hs : s.size ≤ 9) :
    Calls Tryf.prog 9 #[.string s] w fun e w' => Below w.heap.size w w' ∧ ∃ (v : Nat) (a : Bool), e = .returned (.tuple #[.int .i64 (v : Int), .bool a]) ∧ (a = true → isDg (strN s) ∧ v = dnm (strN s)) ∧ (a = false → ¬ isDg (strN s)) := by
  refine (digits_any s w hs).mono ?_
  rintro e w1 ⟨hb, ⟨h1, rfl⟩ | ⟨h1, rfl⟩⟩
  · exact ⟨hb, _, true, rfl, fun _ => ⟨h1, rfl⟩, fun h => (by cases h)⟩
  · exact ⟨hb, 0, false, rfl, fun h => (by cases h), fun _ => h1⟩
def RdGood (S : List Nat) : Prop := DForm S ∧ Good (sY S : Int) (sM S : Int) (sD S : Int)
def RdEnd (s : ByteArray) (w0 : World) (e : Ending) (w : World) : Prop := Below w0.heap.size w0 w ∧ ∃ (n : Int) (c : Nat), e = .returned (.tuple #[.int .i64 n, .int .i64 (c : Int)]) ∧
  ((c = 0 ∧ RdGood (strN s) ∧ n = dnum (sY (strN s) : Int) (sM (strN s) : Int) (sD (strN s) : Int)) ∨ (c ≠ 0 ∧ n = 0 ∧ ¬ RdGood (strN s)))
theorem byte_atC (s : ByteArray) (k : Nat) (h : k < s.size) : (s[k]).toNat = (strN s).getD k 0 := by
  rw [← strN_getD, List.getD_eq_getElem?_getD, List.getElem?_eq_getElem (by rw [Array.length_toList]; exact h)]
  rfl
set_option maxRecDepth 100000 in
set_option maxHeartbeats 8000000 in
theorem read_any (s : ByteArray) (w : World) (hs : s.size ≤ 9223372036854775807) :
    Calls Tryf.prog 5 #[.string s] w (RdEnd s w) := by
  have hbad : ∀ W, Below w.heap.size w W → ¬ RdGood (strN s) → RdEnd s w (.returned (.tuple #[.int .i64 0, .int .i64 13])) W := fun W hb hn => ⟨hb, 0, 13, rfl, .inr ⟨by decide, rfl, hn⟩⟩
  have HBAD := Lib.hid hbad
  clear hbad
  by_cases h10 : s.size = 10
  · have q4 : 4 < s.size := by omega
    have q7 : 7 < s.size := by omega
    have e4 := byte_atC s 4 q4
    have e7 := byte_atC s 7 q7
    obtain ⟨x4, hx4⟩ : ∃ x, (s[4]'q4).toNat = x := ⟨_, rfl⟩
    obtain ⟨x7, hx7⟩ : ∃ x, (s[7]'q7).toNat = x := ⟨_, rfl⟩
    rw [hx4] at e4
    rw [hx7] at e7
    have E4 := Lib.hid e4
    have E7 := Lib.hid e7
    have z10 : ((s.size : Int) != 10) = false := by simp; omega
    have HSZ := Lib.hid h10
    have z8 : (8 : Int) ≤ (s.size : Int) := by omega
    have z7 : (7 : Int) ≤ (s.size : Int) := by omega
    have z4 : (4 : Int) ≤ (s.size : Int) := by omega
    have z4a : (4 : Int) < (s.size : Int) := by omega
    have z7a : (7 : Int) < (s.size : Int) := by omega
    obtain ⟨a, ha⟩ : ∃ a, s.extract 0 4 = a := ⟨_, rfl⟩
    obtain ⟨b, hb⟩ : ∃ b, s.extract 5 7 = b := ⟨_, rfl⟩
    obtain ⟨c, hc⟩ : ∃ c, s.extract 8 s.size = c := ⟨_, rfl⟩
    have HA : Hid (strN a = (strN s).take 4) := by show _ = _; rw [← ha, extract_strN']; simp
    have HBq : Hid (strN b = ((strN s).drop 5).take 2) := by show _ = _; rw [← hb, extract_strN']
    have HC : Hid (strN c = (strN s).drop 8) := by show _ = _; rw [← hc, extract_strN]
    have DA := Lib.hid fun wx => digits_two a wx (by rw [← strN_length, HA.out, List.length_take]; omega)
    have DB := Lib.hid fun wx => digits_two b wx (by rw [← strN_length, HBq.out, List.length_take]; omega)
    have DC := Lib.hid fun wx => digits_two c wx (by rw [← strN_length, HC.out, List.length_drop, strN_length]; omega)
    clear e4 e7 h10
    by_cases h4 : x4 = 45
    · have y4 : ((x4 : Int) != 45) = false := by simp; omega
      by_cases h7 : x7 = 45
      · have y7 : ((x7 : Int) != 45) = false := by simp; omega
        have H4 := Lib.hid h4
        have H7 := Lib.hid h7
        clear h4 h7
        go_enter Tryf.func5, Tryf.ntmps5
        go_wp2_with fail
        refine (DA.out _).mono ?_
        rintro e w1 ⟨hb1, va, fa, rfl, ha1, ha2⟩
        have B1 := Lib.hid hb1
        have HA1 := Lib.hid ha1
        have HA2 := Lib.hid ha2
        clear hb1 ha1 ha2 DA
        go_wp2_with fail
        refine (DB.out _).mono ?_
        rintro e w2 ⟨hb2, vb, fb, rfl, ha1, ha2⟩
        have B2 := Lib.hid (Below.step B1.out hb2)
        have HB1 := Lib.hid ha1
        have HB2 := Lib.hid ha2
        clear hb2 ha1 ha2 DB B1
        go_wp2_with fail
        refine (DC.out _).mono ?_
        rintro e w3 ⟨hb3, vc, fc, rfl, ha1, ha2⟩
        have B3 := Lib.hid (Below.step B2.out hb3)
        have HC1 := Lib.hid ha1
        have HC2 := Lib.hid ha2
        clear hb3 ha1 ha2 DC B2
        by_cases hall : fa = true ∧ fb = true ∧ fc = true
        · obtain ⟨rfl, rfl, rfl⟩ := hall
          obtain ⟨ga, rfl⟩ := HA1.out rfl
          obtain ⟨gb, rfl⟩ := HB1.out rfl
          obtain ⟨gc, rfl⟩ := HC1.out rfl
          have HF : Hid (DForm (strN s)) := ⟨by rw [strN_length]; exact HSZ.out, by rw [← E4.out]; exact H4.out, by rw [← E7.out]; exact H7.out, by rw [← HA.out]; exact ga, by rw [← HBq.out]; exact gb, by rw [← HC.out]; exact gc⟩
          have ea : dnm (strN a) = sY (strN s) := by rw [HA.out]; rfl
          have eb : dnm (strN b) = sM (strN s) := by rw [HBq.out]; rfl
          have ec : dnm (strN c) = sD (strN s) := by rw [HC.out]; rfl
          rw [ea, eb, ec]
          clear ga gb gc ea eb ec
          by_cases hg : Good (sY (strN s) : Int) (sM (strN s) : Int) (sD (strN s) : Int)
          · have HG := Lib.hid hg
            have HD := Lib.hid fun wx => Days_in (sY (strN s) : Int) (sM (strN s) : Int) (sD (strN s) : Int) wx hg.1 hg.2.1 hg.2.2.1 hg.2.2.2.1 hg.2.2.2.2.1 hg.2.2.2.2.2
            clear hg
            go_wp2_with fail
            refine (HD.out _).mono ?_
            rintro e w4 ⟨rfl, rfl⟩
            go_wp2_with fail
            go_ret2
            exact ⟨B3.out, _, 0, rfl, .inl ⟨rfl, ⟨HF.out, HG.out⟩, rfl⟩⟩
          · have HG : Hid (¬ RdGood (strN s)) := fun h => hg h.2
            have HD := Lib.hid fun wx => Days_out (sY (strN s) : Int) (sM (strN s) : Int) (sD (strN s) : Int) wx hg
            clear hg
            go_wp2_with fail
            refine (HD.out _).mono ?_
            rintro e w4 ⟨rfl, rfl⟩
            go_wp2_with fail
            go_ret2
            exact ⟨B3.out, 0, 1, rfl, .inr ⟨by decide, rfl, HG.out⟩⟩
        · have HG : Hid (¬ RdGood (strN s)) := fun h => hall (by
            obtain ⟨⟨_, _, _, g1, g2, g3⟩, _⟩ := h
            refine ⟨?_, ?_, ?_⟩
            · cases hf : fa with
              | true => rfl
              | false => exact absurd (by rw [HA.out]; exact g1) (HA2.out hf)
            · cases hf : fb with
              | true => rfl
              | false => exact absurd (by rw [HBq.out]; exact g2) (HB2.out hf)
            · cases hf : fc with
              | true => rfl
              | false => exact absurd (by rw [HC.out]; exact g3) (HC2.out hf))
          clear HA1 HA2 HB1 HB2 HC1 HC2
          cases fa <;> cases fb <;> cases fc <;> first | exact absurd ⟨rfl, rfl, rfl⟩ hall | (clear hall; go_wp2_with fail; go_ret2; exact HBAD.out _ B3.out HG.out)
      · have y7 : ((x7 : Int) != 45) = true := by simp; omega
        have HG : Hid (¬ RdGood (strN s)) := fun h => h7 (E7.out.trans h.1.2.2.1)
        clear h4 h7
        go_enter Tryf.func5, Tryf.ntmps5
        go_wp2_with fail
        go_ret2
        exact HBAD.out _ (Below.refl _ _) HG.out
    · have y4 : ((x4 : Int) != 45) = true := by simp; omega
      have HG : Hid (¬ RdGood (strN s)) := fun h => h4 (E4.out.trans h.1.2.1)
      clear h4
      go_enter Tryf.func5, Tryf.ntmps5
      go_wp2_with fail
      go_ret2
      exact HBAD.out _ (Below.refl _ _) HG.out
  · have z10 : ((s.size : Int) != 10) = true := by simp; omega
    have HG : Hid (¬ RdGood (strN s)) := fun h => h10 (by have := h.1.1; rwa [strN_length] at this)
    clear h10
    go_enter Tryf.func5, Tryf.ntmps5
    go_wp2_with fail
    go_ret2
    exact HBAD.out _ (Below.refl _ _) HG.out
end Go.Proofs.YtplhnlcheamfbaaFmt
