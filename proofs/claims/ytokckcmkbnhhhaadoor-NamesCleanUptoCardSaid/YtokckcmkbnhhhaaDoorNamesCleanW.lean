/- The walk of NamesClean. -/
import Derived.Test.YtokckcmkbnhhhaaDoorNamesClean
namespace Go.Proofs.YtokckcmkbnhhhaaDoor
open Go.RowKit Plain
theorem cl_g : cleanP ck [97, 47, 46, 47, 98, 47, 47, 46, 46, 47, 99] = ([47, 97, 47, 99], 0) := by decide +kernel
theorem fold_sub (B : Nat) : ∀ (l : List T) (o : Option (List T)), (∀ m, o = some m → ∀ a ∈ m, a.length ≤ B) → (∀ a ∈ l, a.length ≤ B) → ∀ m, l.foldl clStep o = some m → ∀ a ∈ m, a.length ≤ B
  | [], o, ho, _, m, h => ho m h
  | x :: l, o, ho, hl, m, h => by
    rw [List.foldl_cons] at h
    refine fold_sub B l (clStep o x) ?_ (fun a ha => hl a (by simp [ha])) m h
    intro m' h' a ha
    cases o with
    | none => cases h'
    | some k =>
      have hk := ho k rfl
      simp only [clStep] at h'
      split at h'
      · cases h'; exact hk a ha
      · split at h'
        · split at h'
          · cases h'
          · cases h'; exact hk a (List.dropLast_subset _ ha)
        · cases h'
          rcases List.mem_append.1 ha with ha | ha
          · exact hk a ha
          · rw [List.mem_singleton] at ha; subst ha; exact hl _ (by simp)
theorem cleanP_len (p : T) : (cleanP ck p).1.length ≤ 8 * (p.length + 1) + 1 := by
  unfold cleanP
  cases h : (spl p).foldl clStep (some []) with
  | none => simp
  | some l =>
    simp only
    unfold joinP
    split
    · rename_i hc
      have h8 : l.length ≤ 8 := by
        rcases ((chkAll_ok ck _ _).1 hc).1 with h | h
        · rw [h]; simp
        · omega
      have hs := fold_sub p.length (spl p) (some []) (fun m hm a ha => by cases hm; cases ha) (spl_size p) l h
      have := jn_len p.length l hs
      have h2 : l.length * (p.length + 1) ≤ 8 * (p.length + 1) := Nat.mul_le_mul_right _ h8
      simp only [List.length_cons]; omega
    · simp
theorem neStrB {a b : ByteArray} (h : a = b) : (a.toList != b.toList) = false := by subst h; simp
theorem bT_app (a b : ByteArray) : bT (a ++ b) = bT a ++ bT b := by simp [bT]
set_option maxRecDepth 100000 in
set_option maxHeartbeats 1000000 in
theorem namesClean_any (p n : ByteArray) (m : Int) (w : World) (hp : p.size ≤ 1048576) (hn : n.size ≤ 1048576) (hm : MaxL m w) (hT : Tabs w) :
    Calls Tryd.prog 6 #[.string p, .string n] w fun e w' => e = .returned (.bool true) ∧ Below w.heap.size w w' := by
  have HCL := Lib.hid clean_any
  have HCK := Lib.hid ncheck_any
  have HM := Lib.hid hm
  have HT := Lib.hid hT
  have HHP := Lib.hid (fun u => Tryd.strings_HasPrefix p ⟨#[47]⟩ u)
  have HAG : Hid ((cleanP ck (bT p)).2 = 0 → cleanP ck (cleanP ck (bT p)).1 = cleanP ck (bT p)) := clean_again ck_ok
  have HER : Hid ((cleanP ck (bT p)).2 ≠ 0 → (cleanP ck (bT p)).1 = []) := clean_err
  have HLEN : Hid ((cleanP ck (bT p)).1.length ≤ 16777216) := by
    have := cleanP_len (bT p)
    rw [bT_length] at this
    show _ ≤ _; omega
  obtain ⟨A1, hA1⟩ : ∃ A1, (⟨#[47, 46]⟩ : ByteArray) ++ p = A1 := ⟨_, rfl⟩
  obtain ⟨A2, hA2⟩ : ∃ A2, A1 ++ (⟨#[47, 47, 46]⟩ : ByteArray) = A2 := ⟨_, rfl⟩
  obtain ⟨C1, hC1⟩ : ∃ C1, p ++ (⟨#[47]⟩ : ByteArray) = C1 := ⟨_, rfl⟩
  obtain ⟨C2, hC2⟩ : ∃ C2, C1 ++ n = C2 := ⟨_, rfl⟩
  obtain ⟨C3, hC3⟩ : ∃ C3, C2 ++ (⟨#[47, 46, 46]⟩ : ByteArray) = C3 := ⟨_, rfl⟩
  have bA1 : bT A1 = [47, 46] ++ bT p := by rw [← hA1, bT_app]
  have bA2 : bT A2 = [47, 46] ++ bT p ++ [47, 47, 46] := by rw [← hA2, bT_app, bA1]
  have bC1 : bT C1 = bT p ++ [47] := by rw [← hC1, bT_app]
  have bC2 : bT C2 = bT p ++ [47] ++ bT n := by rw [← hC2, bT_app, bC1]
  have bC3 : bT C3 = bT p ++ [47] ++ bT n ++ [47, 46, 46] := by rw [← hC3, bT_app, bC2]
  have sA1 : A1.size = p.size + 2 := by rw [← bT_length, bA1, List.length_append, bT_length]; simp; omega
  have sA2 : A2.size = p.size + 5 := by rw [← bT_length, bA2, List.length_append, List.length_append, bT_length]; simp; omega
  have sC1 : C1.size = p.size + 1 := by rw [← bT_length, bC1, List.length_append, bT_length]; simp
  have sC2 : C2.size = p.size + 1 + n.size := by rw [← bT_length, bC2, List.length_append, List.length_append, bT_length, bT_length]; simp
  have sC3 : C3.size = p.size + 1 + n.size + 3 := by rw [← bT_length, bC3, List.length_append, List.length_append, List.length_append, bT_length, bT_length]; simp
  have q1 : (⟨#[47, 46]⟩ : ByteArray).size + p.size ≤ 9223372036854775807 := by show 2 + p.size ≤ _; omega
  have q2 : A1.size + (⟨#[47, 47, 46]⟩ : ByteArray).size ≤ 9223372036854775807 := by show A1.size + 3 ≤ _; omega
  have q3 : p.size + (⟨#[47]⟩ : ByteArray).size ≤ 9223372036854775807 := by show p.size + 1 ≤ _; omega
  have q4 : C1.size + n.size ≤ 9223372036854775807 := by omega
  have q5 : C2.size + (⟨#[47, 46, 46]⟩ : ByteArray).size ≤ 9223372036854775807 := by show C2.size + 3 ≤ _; omega
  have ZA2 : Hid (A2.size < 4294967281) := by show _ < _; omega
  have ZC3 : Hid (C3.size < 4294967281) := by show _ < _; omega
  have HDT : Hid (Lib.hasPrefix p.data.toList (⟨#[47]⟩ : ByteArray).data.toList = true → cleanP ck (bT A2) = cleanP ck (bT p)) := by
    intro h
    rw [bA2]
    have : ∃ r, bT p = 47 :: r := by
      have h : Lib.hasPrefix (bT p) [47] = true := h
      cases hb : bT p with
      | nil => rw [hb] at h; cases h
      | cons c r =>
        rw [hb] at h
        simp [Lib.hasPrefix, List.isPrefixOf] at h
        exact ⟨r, by rw [← h]⟩
    obtain ⟨r, hr⟩ := this
    rw [hr]
    exact clean_dots
  have HBK : Hid (chkB n = 0 → cleanP ck (bT C3) = cleanP ck (bT p)) := by
    intro h
    rw [bC3]
    exact clean_back ck_ok h
  clear bA1 bA2 bC1 bC2 bC3 sA1 sA2 sC1 sC2 sC3 hm hT
  generalize hRR : cleanP ck (bT p) = R at *
  generalize hasPref : Lib.hasPrefix p.data.toList (⟨#[47]⟩ : ByteArray).data.toList = hP at *
  go_enter Tryd.func6, Tryd.ntmps6
  go_wp2_with fail
  refine (HCL.out ⟨#[97, 47, 46, 47, 98, 47, 47, 46, 46, 47, 99]⟩ m w (by decide) HM.out HT.out).mono ?_
  rintro e w1 ⟨rfl, hb1⟩
  rw [show cleanP ck (bT ⟨#[97, 47, 46, 47, 98, 47, 47, 46, 46, 47, 99]⟩) = ([47, 97, 47, 99], 0) from cl_g]
  have HB1 := Lib.hid hb1
  have g1 : ((⟨([47, 97, 47, 99] : T).toArray⟩ : ByteArray).toList == [47, 97, 47, 99]) = true := by rw [Lib.toList_data]; rfl
  clear hb1
  go_wp2_with fail
  refine (HCL.out p m w1 (by omega) (HM.out.below HB1.out) (HT.out.below HB1.out)).mono ?_
  rintro e w2 ⟨rfl, hb2⟩
  have HB2 := Lib.hid (Below.step HB1.out hb2)
  rw [hRR]
  clear hb2 g1 hRR
  by_cases hr : R.2 = 0
  rotate_left
  · have f1 : (R.2 != 0) = true := by simpa using hr
    have HE := Lib.hid (HER.out hr)
    rw [HE.out]
    have f2 : (⟨([] : T).toArray⟩ : ByteArray).toList.isEmpty = true := empty_strB rfl
    generalize R.2 = c at *
    clear hr
    go_wp2_with fail
    go_ret
    exact ⟨rfl, HB2.out⟩
  have HA := Lib.hid (HAG.out hr)
  rw [hr]
  have HQS : Hid ((⟨R.1.toArray⟩ : ByteArray).size < 4294967281) := by
    have := HLEN.out
    show R.1.length < _
    omega
  have HQA : Hid (cleanP ck (bT ⟨R.1.toArray⟩) = R) := by show _ = _; rw [show bT ⟨R.1.toArray⟩ = R.1 from bT_mk _]; exact HA.out
  clear HER HAG HA HLEN
  generalize hq : (⟨R.1.toArray⟩ : ByteArray) = q at *
  have e1 : (q.toList != q.toList) = false := by simp
  go_wp2_with fail
  refine (HCL.out q m w2 HQS.out (HM.out.below HB2.out) (HT.out.below HB2.out)).mono ?_
  rintro e w3 ⟨rfl, hb3⟩
  rw [HQA.out, hr, hq]
  have HB3 := Lib.hid (Below.step HB2.out hb3)
  clear hb3
  go_wp2_with fail
  refine (HCL.out A2 m w3 ZA2.out (HM.out.below HB3.out) (HT.out.below HB3.out)).mono ?_
  rintro e w4 ⟨rfl, hb4⟩
  have HB4 := Lib.hid (Below.step HB3.out hb4)
  clear hb4
  cases hP
  · generalize (cleanP ck (bT A2)).2 = c at *
    generalize (⟨(cleanP ck (bT A2)).1.toArray⟩ : ByteArray) = x at *
    go_wp2_with fail
    refine (HHP.out w4).mono ?_
    rintro e w5 ⟨rfl, rfl⟩
    go_wp2_with fail
    refine (HCK.out n w5 (by omega) (HT.out.below HB4.out)).mono ?_
    rintro e w6 ⟨rfl, hb6⟩
    have HB6 := Lib.hid (Below.step HB4.out hb6)
    clear hb6
    by_cases hk : chkB n = 0
    · have HB3' := Lib.hid (HBK.out hk)
      rw [hk]
      clear hk
      go_wp2_with fail
      refine (HCL.out C3 m w6 ZC3.out (HM.out.below HB6.out) (HT.out.below HB6.out)).mono ?_
      rintro e w7 ⟨rfl, hb7⟩
      rw [HB3'.out, hr, hq]
      have HB7 := Lib.hid (Below.step HB6.out hb7)
      clear hb7
      go_wp2_with fail
      go_ret
      exact ⟨by simp, HB7.out⟩
    · have f4 : (chkB n != 0) = true := by simpa using hk
      generalize chkB n = c at *
      clear hk
      go_wp2_with fail
      go_ret
      exact ⟨rfl, HB6.out⟩
  · rw [HDT.out rfl, hr, hq]
    go_wp2_with fail
    refine (HHP.out w4).mono ?_
    rintro e w5 ⟨rfl, rfl⟩
    go_wp2_with fail
    refine (HCK.out n w5 (by omega) (HT.out.below HB4.out)).mono ?_
    rintro e w6 ⟨rfl, hb6⟩
    have HB6 := Lib.hid (Below.step HB4.out hb6)
    clear hb6
    by_cases hk : chkB n = 0
    · have HB3' := Lib.hid (HBK.out hk)
      rw [hk]
      clear hk
      go_wp2_with fail
      refine (HCL.out C3 m w6 ZC3.out (HM.out.below HB6.out) (HT.out.below HB6.out)).mono ?_
      rintro e w7 ⟨rfl, hb7⟩
      rw [HB3'.out, hr, hq]
      have HB7 := Lib.hid (Below.step HB6.out hb7)
      clear hb7
      go_wp2_with fail
      go_ret
      exact ⟨by simp, HB7.out⟩
    · have f4 : (chkB n != 0) = true := by simpa using hk
      generalize chkB n = c at *
      clear hk
      go_wp2_with fail
      go_ret
      exact ⟨rfl, HB6.out⟩
end Go.Proofs.YtokckcmkbnhhhaaDoor
