/- The walks of slices' stable sort over ints. Printed by wip/gen_stable.py. -/
import Derived.Test.YtpfmfigommmjiaaStableSym
namespace Go.Proofs.Ytpfmfigommmjiaa
open Go.RowKit Plain
set_option linter.unusedVariables false
set_option linter.unusedSimpArgs false
theorem stable_part2 {key : Nat → Int} {A X Y Z B : List Nat} (h : (A ++ ((X ++ Y) ++ B)).Pairwise (WPr key id)) (hm : Mrg key id X Y Z) : (A ++ (Z ++ B)).Pairwise (WPr key id) := stable_part h hm.perm hm.stable
theorem perm_mid {α : Type} {A M Z B L : List α} (h : (A ++ (M ++ B)).Perm L) (hz : Z.Perm M) : (A ++ (Z ++ B)).Perm L := (List.Perm.append_left A (hz.append_right B)).trans h
theorem w_mid {key : Nat → Int} {A M B : List Nat} (h : (A ++ (M ++ B)).Pairwise (WPr key id)) : M.Pairwise (WPr key id) := by
  rw [List.pairwise_append, List.pairwise_append] at h
  exact h.2.1.1
set_option maxRecDepth 100000 in
set_option maxHeartbeats 4000000 in
theorem stable_any (key : Nat → Int) (El : Nat → Prop) (g n cap B : Nat) (L0 : List Nat) (sp : List Value) (w : World) (hc : ∀ (x y : Nat) (u : World), El x → El y → GX g w u → Calls Try.prog 14 #[.int .i64 (x : Int), .int .i64 (y : Int), .pointer (some ⟨B, 0, none⟩)] u fun e u' => (∃ r : Int, e = .returned (.int .i64 r) ∧ (r < 0 ↔ key x < key y)) ∧ Below u.heap.size u u') (hel : ∀ z ∈ L0, El z) (hd : DR w g L0 sp) (hn : L0.length = n) (hs : n ≤ 1000000) (hw : L0.Pairwise (WPr key id)) :
    Calls Try.prog 18 #[.slice (some ⟨g, 0, none⟩) n cap, .int .i64 (n : Int), .func (.func 14) #[] #[.pointer (some ⟨B, 0, none⟩)]] w fun e w' => e = .returned (.tuple #[]) ∧ ∃ Z, Z.Perm L0 ∧ Z.Pairwise (WPr key id) ∧ Z.Pairwise (SPr key) ∧ DR w' g Z sp ∧ GX g w w' := by
  have HC := Lib.hid hc
  have HEL := Lib.hid hel
  have HD := Lib.hid hd
  have HN := Lib.hid hn
  have HW := Lib.hid hw
  clear hc hel hd hn hw
  go_enter Try.func18, Try.ntmps18
  go_wp2_with fail
  go_loopw [7, 8] (fun av bv wr => ∃ (a b : Nat) (E : List (List Nat)) (R : List Nat), av = .int .i64 (a : Int) ∧ bv = .int .i64 (b : Int) ∧ a = E.length * 20 ∧ b = a + 20 ∧ Hid (Blks key 20 E) ∧ Hid ((E.flatten ++ R).Perm L0) ∧ Hid ((E.flatten ++ R).Pairwise (WPr key id)) ∧ Hid (DR wr g (E.flatten ++ R) sp) ∧ Hid (GX g w wr)) (fun av _ _ => n + 20 - (intOf av).toNat)
  case atStart => exact ⟨0, 20, [], L0, rfl, rfl, rfl, rfl, Lib.hid (fun X hX => by cases hX), Lib.hid (.refl _), HW, HD, Lib.hid (GX.refl g w)⟩
  case round =>
    obtain ⟨a, b, E, R, rfl, rfl, ha, hb, HBK, HPM, HWW, HDR, HGX⟩ := hrel
    have hfl : E.flatten.length = a := by rw [HBK.out.len, ha]
    have hlr : a + R.length = n := by have := HPM.out.length_eq; rw [List.length_append, hfl, HN.out] at this; exact this
    have HFL := Lib.hid hfl
    have HELR : Hid (∀ z ∈ E.flatten ++ R, El z) := Lib.hid fun z hz => HEL.out z (HPM.out.mem_iff.1 hz)
    by_cases hlt : b ≤ n
    · have m1 : (b : Int) ≤ (n : Int) := by omega
      have e1 : R.take 20 ++ R.drop 20 = R := List.take_append_drop _ _
      have HLM : Hid ((R.take 20).length = 20) := Lib.hid (by rw [List.length_take]; omega)
      rw [← e1] at HPM HWW HDR HELR
      generalize R.take 20 = M at *
      generalize R.drop 20 = R' at *
      have HIS := Lib.hid (insertion_any key El g n cap a b B E.flatten M R' sp wr (fun x y u hx hy hu => HC.out x y u hx hy (HGX.out.trans hu)) (fun x hx => HELR.out x (by simp [hx])) HDR.out (by have h1 := HPM.out.length_eq; rw [HN.out] at h1; exact h1) hs hfl (by have := HLM.out; omega) (w_mid HWW.out))
      have HAA := Lib.hid ha
      have w2 : IntKind.i64.wrap ((b : Int) + 20) = ((b + 20 : Nat) : Int) := by rw [wraps_i64 _ (by omega) (by omega)]; omega
      have HBB := Lib.hid hb
      clear e1 hfl hlr ha hb
      go_wp2_with fail
      refine HIS.out.mono ?_
      rintro e w5 ⟨rfl, Z, hins, hsrt, hd5, hg5⟩
      have HI := Lib.hid hins
      have HSZ := Lib.hid hsrt
      have HD5 := Lib.hid hd5
      have HG5 := Lib.hid (HGX.out.trans hg5)
      clear hins hsrt hd5 hg5 HIS
      go_wp2_with fail
      go_roundw
      case rel => exact ⟨b, b + 20, E ++ [Z], R', rfl, by go_num, by have h1 := HAA.out; have h2 := HBB.out; rw [List.length_append, List.length_singleton]; omega, rfl, Lib.hid (HBK.out.snoc (by rw [HI.out.perm.length_eq]; exact HLM.out) HSZ.out), Lib.hid (by rw [List.flatten_append, List.flatten_singleton, List.append_assoc]; exact perm_mid HPM.out HI.out.perm), Lib.hid (by rw [List.flatten_append, List.flatten_singleton, List.append_assoc]; exact stable_part HWW.out HI.out.perm HI.out.stable), Lib.hid (by rw [List.flatten_append, List.flatten_singleton, List.append_assoc]; exact HD5.out), HG5⟩
      case measure => simp [intOf]; have := HBB.out; omega
    · have m1 : ¬ (b : Int) ≤ (n : Int) := by omega
      have HIS := Lib.hid (insertion_any key El g n cap a n B E.flatten R [] sp wr (fun x y u hx hy hu => HC.out x y u hx hy (HGX.out.trans hu)) (fun x hx => HELR.out x (by simp [hx])) (by rw [List.append_nil]; exact HDR.out) (by rw [List.append_nil]; have h1 := HPM.out.length_eq; rw [HN.out] at h1; exact h1) hs hfl hlr (by have := HWW.out; rw [List.pairwise_append] at this; exact this.2.1))
      have HRL : Hid (R.length < 20) := Lib.hid (by omega)
      clear hfl hlr ha hb
      obtain ⟨wo, rfl⟩ : ∃ wo : World, wo = wr := ⟨_, rfl⟩
      go_wp2_with fail
      refine HIS.out.mono ?_
      rintro e w5 ⟨rfl, Z, hins, hsrt, hd5, hg5⟩
      have HI := Lib.hid hins
      have HSZ := Lib.hid hsrt
      have HD5 : Hid (DR w5 g (E.flatten ++ Z) sp) := Lib.hid (by rwa [List.append_nil] at hd5)
      have HG5 := Lib.hid (HGX.out.trans hg5)
      have HP5 : Hid ((E.flatten ++ Z).Perm L0) := Lib.hid ((List.Perm.append_left _ hins.perm).trans HPM.out)
      have HW5 : Hid ((E.flatten ++ Z).Pairwise (WPr key id)) := Lib.hid (by have := stable_part (A := E.flatten) (M := R) (Z := Z) (B := []) (by rw [List.append_nil]; exact HWW.out) hins.perm hins.stable; rwa [List.append_nil] at this)
      have HZL : Hid (Z.length < 20) := Lib.hid (by rw [hins.perm.length_eq]; exact HRL.out)
      clear hins hsrt hd5 hg5 HIS HPM HWW HDR HGX HRL HELR HFL
      go_wp2_with fail
      go_loopw [6] (fun sv wr => ∃ (bs : Nat) (D : List (List Nat)) (X : List Nat), sv = .int .i64 (bs : Int) ∧ 1 ≤ bs ∧ bs ≤ 2 * n + 20 ∧ Hid (Blks key bs D) ∧ Hid (X.Pairwise (SPr key)) ∧ Hid (X.length < bs) ∧ Hid ((D.flatten ++ X).Perm L0) ∧ Hid ((D.flatten ++ X).Pairwise (WPr key id)) ∧ Hid (DR wr g (D.flatten ++ X) sp) ∧ Hid (GX g w wr)) (fun sv _ => n - (intOf sv).toNat)
      case atStart => exact ⟨20, E, Z, rfl, by omega, by omega, HBK, HSZ, HZL, HP5, HW5, HD5, HG5⟩
      case round =>
        clear HP5 HW5 HD5 HG5 HBK HSZ HZL
        obtain ⟨bs, D0, X, rfl, hb1, hb2, HBK, HSX, HXL, HPM, HWW, HDR, HGX⟩ := hrel
        by_cases hlt2 : bs < n
        · have m2 : (bs : Int) < (n : Int) := by omega
          have w3 : IntKind.i64.wrap (2 * (bs : Int)) = ((2 * bs : Nat) : Int) := by rw [wraps_i64 _ (by omega) (by omega)]; omega
          obtain ⟨wo2, rfl⟩ : ∃ wo2 : World, wo2 = wr := ⟨_, rfl⟩
          go_wp2_with fail
          go_loopw [7, 8] (fun av bv wr => ∃ (a b : Nat) (E D : List (List Nat)), av = .int .i64 (a : Int) ∧ bv = .int .i64 (b : Int) ∧ a = E.length * (2 * bs) ∧ b = a + 2 * bs ∧ Hid (Blks key (2 * bs) E) ∧ Hid (Blks key bs D) ∧ Hid ((E.flatten ++ (D.flatten ++ X)).Perm L0) ∧ Hid ((E.flatten ++ (D.flatten ++ X)).Pairwise (WPr key id)) ∧ Hid (DR wr g (E.flatten ++ (D.flatten ++ X)) sp) ∧ Hid (GX g w wr)) (fun av _ _ => n + 2 * bs - (intOf av).toNat)
          case atStart => exact ⟨0, 2 * bs, [], D0, rfl, (by first | rfl | go_num), by simp, by omega, Lib.hid (fun X hX => by cases hX), HBK, HPM, HWW, HDR, HGX⟩
          case round =>
            clear HBK HPM HWW HDR HGX
            obtain ⟨a, b, E, D, rfl, rfl, ha, hb, HBE, HBD, HPM, HWW, HDR, HGX⟩ := hrel
            have hfl : E.flatten.length = a := by rw [HBE.out.len, ha]
            have hdl := HBD.out.len
            have hlr : a + D.flatten.length + X.length = n := by have := HPM.out.length_eq; simp only [List.length_append] at this; rw [hfl, HN.out] at this; omega
            have hxl := HXL.out
            have HELR : Hid (∀ z ∈ E.flatten ++ (D.flatten ++ X), El z) := Lib.hid fun z hz => HEL.out z (HPM.out.mem_iff.1 hz)
            have w4 : IntKind.i64.wrap ((a : Int) + (bs : Int)) = ((a + bs : Nat) : Int) := by rw [wraps_i64 _ (by omega) (by omega)]; omega
            by_cases hlt3 : b ≤ n
            · have m3 : (b : Int) ≤ (n : Int) := by omega
              obtain ⟨X1, X2, D', hD⟩ : ∃ X1 X2 D', D = X1 :: X2 :: D' := by
                rcases D with _ | ⟨Y1, _ | ⟨Y2, r⟩⟩
                · simp only [List.flatten_nil, List.length_nil] at hlr; omega
                · simp only [List.flatten_singleton, List.length_singleton, Nat.one_mul] at hdl hlr; omega
                · exact ⟨Y1, Y2, r, rfl⟩
              subst hD
              have HX1 := Lib.hid (HBD.out X1 (by simp))
              have HX2 := Lib.hid (HBD.out X2 (by simp))
              have e1 : (X1 :: X2 :: D').flatten ++ X = (X1 ++ X2) ++ (D'.flatten ++ X) := by simp
              rw [e1] at HPM HWW HDR HELR
              have HIS := Lib.hid (sym_any key El g n cap B sp (b - a) a (a + bs) b E.flatten X1 X2 (D'.flatten ++ X) wr (fun x y u hx hy hu => HC.out x y u hx hy (HGX.out.trans hu)) (fun x hx => HELR.out x (List.mem_append_right _ (List.mem_append_left _ hx))) HDR.out (by have h1 := HPM.out.length_eq; have h2 := HX1.out.1; have h3 := HX2.out.1; simp only [List.length_append] at h1 ⊢; have := HN.out; omega) hs hfl (by rw [HX1.out.1]) (by rw [HX2.out.1]; omega) (by intro h; have := HX1.out.1; rw [h] at this; simp only [List.length_nil] at this; omega) (by intro h; have := HX2.out.1; rw [h] at this; simp only [List.length_nil] at this; omega) (w_mid HWW.out) HX1.out.2 HX2.out.2 (Nat.le_refl _))
              have w5 : IntKind.i64.wrap (2 * (bs : Int)) = 2 * (bs : Int) := wraps_i64 _ (by omega) (by omega)
              have w6 : IntKind.i64.wrap ((b : Int) + 2 * (bs : Int)) = ((b + 2 * bs : Nat) : Int) := by rw [wraps_i64 _ (by omega) (by omega)]; omega
              have HAA := Lib.hid ha
              have HBB := Lib.hid hb
              clear e1 hfl hlr hdl ha hb hxl w3
              go_wp2_with fail
              refine HIS.out.mono ?_
              rintro e w7 ⟨rfl, Z2, hmg, hd5, hg5⟩
              have HI := Lib.hid hmg
              have HD5 := Lib.hid hd5
              have HG5 := Lib.hid (HGX.out.trans hg5)
              clear hmg hd5 hg5 HIS
              go_wp2_with fail
              go_roundw
              case rel => exact ⟨b, b + 2 * bs, E ++ [Z2], D', rfl, by go_num, by have h1 := HAA.out; have h2 := HBB.out; rw [List.length_append, List.length_singleton, Nat.add_mul, ← h1]; omega, rfl, Lib.hid (HBE.out.snoc (by have h1 := HI.out.perm.length_eq; have h2 := HX1.out.1; have h3 := HX2.out.1; rw [List.length_append] at h1; omega) HI.out.sorted), Lib.hid HBD.out.tail.tail, Lib.hid (by rw [List.flatten_append, List.flatten_singleton, List.append_assoc]; exact perm_mid HPM.out HI.out.perm), Lib.hid (by rw [List.flatten_append, List.flatten_singleton, List.append_assoc]; exact stable_part2 HWW.out HI.out), Lib.hid (by rw [List.flatten_append, List.flatten_singleton, List.append_assoc]; exact HD5.out), HG5⟩
              case measure => simp [intOf]; have := HBB.out; omega
            · have m3 : ¬ (b : Int) ≤ (n : Int) := by omega
              have w7 : IntKind.i64.wrap ((bs : Int) * 2) = ((2 * bs : Nat) : Int) := by rw [wraps_i64 _ (by omega) (by omega)]; omega
              have hD2 : D.length ≤ 1 := by
                rcases Nat.lt_or_ge 1 D.length with h | h
                · have : 2 * bs ≤ D.length * bs := Nat.mul_le_mul_right _ h
                  omega
                · exact h
              match D with
              | [] =>
                simp only [List.flatten_nil, List.length_nil] at hdl hlr
                have m4 : ¬ ((a + bs : Nat) : Int) < (n : Int) := by omega
                have HPF : Hid ((E.flatten ++ X).Perm L0) := Lib.hid (by simpa using HPM.out)
                have HWF : Hid ((E.flatten ++ X).Pairwise (WPr key id)) := Lib.hid (by simpa using HWW.out)
                have HDF : Hid (DR wr g (E.flatten ++ X) sp) := Lib.hid (by simpa using HDR.out)
                have hnn : 2 * bs ≤ 2 * n + 20 := by omega
                clear hfl hlr hdl ha hb hxl hD2 HPM HWW HDR HELR HBD
                go_wp2_with fail
                go_roundw
                case rel => exact ⟨2 * bs, E, X, by go_num, by omega, hnn, HBE, HSX, Lib.hid (by have := HXL.out; omega), HPF, HWF, HDF, HGX⟩
                case measure => simp [intOf]; omega
              | [X1] =>
                have HX1 := Lib.hid (HBD.out X1 (by simp))
                simp only [List.flatten_singleton, List.length_singleton, Nat.one_mul] at hdl hlr HPM HWW HDR HELR
                by_cases hx0 : X = []
                · subst hx0
                  have m4 : ¬ ((a + bs : Nat) : Int) < (n : Int) := by simp only [List.length_nil] at hlr; omega
                  have HPF : Hid ((E.flatten ++ X1).Perm L0) := Lib.hid (by simpa using HPM.out)
                  have HWF : Hid ((E.flatten ++ X1).Pairwise (WPr key id)) := Lib.hid (by simpa using HWW.out)
                  have HDF : Hid (DR wr g (E.flatten ++ X1) sp) := Lib.hid (by simpa using HDR.out)
                  have hnn : 2 * bs ≤ 2 * n + 20 := by omega
                  clear hfl hlr hdl ha hb hxl hD2 HPM HWW HDR HELR HBD
                  go_wp2_with fail
                  go_roundw
                  case rel => exact ⟨2 * bs, E, X1, by go_num, by omega, hnn, HBE, Lib.hid HX1.out.2, Lib.hid (by rw [HX1.out.1]; omega), HPF, HWF, HDF, HGX⟩
                  case measure => simp [intOf]; omega
                · have hx1 := List.length_pos_iff.2 hx0
                  have m4 : ((a + bs : Nat) : Int) < (n : Int) := by omega
                  have HIS := Lib.hid (sym_any key El g n cap B sp (n - a) a (a + bs) n E.flatten X1 X [] wr (fun x y u hx hy hu => HC.out x y u hx hy (HGX.out.trans hu)) (fun x hx => HELR.out x (List.mem_append_right _ hx)) (by rw [List.append_nil]; exact HDR.out) (by simp) hs hfl (by rw [HX1.out.1]) (by omega) (by intro h; have := HX1.out.1; rw [h] at this; simp only [List.length_nil] at this; omega) hx0 (by have := HWW.out; rw [List.pairwise_append] at this; exact this.2.1) HX1.out.2 HSX.out (Nat.le_refl _))
                  have hnn : 2 * bs ≤ 2 * n + 20 := by omega
                  clear hfl hlr hdl ha hb hxl hD2 hx1 HELR HBD
                  go_wp2_with fail
                  refine HIS.out.mono ?_
                  rintro e w8 ⟨rfl, Z2, hmg, hd5, hg5⟩
                  have HI := Lib.hid hmg
                  have HD5 : Hid (DR w8 g (E.flatten ++ Z2) sp) := Lib.hid (by rwa [List.append_nil] at hd5)
                  have HG5 := Lib.hid (HGX.out.trans hg5)
                  have HPF : Hid ((E.flatten ++ Z2).Perm L0) := Lib.hid ((List.Perm.append_left _ hmg.perm).trans HPM.out)
                  have HWF : Hid ((E.flatten ++ Z2).Pairwise (WPr key id)) := Lib.hid (by have := stable_part (A := E.flatten) (M := X1 ++ X) (Z := Z2) (B := []) (by rw [List.append_nil]; exact HWW.out) hmg.perm hmg.stable; rwa [List.append_nil] at this)
                  clear hmg hd5 hg5 HIS
                  go_wp2_with fail
                  go_roundw
                  case rel => exact ⟨2 * bs, E, Z2, by go_num, by omega, hnn, HBE, Lib.hid HI.out.sorted, Lib.hid (by have h1 := HI.out.perm.length_eq; have h2 := HX1.out.1; have h3 := HXL.out; rw [List.length_append] at h1; omega), HPF, HWF, HD5, HG5⟩
                  case measure => simp [intOf]; omega
              | X1 :: X2 :: r => simp at hD2
        · have m2 : ¬ (bs : Int) < (n : Int) := by omega
          have HSF : Hid ((D0.flatten ++ X).Pairwise (SPr key)) := Lib.hid (HBK.out.all HSX.out (by rw [HPM.out.length_eq, HN.out]; omega) HXL.out)
          go_wp2_with fail
          go_end0
          exact ⟨rfl, _, HPM.out, HWW.out, HSF.out, HDR.out, HGX.out⟩
theorem sortStable_any (key : Nat → Int) (El : Nat → Prop) (g n cap B : Nat) (L0 : List Nat) (sp : List Value) (w : World) (hc : ∀ (x y : Nat) (u : World), El x → El y → GX g w u → Calls Try.prog 14 #[.int .i64 (x : Int), .int .i64 (y : Int), .pointer (some ⟨B, 0, none⟩)] u fun e u' => (∃ r : Int, e = .returned (.int .i64 r) ∧ (r < 0 ↔ key x < key y)) ∧ Below u.heap.size u u') (hel : ∀ z ∈ L0, El z) (hd : DR w g L0 sp) (hn : L0.length = n) (hs : n ≤ 1000000) (hw : L0.Pairwise (WPr key id)) :
    Calls Try.prog 13 #[.slice (some ⟨g, 0, none⟩) n cap, .func (.func 14) #[] #[.pointer (some ⟨B, 0, none⟩)]] w fun e w' => e = .returned (.tuple #[]) ∧ ∃ Z, Z.Perm L0 ∧ Z.Pairwise (WPr key id) ∧ Z.Pairwise (SPr key) ∧ DR w' g Z sp ∧ GX g w w' := by
  have HST := Lib.hid (stable_any key El g n cap B L0 sp w hc hel hd hn hs hw)
  clear hc hel hd hn hw
  go_enter Try.func13, Try.ntmps13
  go_wp2_with fail
  refine HST.out.mono ?_
  rintro e w1 ⟨rfl, h⟩
  go_wp2_with fail
  go_end0
  exact ⟨rfl, h⟩
end Go.Proofs.Ytpfmfigommmjiaa
