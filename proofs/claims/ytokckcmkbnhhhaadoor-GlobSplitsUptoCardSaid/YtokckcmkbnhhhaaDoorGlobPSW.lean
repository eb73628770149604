/- The walks of GlobPlain and GlobSplits. -/
import Derived.Test.YtokckcmkbnhhhaaDoorGlobPlainW
namespace Go.Proofs.YtokckcmkbnhhhaaDoor
open Go.RowKit Plain
set_option linter.unusedVariables false
set_option linter.unusedSimpArgs false
theorem ft_aa : fitsP (bT ⟨#[47, 97]⟩) (bT ⟨#[47, 97]⟩) = true := by decide +kernel
theorem ft_ab : fitsP (bT ⟨#[47, 97]⟩) (bT ⟨#[47, 98]⟩) = false := by decide +kernel
set_option maxRecDepth 100000 in
set_option maxHeartbeats 8000000 in
theorem globPlain_any (p o : ByteArray) (m : Int) (w : World) (hp : p.size ≤ 1048576) (ho : o.size ≤ 1048576) (hm : MaxL m w) (hT : Tabs w) :
    Calls Tryd.prog 8 #[.string p, .string o] w fun e w' => e = .returned (.bool true) ∧ Below w.heap.size w w' := by
  have HF := Lib.hid fun (a b : ByteArray) (W : World) (hb : Below w.heap.size w W) (ha : a.size ≤ 9223372036854775807) (hq : b.size < 4294967281) => fits_any a b m W (hm.below hb) (hT.below hb) ha hq
  have HSP := Lib.hid fun (s : ByteArray) (W : World) (hb : Below w.heap.size w W) (hq : s.size < 4294967281) => split_any s m W hq (hm.below hb) (hT.below hb)
  have HES := Lib.hid fun (W : World) => escaped_any p W hp
  have HF1 := Lib.hid (HF.out ⟨#[47, 97]⟩ ⟨#[47, 97]⟩ w (Below.refl _ _) (by decide) (by decide))
  rw [ft_aa] at HF1
  have HF2 := Lib.hid fun (W : World) (hb : Below w.heap.size w W) => HF.out ⟨#[47, 97]⟩ ⟨#[47, 98]⟩ W hb (by decide) (by decide)
  rw [ft_ab] at HF2
  have HPZ : Hid (p.size < 4294967281) := Lib.hid (by omega)
  have HOZ : Hid (o.size < 4294967281) := Lib.hid (by omega)
  obtain ⟨x, hx⟩ : ∃ x : ByteArray, ⟨(escP (bT p)).toArray⟩ = x := ⟨_, rfl⟩
  have HXB : Hid (bT x = escP (bT p)) := Lib.hid (hx ▸ bT_mk _)
  have HXZ : Hid (x.size ≤ 9223372036854775807) := Lib.hid (by
    have h1 := escP_len (bT p)
    rw [← HXB.out, bT_length, bT_length] at h1
    omega)
  have HEE : Hid (∀ W : World, Calls Tryd.prog 30 #[.string p] W fun e w' => e = .returned (.string x) ∧ Below W.heap.size W w') := Lib.hid fun W => by
    have := HES.out W
    unfold EscEnd at this
    rw [hx] at this
    exact this
  have HPS := Lib.hid fun h1 h2 h3 => plain_self (q := bT p) h1 h2 h3
  have HPO := Lib.hid fun h1 h2 h3 h4 => plain_other (q := bT p) (o := bT o) h1 h2 h3 h4
  rw [← HXB.out, bT_length] at HPS HPO
  clear hp ho hm hT hx HES
  go_enter Tryd.func8, Tryd.ntmps8
  go_wp2_with fail
  refine HF1.out.mono ?_
  rintro e u1 ⟨rfl, hb⟩
  have HB1 := Lib.hid hb
  clear hb HF1
  go_wp2_with fail
  refine (HF2.out u1 HB1.out).mono ?_
  rintro e u2 ⟨rfl, hb⟩
  have HB2 := Lib.hid (Below.step HB1.out hb)
  clear hb HF2 HB1
  go_wp2_with fail
  refine (HEE.out u2).mono ?_
  rintro e u3 ⟨rfl, hb⟩
  have HB3 := Lib.hid (Below.step HB2.out hb)
  clear hb HEE HB2
  go_wp2_with fail
  refine (HSP.out p u3 HB3.out HPZ.out).mono ?_
  rintro e u4 ⟨hb, hend⟩
  have HB4 := Lib.hid (Below.step HB3.out hb)
  clear hb HB3
  rcases hend with ⟨k0, b, cq, S, rfl, hs, hs2, hs3, hs4, hs5⟩ | ⟨k0, rfl⟩
  · by_cases hS : S.length = 0
    · have hSe : S = [] := List.eq_nil_of_length_eq_zero hS
      subst hSe
      clear hs hs2 hs3 hs4 hs5 k0 hS HPS HPO
      go_wp2_with fail
      go_ret
      exact ⟨rfl, HB4.out⟩
    · have f0 : ((S.length : Int) == 0) = false := by rw [beq_eq_false_iff_ne]; omega
      have HNE : Hid ((splP ck (bT p)).1 ≠ []) := Lib.hid (by rw [← hs2]; intro e; rw [← tl_length, e] at hS; exact hS rfl)
      have HK := Lib.hid k0
      clear hs hs2 hs3 hs5 k0 hS
      by_cases h60 : 60 < x.size
      · have f1 : (60 : Int) < (x.size : Int) := by omega
        clear h60 HPS HPO
        go_wp2_with fail
        go_ret
        exact ⟨rfl, HB4.out⟩
      · have f1 : ¬ (60 : Int) < (x.size : Int) := by omega
        have HSELF := Lib.hid (HPS.out HK.out HNE.out (by omega))
        have HOTH := Lib.hid fun h4 => HPO.out HK.out HNE.out (by omega) h4
        have HFX := Lib.hid fun (W : World) (hb : Below w.heap.size w W) => HF.out x p W hb HXZ.out HPZ.out
        have HFY := Lib.hid fun (W : World) (hb : Below w.heap.size w W) => HF.out x o W hb HXZ.out HOZ.out
        rw [HSELF.out] at HFX
        clear h60 HPS HPO HF HNE HK
        go_wp2_with fail
        refine (HSP.out o u4 HB4.out HOZ.out).mono ?_
        rintro e u5 ⟨hb, hend⟩
        have HB5 := Lib.hid (Below.step HB4.out hb)
        clear hb HB4 HSP
        rcases hend with ⟨k0, b2, cq2, S2, rfl, hs, hs2, hs3, hs6, hs5⟩ | ⟨k0, rfl⟩
        · rw [HOTH.out k0] at HFY
          have HQ : Hid ((p.toList == o.toList) = decide (bT p = bT o)) := Lib.hid (by
            by_cases e : p = o
            · subst e; rw [same_strB rfl]; simp
            · rw [other_strB e]; exact (decide_eq_false (fun h => e (bT_inj h))).symm)
          clear hs hs2 hs3 hs5 hs6 k0 HOTH
          go_wp2_with fail
          refine (HFX.out u5 HB5.out).mono ?_
          rintro e u6 ⟨rfl, hb⟩
          have HB6 := Lib.hid (Below.step HB5.out hb)
          clear hb HB5 HFX
          go_wp2_with fail
          refine (HFY.out u6 HB6.out).mono ?_
          rintro e u7 ⟨rfl, hb⟩
          have HB7 := Lib.hid (Below.step HB6.out hb)
          clear hb HB6 HFY
          rw [← HQ.out]
          obtain ⟨r, hr⟩ : ∃ r, (p.toList == o.toList) = r := ⟨_, rfl⟩
          rw [hr]
          go_wp2_with fail
          go_ret
          exact ⟨by simp, HB7.out⟩
        · have f2 : ((splP ck (bT o)).2 != 0) = true := by simpa using k0
          generalize (splP ck (bT o)).2 = c at *
          clear k0 HOTH
          go_wp2_with fail
          refine (HFX.out u5 HB5.out).mono ?_
          rintro e u6 ⟨rfl, hb⟩
          have HB6 := Lib.hid (Below.step HB5.out hb)
          clear hb HB5 HFX
          go_wp2_with fail
          go_ret
          exact ⟨rfl, HB6.out⟩
  · have f1 : ((splP ck (bT p)).2 != 0) = true := by simpa using k0
    generalize (splP ck (bT p)).2 = c at *
    clear k0 HPS HPO
    go_wp2_with fail
    go_ret
    exact ⟨rfl, HB4.out⟩
set_option maxRecDepth 100000 in
theorem gcheck_any (p : ByteArray) (m : Int) (w : World) (hm : MaxL m w) (hT : Tabs w) (hp63 : p.size ≤ 9223372036854775807) :
    Calls Tryd.prog 40 #[.string p] w fun e w' => e = .returned (.int .i64 (parseP (bT p)).2) ∧ Below w.heap.size w w' := by
  have HPA := Lib.hid (gparse_any p m w hm hT hp63)
  clear hm hT
  go_enter Tryd.func40, Tryd.ntmps40
  go_wp2_with fail
  refine HPA.out.mono ?_
  rintro e u ⟨hb, hend⟩
  have HBU := Lib.hid hb
  clear hb HPA
  rcases hend with ⟨h0, a, c, L, rfl, hq1, hq2⟩ | ⟨h0, rfl⟩
  · have H0 := Lib.hid h0
    clear hq1 hq2 h0
    go_wp2_with fail
    go_ret
    exact ⟨by rw [H0.out]; rfl, HBU.out⟩
  · obtain ⟨c, hc⟩ : ∃ c, (parseP (bT p)).2 = c := ⟨_, rfl⟩
    rw [hc]
    have HC := Lib.hid hc
    clear h0 hc
    go_wp2_with fail
    go_ret
    exact ⟨by rw [HC.out]; rfl, HBU.out⟩
theorem ft_s1 : fitsP (bT ⟨#[47, 97, 47, 42, 42]⟩) (bT ⟨#[47, 97]⟩) = true := by decide +kernel
theorem ft_s2 : fitsP (bT ⟨#[47, 42, 42, 47, 98]⟩) (bT ⟨#[47, 97, 47, 99, 47, 98]⟩) = true := by decide +kernel
theorem sat_takeG2 {α : Type} {n : Nat} {c : α → List Value} {w : World} {a : Option Addr} {l : List α} (h : SAt n c w a l) (k : Nat) : SAt n c w a (l.take k) := fun i hi => by
  have hi' : i < l.length := by rw [List.length_take] at hi; omega
  obtain ⟨g, off, e, hg, hr⟩ := h i hi'
  refine ⟨g, off, e, hg, ?_⟩
  rw [List.getElem_take]
  exact hr
theorem sat_dropG {α : Type} {c : α → List Value} {w : World} {b : Option Addr} {l : List α} (h : SAt 1 c w b l) (k : Nat) : SAt 1 c w (b.map fun x => x.add k) (l.drop k) := fun i hi => by
  have hi' : k + i < l.length := by rw [List.length_drop] at hi; omega
  obtain ⟨g', off', e, hg, hr⟩ := h (k + i) hi'
  subst e
  refine ⟨g', off' + k, by simp [Addr.add], hg, ?_⟩
  rw [List.getElem_drop]
  intro j u hu
  rw [← hr j u hu]
  congr 2
  omega
theorem sat_dropE {α : Type} {c : α → List Value} {w : World} {b : Option Addr} {l : List α} {k : Nat} (h : l.length ≤ k) : SAt 1 c w b (l.drop k) := fun i hi => by
  rw [List.length_drop] at hi; omega
theorem bT_appendS (a b : ByteArray) : bT (a ++ b) = bT a ++ bT b := by simp [bT]
set_option maxRecDepth 100000 in
set_option maxHeartbeats 16000000 in
theorem globSplits_any (p q s : ByteArray) (m : Int) (w : World) (hp : p.size ≤ 1048576) (hq : q.size ≤ 1048576) (hs : s.size ≤ 1048576) (hm : MaxL m w) (hT : Tabs w) :
    Calls Tryd.prog 14 #[.string p, .string q, .string s] w fun e w' => e = .returned (.bool true) ∧ Below w.heap.size w w' := by
  have HF := Lib.hid fun (a b : ByteArray) (W : World) (hb : Below w.heap.size w W) (ha : a.size ≤ 9223372036854775807) (hq : b.size < 4294967281) => fits_any a b m W (hm.below hb) (hT.below hb) ha hq
  have HSP := Lib.hid fun (W : World) (hb : Below w.heap.size w W) => split_any s m W (by omega) (hm.below hb) (hT.below hb)
  have HCP := Lib.hid fun (W : World) (hb : Below w.heap.size w W) => gcheck_any p m W (hm.below hb) (hT.below hb) (by omega)
  have HCQ := Lib.hid fun (W : World) (hb : Below w.heap.size w W) => gcheck_any q m W (hm.below hb) (hT.below hb) (by omega)
  have HF1 := Lib.hid (HF.out ⟨#[47, 97, 47, 42, 42]⟩ ⟨#[47, 97]⟩ w (Below.refl _ _) (by decide) (by decide))
  rw [ft_s1] at HF1
  have HF2 := Lib.hid fun (W : World) (hb : Below w.heap.size w W) => HF.out ⟨#[47, 42, 42, 47, 98]⟩ ⟨#[47, 97, 47, 99, 47, 98]⟩ W hb (by decide) (by decide)
  rw [ft_s2] at HF2
  have HPZ : Hid (p.size ≤ 9223372036854775807 ∧ q.size ≤ 9223372036854775807 ∧ s.size < 4294967281) := Lib.hid (by omega)
  have HTT := Lib.hid fun (W : World) (hb : Below w.heap.size w W) => hT.below hb
  have h63 : p.size + q.size ≤ 9223372036854775807 := by omega
  have HSPL := Lib.hid fun h1 h2 h3 h4 => splits (p := bT p) (q := bT q) (s := bT s) h1 h2 h3 h4
  rw [← bT_appendS, bT_length, bT_length] at HSPL
  have HXZ : Hid ((p ++ q).size ≤ 9223372036854775807) := Lib.hid (by rw [ByteArray.size_append]; omega)
  have w1 : IntKind.i64.wrap (60 - (q.size : Int)) = 60 - (q.size : Int) := by rw [IntKind.wrap_i64]; omega
  have HW1 := Lib.hid w1
  have HLQ : Hid (q.size ≤ 1048576) := Lib.hid hq
  have HSZ : Hid (s.size ≤ 1048576) := Lib.hid hs
  clear hp hs hm hT
  go_enter Tryd.func14, Tryd.ntmps14
  go_wp2_with fail
  refine HF1.out.mono ?_
  rintro e u1 ⟨rfl, hb⟩
  have HB1 := Lib.hid hb
  clear hb HF1
  go_wp2_with fail
  refine (HF2.out u1 HB1.out).mono ?_
  rintro e u2 ⟨rfl, hb⟩
  have HB2 := Lib.hid (Below.step HB1.out hb)
  clear hb HF2 HB1
  go_wp2_with fail
  refine (HSP.out u2 HB2.out).mono ?_
  rintro e u4 ⟨hb, hend⟩
  have HB4 := Lib.hid (Below.step HB2.out hb)
  clear hb HB2 HSP
  rcases hend with ⟨k0, b, cq, S, rfl, hs, hs2, hs3, hs4, hs5⟩ | ⟨k0, rfl⟩
  · have HSM : Hid (∀ y ∈ S, y.size ≤ 1048576) := Lib.hid fun y hy => by
      have h1 : bT y ∈ (splP ck (bT s)).1 := by rw [← hs2]; exact List.mem_map.2 ⟨y, hy, rfl⟩
      obtain ⟨rest, hr, ⟨_, e⟩ | ⟨_, _, e⟩⟩ := splP_ok k0
      · rw [e] at h1; cases h1
      · rw [e] at h1
        have h2 := spl_size _ _ h1
        have h3 := bT_length s
        rw [hr] at h3
        rw [bT_length] at h2
        have := HSZ.out
        simp at h3
        omega
    have HSS := Lib.hid hs
    have HS2 := Lib.hid hs2
    have HS3 := Lib.hid hs3
    have HS4 := Lib.hid hs4
    have HS5 := Lib.hid hs5
    have HK := Lib.hid k0
    clear hs hs2 hs3 hs4 hs5 k0
    go_wp2_with fail
    refine (HCP.out u4 HB4.out).mono ?_
    rintro e u5 ⟨rfl, hb⟩
    have HB5 := Lib.hid (Below.step HB4.out hb)
    have HSS5 := Lib.hid (HSS.out.below hb)
    clear hb HB4 HCP HSS
    by_cases hcp : (parseP (bT p)).2 = 0
    rotate_left
    · have f1 : ((parseP (bT p)).2 != 0) = true := by simpa using hcp
      generalize (parseP (bT p)).2 = c at *
      clear hcp HSPL
      go_wp2_with fail
      go_ret
      exact ⟨rfl, HB5.out⟩
    have HSPL := Lib.hid fun h2 h3 h4 => HSPL.out hcp h2 h3 h4
    rw [hcp]
    clear hcp
    go_wp2_with fail
    refine (HCQ.out u5 HB5.out).mono ?_
    rintro e u6 ⟨rfl, hb⟩
    have HB6 := Lib.hid (Below.step HB5.out hb)
    have HSS6 := Lib.hid (HSS5.out.below hb)
    clear hb HB5 HCQ HSS5
    by_cases hcq : (parseP (bT q)).2 = 0
    rotate_left
    · have f1 : ((parseP (bT q)).2 != 0) = true := by simpa using hcq
      generalize (parseP (bT q)).2 = c at *
      clear hcq HSPL
      go_wp2_with fail
      go_ret
      exact ⟨rfl, HB6.out⟩
    have HSPL := Lib.hid fun h3 h4 => HSPL.out hcq h3 h4
    rw [hcq]
    clear hcq
    by_cases h60 : p.size + q.size ≤ 60
    rotate_left
    · have f1 : 60 - (q.size : Int) < (p.size : Int) := by omega
      clear h60 HSPL
      go_wp2_with fail
      go_ret
      exact ⟨rfl, HB6.out⟩
    have f1 : ¬ 60 - (q.size : Int) < (p.size : Int) := by omega
    have HLAW := Lib.hid (HSPL.out h60 HK.out)
    rw [← HS2.out, tl_length] at HLAW
    clear h60 HSPL
    have m8 : (S.length : Int) < 9 := by have := HS4.out; omega
    go_wp2_with fail
    go_loopw [9, 49] (fun bv iv wr => ∃ i : Nat, i ≤ S.length + 1 ∧ iv = .int .i64 (i : Int) ∧ bv = .bool (someN (bT p) (bT q) (tl S) i) ∧ Hid (Below u6.heap.size u6 wr)) (fun _ iv _ => S.length + 1 - (intOf iv).toNat)
    case atStart => exact ⟨0, by omega, rfl, rfl, Lib.hid (Below.refl _ _)⟩
    case round =>
      obtain ⟨i, hi, rfl, rfl, HBR⟩ := hrel
      by_cases hlt : i < S.length + 1
      · have z1 : (i : Int) < (S.length : Int) + 1 := by omega
        have z2 : (i : Int) ≤ (S.length : Int) := by omega
        have z3 : (0 : Int) ≤ (i : Int) := by omega
        have z4 : (i : Int) ≤ (cq : Int) := by have := HS3.out; omega
        have z5 : (S.length : Int) ≤ (cq : Int) := by have := HS3.out; omega
        have z6 : (i : Int) < 9 := by have := HS4.out; omega
        have HST : Hid (someN (bT p) (bT q) (tl S) (i + 1) = (someN (bT p) (bT q) (tl S) i || (fitsP (bT p) (joinP ck ((tl S).take i)).1 && fitsP (bT q) (joinP ck ((tl S).drop i)).1))) := Lib.hid rfl
        have HBW := Lib.hid (Below.trans HB6.out (HBR.out.mono HB6.out.size))
        have hl1 : (S.take i).length = i := by rw [List.length_take]; omega
        have hl2 : (S.drop i).length = S.length - i := by rw [List.length_drop]
        have HJ1 := Lib.hid fun (W : World) (hb : Below u6.heap.size u6 W) => join_any2 b cq (S.take i) W (sat_takeG2 (HSS6.out.below hb) i) (by rw [hl1]; omega) (by rw [hl1]; have := HS3.out; omega) (fun y hy => HS5.out y (List.mem_of_mem_take hy)) (HTT.out W (Below.trans HB6.out (hb.mono HB6.out.size)))
        rw [hl1] at HJ1
        have HT1 : Hid (tl (S.take i) = (tl S).take i) := Lib.hid (by unfold tl; rw [List.map_take])
        have HT2 : Hid (tl (S.drop i) = (tl S).drop i) := Lib.hid (by unfold tl; rw [List.map_drop])
        have HJL : Hid (∀ l : List ByteArray, (∀ y ∈ l, y ∈ S) → l.length ≤ 8 → (⟨(joinP ck (tl l)).1.toArray⟩ : ByteArray).size < 4294967281) := Lib.hid fun l h1 h8 => by
          have h9 := jn_len 1048576 (tl l) (fun x hx => by
            obtain ⟨y, hy, rfl⟩ := List.mem_map.1 hx
            rw [bT_length]; exact HSM.out y (h1 y hy))
          rw [tl_length] at h9
          have h2 : l.length * (1048576 + 1) ≤ 8 * (1048576 + 1) := Nat.mul_le_mul_right _ h8
          show (joinP ck (tl l)).1.length < _
          unfold joinP
          split
          · simp; omega
          · simp
        have HL1 : Hid ((S.take i).length ≤ 8) := Lib.hid (by rw [hl1]; have := HS4.out; omega)
        have HL2 : Hid ((S.drop i).length ≤ 8) := Lib.hid (by rw [hl2]; have := HS4.out; omega)
        clear hlt hl1
        have HFA := Lib.hid fun (W : World) (hb : Below w.heap.size w W) => HF.out p ⟨(joinP ck ((tl S).take i)).1.toArray⟩ W hb HPZ.out.1 (by have := HJL.out (S.take i) (fun y hy => List.mem_of_mem_take hy) HL1.out; rw [HT1.out] at this; exact this)
        have HFB := Lib.hid fun (W : World) (hb : Below w.heap.size w W) => HF.out q ⟨(joinP ck ((tl S).drop i)).1.toArray⟩ W hb HPZ.out.2.1 (by have := HJL.out (S.drop i) (fun y hy => List.mem_of_mem_drop hy) HL2.out; rw [HT2.out] at this; exact this)
        rw [show bT ⟨(joinP ck ((tl S).take i)).1.toArray⟩ = (joinP ck ((tl S).take i)).1 from bT_mk _] at HFA
        rw [show bT ⟨(joinP ck ((tl S).drop i)).1.toArray⟩ = (joinP ck ((tl S).drop i)).1 from bT_mk _] at HFB
        have HCQ3 : Hid (S.length ≤ cq ∧ i ≤ S.length) := Lib.hid ⟨HS3.out, by omega⟩
        have HJ2a := Lib.hid fun (W : World) (hb : Below u6.heap.size u6 W) (hci : S.length ≤ i) => join_any2 b 0 (S.drop i) W (sat_dropE hci) (by have := HL2.out; omega) (by rw [List.length_drop]; omega) (fun y hy => HS5.out y (List.mem_of_mem_drop hy)) (HTT.out W (Below.trans HB6.out (hb.mono HB6.out.size)))
        have HJ2b := Lib.hid fun (W : World) (hb : Below u6.heap.size u6 W) => join_any2 (b.map fun x => x.add i) (cq - i) (S.drop i) W (sat_dropG (HSS6.out.below hb) i) (by have := HL2.out; omega) (by rw [List.length_drop]; have := HCQ3.out; omega) (fun y hy => HS5.out y (List.mem_of_mem_drop hy)) (HTT.out W (Below.trans HB6.out (hb.mono HB6.out.size)))
        rw [hl2] at HJ2a HJ2b
        have HI9 : Hid ((i : Int) < 9) := Lib.hid z6
        clear hl2
        go_wp2_with fail
        refine (HJ1.out wr HBR.out).mono ?_
        rintro e v1 ⟨hb, rfl⟩
        have HBR1 := Lib.hid (Below.step HBR.out hb)
        clear hb HJ1
        rw [HT1.out]
        by_cases hcqi : cq = i
        · subst hcqi
          have HJX := Lib.hid fun (W : World) (hb : Below u6.heap.size u6 W) => HJ2a.out W hb HCQ3.out.1
          have q5 : (S.length : Int) ≤ (cq : Int) := z5
          clear HJ2a HJ2b
          go_wp2_with fail
          refine (HJX.out v1 HBR1.out).mono ?_
          rintro e v2 ⟨hb, rfl⟩
          have HBR2 := Lib.hid (Below.step HBR1.out hb)
          clear hb HJX
          rw [HT2.out]
          have HBW2 := Lib.hid (Below.trans HB6.out (HBR2.out.mono HB6.out.size))
          generalize fitsP (bT p) (joinP ck ((tl S).take cq)).1 = fa at *
          generalize fitsP (bT q) (joinP ck ((tl S).drop cq)).1 = fb at *
          generalize (joinP ck ((tl S).take cq)).2 = ca at *
          generalize (joinP ck ((tl S).drop cq)).2 = cb at *
          generalize (⟨(joinP ck ((tl S).take cq)).1.toArray⟩ : ByteArray) = xa at *
          generalize (⟨(joinP ck ((tl S).drop cq)).1.toArray⟩ : ByteArray) = xb at *
          obtain ⟨so, hso⟩ : ∃ so, someN (bT p) (bT q) (tl S) cq = so := ⟨_, rfl⟩
          rw [hso] at HST ⊢
          have z6 : (cq : Int) < 9 := HI9.out
          clear hso
          cases so with
          | true =>
            go_wp2_with fail
            go_roundw
            case rel => exact ⟨cq + 1, by have := HCQ3.out; omega, by go_num, by rw [HST.out]; rfl, HBR2⟩
            case measure => simp [intOf]; have := HCQ3.out; omega
          | false =>
            go_wp2_with fail
            refine (HFA.out v2 HBW2.out).mono ?_
            rintro e v3 ⟨rfl, hb⟩
            have HBR3 := Lib.hid (Below.step HBR2.out hb)
            have HBW3 := Lib.hid (Below.step HBW2.out hb)
            clear hb HFA
            cases fa with
            | false =>
              go_wp2_with fail
              go_roundw
              case rel => exact ⟨cq + 1, by have := HCQ3.out; omega, by go_num, by rw [HST.out]; rfl, HBR3⟩
              case measure => simp [intOf]; have := HCQ3.out; omega
            | true =>
              go_wp2_with fail
              refine (HFB.out v3 HBW3.out).mono ?_
              rintro e v4 ⟨rfl, hb⟩
              have HBR4 := Lib.hid (Below.step HBR3.out hb)
              clear hb HFB
              cases fb
              all_goals go_wp2_with fail
              all_goals go_roundw
              case rel => exact ⟨cq + 1, by have := HCQ3.out; omega, by go_num, by rw [HST.out]; rfl, HBR4⟩
              case measure => simp [intOf]; have := HCQ3.out; omega
              case rel => exact ⟨cq + 1, by have := HCQ3.out; omega, by go_num, by rw [HST.out]; rfl, HBR4⟩
              case measure => simp [intOf]; have := HCQ3.out; omega
        · have q6 : ¬ (cq : Int) ≤ (i : Int) := by omega
          clear HJ2a
          go_wp2_with fail
          refine (HJ2b.out v1 HBR1.out).mono ?_
          rintro e v2 ⟨hb, rfl⟩
          have HBR2 := Lib.hid (Below.step HBR1.out hb)
          clear hb HJ2b
          rw [HT2.out]
          have HBW2 := Lib.hid (Below.trans HB6.out (HBR2.out.mono HB6.out.size))
          generalize fitsP (bT p) (joinP ck ((tl S).take i)).1 = fa at *
          generalize fitsP (bT q) (joinP ck ((tl S).drop i)).1 = fb at *
          generalize (joinP ck ((tl S).take i)).2 = ca at *
          generalize (joinP ck ((tl S).drop i)).2 = cb at *
          generalize (⟨(joinP ck ((tl S).take i)).1.toArray⟩ : ByteArray) = xa at *
          generalize (⟨(joinP ck ((tl S).drop i)).1.toArray⟩ : ByteArray) = xb at *
          obtain ⟨so, hso⟩ : ∃ so, someN (bT p) (bT q) (tl S) i = so := ⟨_, rfl⟩
          rw [hso] at HST ⊢
          have z6 : (i : Int) < 9 := HI9.out
          clear hso
          cases so with
          | true =>
            go_wp2_with fail
            go_roundw
            case rel => exact ⟨i + 1, by have := HCQ3.out; omega, by go_num, by rw [HST.out]; rfl, HBR2⟩
            case measure => simp [intOf]; have := HCQ3.out; omega
          | false =>
            go_wp2_with fail
            refine (HFA.out v2 HBW2.out).mono ?_
            rintro e v3 ⟨rfl, hb⟩
            have HBR3 := Lib.hid (Below.step HBR2.out hb)
            have HBW3 := Lib.hid (Below.step HBW2.out hb)
            clear hb HFA
            cases fa with
            | false =>
              go_wp2_with fail
              go_roundw
              case rel => exact ⟨i + 1, by have := HCQ3.out; omega, by go_num, by rw [HST.out]; rfl, HBR3⟩
              case measure => simp [intOf]; have := HCQ3.out; omega
            | true =>
              go_wp2_with fail
              refine (HFB.out v3 HBW3.out).mono ?_
              rintro e v4 ⟨rfl, hb⟩
              have HBR4 := Lib.hid (Below.step HBR3.out hb)
              clear hb HFB
              cases fb
              all_goals go_wp2_with fail
              all_goals go_roundw
              case rel => exact ⟨i + 1, by have := HCQ3.out; omega, by go_num, by rw [HST.out]; rfl, HBR4⟩
              case measure => simp [intOf]; have := HCQ3.out; omega
              case rel => exact ⟨i + 1, by have := HCQ3.out; omega, by go_num, by rw [HST.out]; rfl, HBR4⟩
              case measure => simp [intOf]; have := HCQ3.out; omega
      · have z1 : ¬ (i : Int) < (S.length : Int) + 1 := by omega
        obtain rfl : i = S.length + 1 := by omega
        have HFE := Lib.hid (HF.out (p ++ q) s wr (Below.trans HB6.out (HBR.out.mono HB6.out.size)) HXZ.out HPZ.out.2.2)
        rw [HLAW.out] at HFE
        have HBW := Lib.hid (Below.trans HB6.out (HBR.out.mono HB6.out.size))
        generalize someN (bT p) (bT q) (tl S) (S.length + 1) = r at *
        go_wp2_with fail
        refine HFE.out.mono ?_
        rintro e v ⟨rfl, hb⟩
        have HBE := Lib.hid (Below.step HBW.out hb)
        clear hb HFE
        go_wp2_with fail
        go_ret
        exact ⟨by simp, HBE.out⟩
  · have f1 : ((splP ck (bT s)).2 != 0) = true := by simpa using k0
    generalize (splP ck (bT s)).2 = c at *
    clear k0
    go_wp2_with fail
    go_ret
    exact ⟨rfl, HB4.out⟩
end Go.Proofs.YtokckcmkbnhhhaaDoor
