/- IndexOwn: its walk. -/
import Derived.Test.YtinjnclpiiohcaaStaysPl
import Derived.Test.YtinjnclpiiohcaaStaysEn
import Derived.Test.YtinjnclpiiohcaaGrown
import Derived.Test.YtinjnclpiiohcaaIndexLatticeW
namespace Go.Proofs.Ytinjnclpiiohcaa
open Go.RowKit Plain
set_option linter.unusedVariables false
attribute [-go_sem] run_eql_struct run_neq_struct run_eqGuard_agg run_equalIn_agg Op.eqFields Program.fieldsOf
def z0P : Pl := ((0, 0, 0, 0, 0, 0, 0, 0), 0, 0, 0, 0)
def z0E : En := ((0, 0, 0, 0, 0, 0, 0, 0), 0, 0, 0)
/-- the three slices that came of ample -/
def IQ (gp gq gr : Nat) (l m : List Pl) (n : List En) (w : World) : Prop := Amp plC (plC z0P) 69 w gp l spP ∧ Amp plC (plC z0P) 69 w gq m spP ∧ Amp enC (enC z0E) 78 w gr n e5P
theorem IQ.below {gp gq gr : Nat} {l m : List Pl} {n : List En} {w w' : World} (h : IQ gp gq gr l m n w) (hb : Below w.heap.size w w') : IQ gp gq gr l m n w' := ⟨h.1.below hb, h.2.1.below hb, h.2.2.below hb⟩
theorem mergeG_any (a b : Option Addr) (ca cb : Nat) (l m : List Pl) (w : World) (hl : SAt 12 plC w a l) (hm : SAt 12 plC w b m) (nl : l.length ≤ 9223372036854775807) (nm : m.length ≤ 9223372036854775807) (bl : ∀ p ∈ l, ∀ c ∈ idL p.1, c < 256) (bm : ∀ p ∈ m, ∀ c ∈ idL p.1, c < 256) :
    Calls Try.prog 31 #[.slice a l.length ca, .slice b m.length cb] w fun e w' => Below w.heap.size w w' ∧ ∃ (x : List Pl) (y : Option Addr) (k c : Nat), e = .returned (.tuple #[.slice y x.length k, .int .i64 (c : Int)]) ∧ SAt 12 plC w' y x ∧ x.length ≤ 400 ∧ NB w.heap.size y := by
  refine (mergeF_any a b ca cb l m w hl hm nl nm bl bm).mono ?_
  rintro e w' ⟨hb, v, c, rfl, h, hf⟩
  obtain ⟨x, y, k, rfl, h1, h2, h3⟩ := h.list
  exact ⟨hb, x, y, k, c, rfl, h1, h2, fun ad e => hf ad _ _ (by rw [e])⟩
theorem ofG_any (n : Int) (a : Option Addr) (cap : Nat) (l : List En) (w : World) (h : SAt 11 enC w a l) (hl : l.length ≤ 9223372036854775807) (hlt : ∀ p ∈ l, ∀ c ∈ idL p.1, c < 256) :
    Calls Try.prog 37 #[.int .i64 n, .slice a l.length cap] w fun e w' => Below w.heap.size w w' ∧ ∃ (x : List Pl) (y : Option Addr) (k c : Nat), e = .returned (.tuple #[.slice y x.length k, .int .i64 (c : Int)]) ∧ SAt 12 plC w' y x ∧ x.length ≤ 400 ∧ NB w.heap.size y := by
  refine (ofF_any n a cap l w h hl hlt).mono ?_
  rintro e w' ⟨hb, x, y, k, c, rfl, h1, h2, _, hf⟩
  exact ⟨hb, x, y, k, c, rfl, h1, h2, fun ad e => hf ad _ _ (by rw [e])⟩
set_option maxRecDepth 100000 in
set_option maxHeartbeats 8000000 in
theorem indexOwn_any (a b c : Option Addr) (ca cb cc : Nat) (l m : List Pl) (n : List En) (w : World) (hl : SAt 12 plC w a l) (hm : SAt 12 plC w b m) (hn : SAt 11 enC w c n) (nl : l.length ≤ 3518437208780) (nm : m.length ≤ 3518437208780) (nn : n.length ≤ 4398046511110)
    (bl : ∀ p ∈ l, ∀ c ∈ idL p.1, c < 256) (bm : ∀ p ∈ m, ∀ c ∈ idL p.1, c < 256) (bn : ∀ p ∈ n, ∀ c ∈ idL p.1, c < 256) :
    Calls Try.prog 7 #[.slice a l.length ca, .slice b m.length cb, .slice c n.length cc] w fun e w' => e = .returned (.bool true) ∧ Below w.heap.size w w' := by
  have HL := Lib.hid hl
  have HM := Lib.hid hm
  have HN := Lib.hid hn
  have HBL := Lib.hid bl
  have HBM := Lib.hid bm
  have HBN := Lib.hid bn
  have HSP := Lib.hid fun u => somePlace_lit u
  have HMG := Lib.hid fun x y cx cy (lx ly : List Pl) u h1 h2 h3 h4 h5 h6 => mergeG_any x y cx cy lx ly u h1 h2 h3 h4 h5 h6
  have HOF := Lib.hid fun k x cx (lx : List En) u h1 h2 h3 => ofG_any k x cx lx u h1 h2 h3
  have HM1 := Lib.hid fun (u : World) => mergeP_any (some ⟨u.heap.size, 0, none⟩) none 1 0 [spP] [] _ (sat_sp u) SAt.nil (by decide) (by decide) (by decide) (by simp)
  simp only [List.length_cons, List.length_nil] at HM1
  have HEQ := Lib.hid fun x y cx cy (lx ly : List Pl) u h1 h2 h3 h4 => eqPls_any x y cx cy lx ly u h1 h2 h3 h4
  have HAP := Lib.hid fun x cx (lx : List Pl) u h1 h2 => amplePl_any x cx lx u h1 h2
  have HAE := Lib.hid fun x cx (lx : List En) u h1 h2 => ampleEn_any x cx lx u h1 h2
  have HYP := Lib.hid fun g x cx (lx : List Pl) u h1 h2 h3 => staysPl_any g x cx lx u h1 h2 h3
  have HYE := Lib.hid fun g x cx (lx : List En) u h1 h2 h3 => staysEn_any g x cx lx u h1 h2 h3
  have HCL := Lib.hid fun x cx (lx : List Pl) u h1 h2 => cloneP_any x cx lx u h1 h2
  have HOP := Lib.hid fun g k j cs u h1 h2 h3 h4 => spoilPl_any g k j cs u h1 h2 h3 h4
  have HOE := Lib.hid fun g k j cs u h1 h2 h3 h4 => spoilEn_any g k j cs u h1 h2 h3 h4
  clear hl hm hn bl bm bn
  go_enter Try.func7, Try.ntmps7
  go_wp2_with fail
  refine (HSP.out _).mono ?_
  rintro e w1 ⟨rfl, hb1⟩
  have HB1 := Lib.hid hb1
  clear hb1
  go_wp2_with fail
  refine (HM1.out _).mono ?_
  rintro e w2 ⟨hb2, x0, y0, k0, c0, rfl, _, _, hp0⟩
  obtain ⟨e1, rfl⟩ := hp0.sp
  have f0 : ((x0.length : Int) != 1) = false := by rw [e1]; rfl
  have HB2 := Lib.hid (Below.next (HB1.out.alloc HB1.out.size _) hb2 (by have := HB1.out.size; simp; try omega))
  clear hb2 hp0 e1
  go_wp2_with fail
  refine (HSP.out _).mono ?_
  rintro e w3 ⟨rfl, hb3⟩
  have HB3 := Lib.hid (Below.step HB2.out hb3)
  clear hb3
  go_wp2_with fail
  refine (HAP.out _ _ _ _ (HL.out.below HB3.out) nl).mono ?_
  rintro e w4 ⟨gp, rfl, hgp, hp, hb4⟩
  have HB4 := Lib.hid (Below.step HB3.out hb4)
  have HP := Lib.hid hp
  have G1 : Hid (w.heap.size ≤ gp) := Nat.le_trans HB3.out.size hgp
  clear hgp hp hb4
  go_wp2_with fail
  refine (HSP.out _).mono ?_
  rintro e w5 ⟨rfl, hb5⟩
  have HB5 := Lib.hid (Below.step HB4.out hb5)
  have HP' := Lib.hid (HP.out.below hb5)
  clear hb5 HP
  go_wp2_with fail
  refine (HAP.out _ _ _ _ (HM.out.below HB5.out) nm).mono ?_
  rintro e w6 ⟨gq, rfl, hgq, hq, hb6⟩
  have HB6 := Lib.hid (Below.step HB5.out hb6)
  have HP := Lib.hid (HP'.out.below hb6)
  have HQ := Lib.hid hq
  have G2 : Hid (gp < gq) := Nat.lt_of_lt_of_le (lt_of_block HP'.out) hgq
  clear hgq hq hb6 HP'
  go_wp2_with fail
  refine (HAE.out _ _ _ _ (HN.out.below HB6.out) nn).mono ?_
  rintro e w7 ⟨gr, rfl, hgr, hr, hb7⟩
  have HB7 := Lib.hid (Below.step HB6.out hb7)
  have HI7 : Hid (IQ gp gq gr l m n w7) := ⟨HP.out.below hb7, HQ.out.below hb7, hr⟩
  have G3 : Hid (gq < gr) := Nat.lt_of_lt_of_le (lt_of_block HQ.out) hgr
  have G4 : Hid (gr < w7.heap.size) := lt_of_block hr
  clear hgr hr hb7 HP HQ
  go_wp2_with fail
  refine (HMG.out _ _ _ _ _ _ _ (HI7.out.1.sat plC_length) (HI7.out.2.1.sat plC_length) (by omega) (by omega) HBL.out HBM.out).mono ?_
  rintro e w8 ⟨hb8, x1, y1, k1, c1, rfl, hs1, n1, hn1⟩
  have HB8 := Lib.hid (Below.step HB7.out hb8)
  have HI8 := Lib.hid (HI7.out.below hb8)
  have HS1 := Lib.hid hs1
  have N1 := Lib.hid hn1
  have Z8 : Hid (w7.heap.size ≤ w8.heap.size) := hb8.size
  clear hb8 hs1 hn1 HI7
  go_wp2_with fail
  refine (HOF.out _ _ _ _ _ (HI8.out.2.2.sat enC_length) (by omega) HBN.out).mono ?_
  rintro e w9 ⟨hb9, x2, y2, k2, c2, rfl, hs2, n2, hn2⟩
  have HB9 := Lib.hid (Below.step HB8.out hb9)
  have HI9 := Lib.hid (HI8.out.below hb9)
  have HS1' := Lib.hid (HS1.out.below hb9)
  have HS2 := Lib.hid hs2
  have N2 := Lib.hid (hn2.mono Z8.out)
  have Z9 : Hid (w7.heap.size ≤ w9.heap.size) := Nat.le_trans Z8.out hb9.size
  clear hb9 hs2 hn2 HI8 HS1 Z8
  go_wp2_with fail
  refine (HSP.out _).mono ?_
  rintro e w10 ⟨rfl, hb10⟩
  have HX10 := Lib.hid hb10
  have HB10 := Lib.hid (Below.step HB9.out hb10)
  clear hb10
  go_wp2_with fail
  refine (HYP.out _ _ _ _ _ (HI9.out.1.below HX10.out) (HL.out.below HB10.out) nl).mono ?_
  rintro e w11 ⟨rfl, hb11⟩
  have HX11 := Lib.hid (Below.step HX10.out hb11)
  have HB11 := Lib.hid (Below.step HB10.out hb11)
  clear hb11
  go_wp2_with fail
  refine (HSP.out _).mono ?_
  rintro e w12 ⟨rfl, hb12⟩
  have HX12 := Lib.hid (Below.step HX11.out hb12)
  have HB12 := Lib.hid (Below.step HB11.out hb12)
  clear hb12
  go_wp2_with fail
  refine (HYP.out _ _ _ _ _ (HI9.out.2.1.below HX12.out) (HM.out.below HB12.out) nm).mono ?_
  rintro e w13 ⟨rfl, hb13⟩
  have HX13 := Lib.hid (Below.step HX12.out hb13)
  have HB13 := Lib.hid (Below.step HB12.out hb13)
  clear hb13
  go_wp2_with fail
  refine (HYE.out _ _ _ _ _ (HI9.out.2.2.below HX13.out) (HN.out.below HB13.out) nn).mono ?_
  rintro e w14 ⟨rfl, hb14⟩
  have HX14 := Lib.hid (Below.step HX13.out hb14)
  have HB14 := Lib.hid (Below.step HB13.out hb14)
  clear hb14
  go_wp2_with fail
  refine (HCL.out _ _ _ _ (HS1'.out.below HX14.out) (by omega)).mono ?_
  rintro e w15 ⟨hb15, a3, q3, rfl, hown3⟩
  have HX15 := Lib.hid (Below.step HX14.out hb15)
  have HB15 := Lib.hid (Below.step HB14.out hb15)
  have HS3 := Lib.hid (own_satP rfl hown3)
  have N3 : Hid (NB w7.heap.size a3) := (nb_own hown3).mono (Nat.le_trans Z9.out HX14.out.size)
  clear hb15 hown3
  go_wp2_with fail
  refine (HCL.out _ _ _ _ (HS2.out.below HX15.out) (by omega)).mono ?_
  rintro e w16 ⟨hb16, a4, q4, rfl, hown4⟩
  have HX16 := Lib.hid (Below.step HX15.out hb16)
  have HB16 := Lib.hid (Below.step HB15.out hb16)
  have HS4 := Lib.hid (own_satP rfl hown4)
  have HS3' := Lib.hid (HS3.out.below hb16)
  have HS1 := Lib.hid (HS1'.out.below HX16.out)
  have HS2' := Lib.hid (HS2.out.below HX16.out)
  have HI := Lib.hid (HI9.out.below HX16.out)
  have N4 : Hid (NB w7.heap.size a4) := (nb_own hown4).mono (Nat.le_trans Z9.out HX15.out.size)
  have L1 : Hid (gp < w7.heap.size ∧ gq < w7.heap.size ∧ gr < w7.heap.size ∧ gp ≠ gq ∧ gp ≠ gr ∧ gq ≠ gr ∧ w.heap.size ≤ gp ∧ w.heap.size ≤ gq ∧ w.heap.size ≤ gr) := by
    have := G1.out
    have := G2.out
    have := G3.out
    have := G4.out
    refine ⟨?_, ?_, ?_, ?_, ?_, ?_, ?_, ?_, ?_⟩ <;> omega
  clear hb16 hown4 HX10 HX11 HX12 HX13 HX14 HX15 HX16 HS3 HS1' HS2 HI9 HB15 HB14 HB13 HB12 HB11 HB10 HB9 HB8 G1 G2 G3 G4
  obtain ⟨cp, hcp, hzp⟩ := HI.out.1.cells plC_length rfl
  have HOPP := Lib.hid (HOP.out gp (l.length + 3) l.length cp w16 hcp hzp (by omega) (by omega))
  clear hcp hzp
  go_wp2_with fail
  refine HOPP.out.mono ?_
  rintro e w17 ⟨rfl, hg, _⟩
  have HB17 := Lib.hid (below_grown HB16.out hg HB16.out.size L1.out.2.2.2.2.2.2.1)
  have HQ1 := Lib.hid (HI.out.2.1.grown hg (Ne.symm L1.out.2.2.2.1))
  have HR1 := Lib.hid (HI.out.2.2.grown hg (Ne.symm L1.out.2.2.2.2.1))
  have HA1 := Lib.hid (HS1.out.grown hg (N1.out.ne L1.out.1))
  have HA2 := Lib.hid (HS2'.out.grown hg (N2.out.ne L1.out.1))
  have HA3 := Lib.hid (HS3'.out.grown hg (N3.out.ne L1.out.1))
  have HA4 := Lib.hid (HS4.out.grown hg (N4.out.ne L1.out.1))
  obtain ⟨cq, hcq, hzq⟩ := HQ1.out.cells plC_length rfl
  have HOPQ := Lib.hid (HOP.out gq (m.length + 3) m.length cq w17 hcq hzq (by omega) (by omega))
  clear hcq hzq hg HI HOPP HS1 HS2' HS3' HS4 HB16
  go_wp2_with fail
  refine HOPQ.out.mono ?_
  rintro e w18 ⟨rfl, hg, _⟩
  have HB18 := Lib.hid (below_grown HB17.out hg HB17.out.size L1.out.2.2.2.2.2.2.2.1)
  have HR2 := Lib.hid (HR1.out.grown hg (Ne.symm L1.out.2.2.2.2.2.1))
  have HC1 := Lib.hid (HA1.out.grown hg (N1.out.ne L1.out.2.1))
  have HC2 := Lib.hid (HA2.out.grown hg (N2.out.ne L1.out.2.1))
  have HC3 := Lib.hid (HA3.out.grown hg (N3.out.ne L1.out.2.1))
  have HC4 := Lib.hid (HA4.out.grown hg (N4.out.ne L1.out.2.1))
  obtain ⟨cr, hcr, hzr⟩ := HR2.out.cells enC_length rfl
  have HOER := Lib.hid (HOE.out gr (n.length + 3) n.length cr w18 hcr hzr (by omega) (by omega))
  clear hcr hzr hg HOPQ HA1 HA2 HA3 HA4 HQ1 HR1 HB17
  go_wp2_with fail
  refine HOER.out.mono ?_
  rintro e w19 ⟨rfl, hg, _⟩
  have HB19 := Lib.hid (below_grown HB18.out hg HB18.out.size L1.out.2.2.2.2.2.2.2.2)
  have HD1 := Lib.hid (HC1.out.grown hg (N1.out.ne L1.out.2.2.1))
  have HD2 := Lib.hid (HC2.out.grown hg (N2.out.ne L1.out.2.2.1))
  have HD3 := Lib.hid (HC3.out.grown hg (N3.out.ne L1.out.2.2.1))
  have HD4 := Lib.hid (HC4.out.grown hg (N4.out.ne L1.out.2.2.1))
  clear hg HOER HC1 HC2 HC3 HC4 HR2 HB18
  go_wp2_with fail
  refine (HEQ.out _ _ _ _ _ _ _ HD1.out HD3.out (by omega) (by omega)).mono ?_
  rintro e w20 ⟨⟨r, rfl, hr⟩, hb20⟩
  obtain rfl : r = true := hr.2 rfl
  have HB20 := Lib.hid (Below.step HB19.out hb20)
  have HE2 := Lib.hid (HD2.out.below hb20)
  have HE4 := Lib.hid (HD4.out.below hb20)
  clear hr hb20 HD1 HD2 HD3 HD4
  go_wp2_with fail
  refine (HEQ.out _ _ _ _ _ _ _ HE2.out HE4.out (by omega) (by omega)).mono ?_
  rintro e w21 ⟨⟨r, rfl, hr⟩, hb21⟩
  obtain rfl : r = true := hr.2 rfl
  have HB21 := Lib.hid (Below.step HB20.out hb21)
  clear hr hb21
  go_wp2_with fail
  go_ret
  exact ⟨rfl, HB21.out⟩
end Go.Proofs.Ytinjnclpiiohcaa
