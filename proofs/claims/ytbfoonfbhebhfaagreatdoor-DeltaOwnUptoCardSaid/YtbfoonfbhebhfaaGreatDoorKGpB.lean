/- Joined: DeltaOwnW. -/
import Derived.Test.YtbfoonfbhebhfaaGreatDoorKGoJ
import Derived.Test.YtbfoonfbhebhfaaGreatDoorKGoK
import Derived.Test.YtbfoonfbhebhfaaGreatDoorKGoY
import Derived.Test.YtbfoonfbhebhfaaGreatDoorKGoZ
import Derived.Test.YtbfoonfbhebhfaaGreatDoorKGpA
import Derived.Test.YtbfoonfbhebhfaaGreatDoorKGoA
import Derived.Test.YtbfoonfbhebhfaaGreatDoorKGnU
namespace Go.Proofs.YtbfoonfbhebhfaaGreatDoor
open Go.RowKit Plain Go.Maps Go.ChangeMaps
set_option linter.unusedVariables false
set_option linter.unusedSimpArgs false
theorem diff_sizesO {la lb : List It} {l : List Ed} (h : Diff nk Prod.fst zIt la lb l) (ha : ∀ x ∈ la, x.1.size ≤ 1048576) (hb : ∀ x ∈ lb, x.1.size ≤ 1048576) : ∀ e ∈ l, szE e := by
 intro x hx
 obtain ⟨⟨o1, o2⟩, h2⟩ := h.ok x hx
 have h3 : x.1.size ≤ 1048576 := by
  rcases h2 with ⟨y, hy, e⟩ | ⟨y, hy, e⟩
  ·
   rw [e]; exact ha y hy
  ·
   rw [e]; exact hb y hy
 refine ⟨h3, ?_⟩
 cases hg : x.2.1 with
 | true => rw [o1 hg]; decide
 | false => rw [o2 hg]; exact h3
set_option maxRecDepth 100000 in
set_option maxHeartbeats 1000000 in
theorem spoilEd_nil (w : World) :
  Calls Tryz.prog 35 #[.slice none 0 0, .agg #[.string ⟨#[]⟩, .bool false, .string ⟨#[]⟩, .int .i64 0, .int .i64 0, .int .i64 0, .string ⟨#[]⟩]] w (fun e w' => e = .returned (.tuple #[]) ∧ Below w.heap.size w w') := by
 have HB0 := Lib.hid ((Below.refl w.heap.size w).alloc (Nat.le_refl _) (.cells #[.string ⟨#[]⟩, .bool false, .string ⟨#[]⟩, .int .i64 0, .int .i64 0, .int .i64 0, .string ⟨#[]⟩] 65))
 go_enter Tryz.func35, Tryz.ntmps35
 go_wp2_with fail
 go_loopw [11] (fun iv wr => iv = .int .i64 0 ∧ Below w.heap.size w wr) (fun _ _ => 0)
 case atStart => exact ⟨rfl, HB0.out⟩
 case round =>
  obtain ⟨rfl, hg⟩ := hrel
  have HG := Lib.hid hg
  clear hg
  go_wp2_with fail
  go_end0
  exact ⟨rfl, HG.out⟩
def OwL {α : Type} (T : TypeId) (k : Nat) (c : α → List Value) (B : Nat) (a : Option Addr) (cap : Nat) (l : List α) (w : World) : Prop := SAt k c w a l ∧ NB B a
theorem OwL.below {α : Type} {T : TypeId} {k : Nat} {c : α → List Value} {B : Nat} {a : Option Addr} {cap : Nat} {l : List α} {w w' : World} (h : OwL T k c B a cap l w) (hb : Below w.heap.size w w') : OwL T k c B a cap l w' := ⟨h.1.below hb, h.2⟩
theorem OwL.grown {α : Type} {T : TypeId} {k : Nat} {c : α → List Value} {B : Nat} {a : Option Addr} {cap : Nat} {l : List α} {w w' : World} {g : Nat} (h : OwL T k c B a cap l w) (hg : w.grownBy w' (some g)) (hB : g < B) : OwL T k c B a cap l w' := ⟨h.1.grown hg (h.2.ne hB), h.2⟩
theorem OwL.of {α : Type} {T : TypeId} {k : Nat} {c : α → List Value} {B : Nat} {a : Option Addr} {cap : Nat} {l : List α} {w : World} (hc : ∀ y, (c y).length = k) (h : w.ownsRow B T k (.slice a l.length cap) l.length (l.flatMap c)) : OwL T k c B a cap l w := ⟨own_satW hc h, nb_own h⟩
theorem own_keepG {w w' : World} {base : Nat} {e : TypeId} {k : Nat} {v : Value} {n : Nat} {xs : List Value} {g : Nat} (h : w.ownsRow base e k v n xs) (hg : w.grownBy w' (some g)) (hB : g < base) : w'.ownsRow base e k v n xs := by
 refine ⟨h.1, ?_⟩
 rcases h.2 with h | ⟨b, c, cur, h0, h1, h2, h3⟩
 ·
  exact .inl h
 ·
  exact .inr ⟨b, c, cur, h0, h1, (hg.block b (lt_of_blockW h2) (by intro e; injection e with e; omega)).trans h2, h3⟩
def Spd (lo hi : Nat) (w w' : World) : Prop := Below w.heap.size w w' ∨ ∃ g, lo ≤ g ∧ g < hi ∧ w.grownBy w' (some g)
theorem OwL.spoil {α : Type} {T : TypeId} {k : Nat} {c : α → List Value} {B : Nat} {a : Option Addr} {cap : Nat} {l : List α} {w w' : World} {lo hi : Nat} (h : OwL T k c B a cap l w) (hs : Spd lo hi w w') (hB : hi ≤ B) : OwL T k c B a cap l w' := by
 rcases hs with hs | ⟨g, _, h2, hs⟩
 ·
  exact h.below hs
 ·
  exact h.grown hs (by omega)
theorem Spd.below {lo hi B : Nat} {w0 w w' : World} (hb : Below B w0 w) (hs : Spd lo hi w w') (hB : B ≤ lo) (hw : B ≤ w.heap.size) : Below B w0 w' := by
 rcases hs with hs | ⟨g, h1, _, hs⟩
 ·
  exact hb.trans (hs.mono hw)
 ·
  exact below_grown hb hs hw (by omega)
theorem spoilEd_own {lo hi cap : Nat} {a : Option Addr} {l : List Ed} {w : World} (h : w.ownsRow lo 65 7 (.slice a l.length cap) l.length (l.flatMap eC)) (hh : ∀ ad, a = some ad → ad.block < hi) :
  Calls Tryz.prog 35 #[.slice a l.length cap, .agg #[.string ⟨#[]⟩, .bool false, .string ⟨#[]⟩, .int .i64 0, .int .i64 0, .int .i64 0, .string ⟨#[]⟩]] w (fun e w' => e = .returned (.tuple #[]) ∧ Spd lo hi w w') := by
 have hk := h
 rcases hk.2 with ⟨h0, hn⟩ | ⟨g, c', cur, h0, hr⟩
 ·
  injection h0 with h1 h2 h3
  subst h1 h3
  rw [hn]
  refine (spoilEd_nil w).mono ?_
  rintro e w' ⟨rfl, hb⟩
  exact ⟨rfl, .inl hb⟩
 ·
  injection h0 with h1 h2 h3
  subst h1 h3
  obtain ⟨hbg, hgw, hnc, hc63, cur, hcur, hcs, _⟩ := own_block h
  refine (spoilEd_any g cap l.length cur w hcur hcs hc63 hnc).mono ?_
  rintro e w' ⟨rfl, hg, _⟩
  exact ⟨rfl, .inr ⟨g, hbg, hh _ rfl, hg⟩⟩
set_option maxRecDepth 100000 in
set_option maxHeartbeats 2000000 in
theorem deltaOwn_any (aa ab ae : Option Addr) (ca cb ce : Nat) (la lb : List It) (le : List Ed) (m : Int) (w : World) (ha : SAt 5 iC w aa la) (hb : SAt 5 iC w ab lb) (he : SAt 7 eC w ae le) (za : la.length ≤ 1048576) (zb : lb.length ≤ 1048576) (ze : le.length ≤ 1048576) (sa : ∀ x ∈ la, x.1.size ≤ 1048576) (sb : ∀ x ∈ lb, x.1.size ≤ 1048576) (se : ∀ y ∈ le, szE y) (ta : TmOk la) (hm : MaxL m w) (hT : Tabs w) (hMC : MaxC w) :
  Calls Tryz.prog 8 #[.slice aa la.length ca, .slice ab lb.length cb, .slice ae le.length ce] w fun e w' => e = .returned (.bool true) ∧ Below w.heap.size w w' := by
 have HA := Lib.hid ha
 have HB := Lib.hid hb
 have HE := Lib.hid he
 have HSA := Lib.hid sa
 have HSB := Lib.hid sb
 have HSE := Lib.hid se
 have HTA := Lib.hid ta
 have HM := Lib.hid hm
 have HT := Lib.hid hT
 have HMC := Lib.hid hMC
 clear ha hb he sa sb se ta hm hT hMC
 go_enter Tryz.func8, Tryz.ntmps8
 go_wp2_with fail
 refine (walked_any m _ HM.out HT.out HMC.out).mono ?_
 rintro e w1 ⟨rfl, hb1⟩
 have HB1 := Lib.hid hb1
 clear hb1
 go_wp2_with fail
 refine (ampleIt_any aa ca la w1 (HA.out.below HB1.out) (by omega)).mono ?_
 rintro e w2 ⟨g1, rfl, hg1, ham1, hb2⟩
 have HG1 := Lib.hid hg1
 have HL1 : Hid (g1 < w2.heap.size) := Lib.hid (lt_of_block ham1)
 have HB2 := Lib.hid (HB1.out.trans (hb2.mono HB1.out.size))
 have HAM1 := Lib.hid ham1
 clear hb2 ham1 hg1
 go_wp2_with fail
 refine (ampleIt_any ab cb lb w2 (HB.out.below HB2.out) (by omega)).mono ?_
 rintro e w3 ⟨g2, rfl, hg2, ham2, hb3⟩
 have HG2 := Lib.hid hg2
 have HL2 : Hid (g2 < w3.heap.size) := Lib.hid (lt_of_block ham2)
 have HB3 := Lib.hid (HB2.out.trans (hb3.mono HB2.out.size))
 have HAM13 := Lib.hid (HAM1.out.below hb3)
 have HAM2 := Lib.hid ham2
 clear hb3 ham2 hg2 HAM1
 go_wp2_with fail
 refine (ampleEd_any ae ce le w3 (HE.out.below HB3.out) (by omega)).mono ?_
 rintro e w4 ⟨g3, rfl, hg3, ham3, hb4⟩
 have HG3 := Lib.hid hg3
 have HL3 : Hid (g3 < w4.heap.size) := Lib.hid (lt_of_block ham3)
 have HB4 := Lib.hid (HB3.out.trans (hb4.mono HB3.out.size))
 have HGS : Hid (w.heap.size ≤ g1 ∧ g1 < g2 ∧ g2 < g3 ∧ g3 < w4.heap.size) := Lib.hid ⟨Nat.le_trans HB1.out.size HG1.out, Nat.lt_of_lt_of_le HL1.out HG2.out, Nat.lt_of_lt_of_le HL2.out HG3.out, HL3.out⟩
 have HX1 := Lib.hid (HAM13.out.below hb4)
 have HX2 := Lib.hid (HAM2.out.below hb4)
 have HX3 := Lib.hid ham3
 clear hb4 ham3 hg3 HAM13 HAM2
 go_wp2_with fail
 refine (diff_any (some ⟨g1, 0, none⟩) (some ⟨g2, 0, none⟩) (la.length + 3) (lb.length + 3) la lb m w4 (HX1.out.sat iC_length) (HX2.out.sat iC_length) (by omega) (by omega) (by omega) (by omega) HSA.out HSB.out (HM.out.below HB4.out) (HT.out.below HB4.out)).mono ?_
 rintro e w5 ⟨hb5, cd, ad, dc, D, rfl, hcd, hdl, hdc, ⟨hds, hdo⟩, hd0, hdd⟩
 have hDz : (∀ y ∈ D, szE y) ∧ D.length ≤ 200 := by
  by_cases h0 : cd = 0
  ·
   have hd := hdd h0
   refine ⟨diff_sizesO hd HSA.out HSB.out, ?_⟩
   have h1 : wcode la = 0 ∧ wcode lb = 0 := by
    rw [h0] at hcd
    by_cases h2 : wcode la = 0
    ·
     rw [if_neg (fun h => h h2)] at hcd; exact ⟨h2, hcd.symm⟩
    ·
     rw [if_pos h2] at hcd; exact absurd hcd.symm h2
   have h3 := (wcode_zero h1.1).1
   have h4 := (wcode_zero h1.2).1
   have h5 := hd.length
   omega
  ·
   rw [hd0 h0]
   exact ⟨by simp, by decide⟩
 have HDZ := Lib.hid hDz
 have HDC := Lib.hid (And.intro hdl hdc)
 have HB5 := Lib.hid (HB4.out.trans (hb5.mono HB4.out.size))
 have HY5 := Lib.hid hb5
 have HDO := Lib.hid hdo
 clear hb5 hcd hdl hdc hds hdo hd0 hdd hDz
 go_wp2_with fail
 refine (apply_any (some ⟨g1, 0, none⟩) (some ⟨g3, 0, none⟩) (la.length + 3) (le.length + 3) la le m w5 ((HX1.out.sat iC_length).below HY5.out) ((HX3.out.sat eC_length).below HY5.out) (by omega) (by omega) (by omega) (by omega) HSA.out HSE.out (HM.out.below HB5.out) (HT.out.below HB5.out)).mono ?_
 rintro e w6 ⟨hb6, co, ao, oc, O, rfl, hol, hoc, ⟨hos, hoo⟩, hoz, ho0, hoo0, _⟩
 have hOz : O.length ≤ 100 := by
  by_cases h0 : co = 0
  ·
   exact (wcode_zero (hoo0 h0).2.2.1).1
  ·
   rw [ho0 h0]; decide
 have HB6 := Lib.hid (HB5.out.trans (hb6.mono HB5.out.size))
 have HY6 := Lib.hid (HY5.out.trans (hb6.mono HY5.out.size))
 have HD6 := Lib.hid (own_belowK HDO.out hb6)
 have H56 : Hid (w5.heap.size ≤ w6.heap.size ∧ w4.heap.size ≤ w5.heap.size) := Lib.hid ⟨hb6.size, HY5.out.size⟩
 have HDB : Hid (∀ p, ad = some p → p.block < w5.heap.size) := Lib.hid fun p e => (own_typ HDO.out (by rw [e]; rfl)).2.1
 have HO6 := Lib.hid (OwL.of (T := 40) (cap := oc) iC_length hoo)
 clear hb6 hol hoc hos hoo hoz ho0 hoo0 HDO
 go_wp2_with fail
 refine (join_any' (some ⟨g3, 0, none⟩) ad (le.length + 3) dc le D m w6 ((HX3.out.sat eC_length).below HY6.out) (own_satW eC_length HD6.out) (by omega) HDC.out.1 (by omega) HDC.out.2 HSE.out HDZ.out.1 (HM.out.below HB6.out) (HT.out.below HB6.out)).mono ?_
 rintro e w7 ⟨hb7, cj, aj, jc, J, n0, rfl, hjl, hjc, ⟨hjs, hjo⟩, hjz, hcj, hjj, hj0, hj1⟩
 have hJz : J.length ≤ 200 := by
  by_cases h0 : cj = 0
  ·
   rw [hj0 h0]
   rw [h0] at hcj
   by_cases h1 : ecode le = 0
   ·
    rw [if_neg (fun h => h h1)] at hcj
    by_cases h2 : ecode D = 0
    ·
     rw [if_neg (fun h => h h2)] at hcj
     by_cases h3 : 200 < n0.length
     ·
      rw [if_pos h3] at hcj; cases hcj
     ·
      omega
    ·
     rw [if_pos h2] at hcj; exact absurd hcj.symm h2
   ·
    rw [if_pos h1] at hcj; exact absurd hcj.symm h1
  ·
   rw [hj1 h0]; decide
 have HB7 := Lib.hid (HB6.out.trans (hb7.mono HB6.out.size))
 have HY7 := Lib.hid (HY6.out.trans (hb7.mono HY6.out.size))
 have HD7 := Lib.hid (own_belowK HD6.out hb7)
 have HO7 := Lib.hid (HO6.out.below hb7)
 have H67 : Hid (w6.heap.size ≤ w7.heap.size) := Lib.hid hb7.size
 have HJ7 := Lib.hid (OwL.of (T := 65) (cap := jc) eC_length hjo)
 clear hb7 hjl hjc hjs hjo hjz hcj hjj hj0 hj1 HD6 HO6
 go_wp2_with fail
 refine (someWay_any _).mono ?_
 rintro e w8 ⟨rfl, hb8⟩
 have HB8 := Lib.hid (HB7.out.trans (hb8.mono HB7.out.size))
 have HY8 := Lib.hid (HY7.out.trans (hb8.mono HY7.out.size))
 have HZ8 := Lib.hid hb8
 clear hb8
 go_wp2_with fail
 refine (plantU 16 0 0 0 (some ⟨g1, 0, none⟩) (la.length + 3) la m w8 ((HX1.out.sat iC_length).below HY8.out) (by omega) HSA.out HTA.out (HM.out.below HB8.out) (HT.out.below HB8.out) (HMC.out.below HB8.out)).mono ?_
 rintro e w9 ⟨hb9, pl, i0, i1, i2, i3, i4, i5, i6, i7, oa9, oc9, c9, rfl, _, _, _, _⟩
 have HB9 := Lib.hid (HB8.out.trans (hb9.mono HB8.out.size))
 have HY9 := Lib.hid (HY8.out.trans (hb9.mono HY8.out.size))
 have HZ9 := Lib.hid (HZ8.out.trans (hb9.mono HZ8.out.size))
 clear hb9
 go_wp2_with fail
 refine (staysIt_any g1 aa ca la w9 (HX1.out.below HY9.out) (HA.out.below HB9.out) (by omega)).mono ?_
 rintro e w10 ⟨rfl, hb10⟩
 have HB10 := Lib.hid (HB9.out.trans (hb10.mono HB9.out.size))
 have HY10 := Lib.hid (HY9.out.trans (hb10.mono HY9.out.size))
 have HZ10 := Lib.hid (HZ9.out.trans (hb10.mono HZ9.out.size))
 clear hb10
 go_wp2_with fail
 refine (staysIt_any g2 ab cb lb w10 (HX2.out.below HY10.out) (HB.out.below HB10.out) (by omega)).mono ?_
 rintro e w11 ⟨rfl, hb11⟩
 have HB11 := Lib.hid (HB10.out.trans (hb11.mono HB10.out.size))
 have HY11 := Lib.hid (HY10.out.trans (hb11.mono HY10.out.size))
 have HZ11 := Lib.hid (HZ10.out.trans (hb11.mono HZ10.out.size))
 clear hb11
 go_wp2_with fail
 refine (staysEd_any g3 ae ce le w11 (HX3.out.below HY11.out) (HE.out.below HB11.out) (by omega)).mono ?_
 rintro e w12 ⟨rfl, hb12⟩
 have HB12 := Lib.hid (HB11.out.trans (hb12.mono HB11.out.size))
 have HY12 := Lib.hid (HY11.out.trans (hb12.mono HY11.out.size))
 have HZ12 := Lib.hid (HZ11.out.trans (hb12.mono HZ11.out.size))
 clear hb12 HB8 HB9 HB10 HB11 HY8 HY9 HY10 HY11 HZ8 HZ9 HZ10 HZ11
 have HD12 := Lib.hid (own_belowK HD7.out HZ12.out)
 have HO12 := Lib.hid (HO7.out.below HZ12.out)
 have HJ12 := Lib.hid (HJ7.out.below HZ12.out)
 go_wp2_with fail
 refine (cloneE_any ad dc D w12 (own_satW eC_length HD12.out) (by have := HDZ.out.2; omega)).mono ?_
 rintro e w13 ⟨hb13, ap, pc, rfl, hpl, hpc, hps, hpo⟩
 have HB13 := Lib.hid (HB12.out.trans (hb13.mono HB12.out.size))
 have HY13 := Lib.hid (HY12.out.trans (hb13.mono HY12.out.size))
 have H1213 : Hid (w12.heap.size ≤ w13.heap.size) := Lib.hid hb13.size
 have HD13 := Lib.hid (own_belowK HD12.out hb13)
 have HO13 := Lib.hid (HO12.out.below hb13)
 have HJ13 := Lib.hid (HJ12.out.below hb13)
 have HP13 := Lib.hid (OwL.of (T := 65) (cap := pc) eC_length (own_baseD hpo HY12.out.size))
 clear hb13 hpl hpc hps hpo HD12 HO12 HJ12
 go_wp2_with fail
 refine (cloneIt_any ao oc O w13 HO13.out.1 (by omega)).mono ?_
 rintro e w14 ⟨hb14, aq, qc, rfl, hqo⟩
 have HB14 := Lib.hid (HB13.out.trans (hb14.mono HB13.out.size))
 have HY14 := Lib.hid (HY13.out.trans (hb14.mono HY13.out.size))
 have H1314 : Hid (w13.heap.size ≤ w14.heap.size) := Lib.hid hb14.size
 have HD14 := Lib.hid (own_belowK HD13.out hb14)
 have HO14 := Lib.hid (HO13.out.below hb14)
 have HJ14 := Lib.hid (HJ13.out.below hb14)
 have HP14 := Lib.hid (HP13.out.below hb14)
 have HQ14 := Lib.hid (OwL.of (T := 40) (cap := qc) iC_length (own_baseD hqo HY13.out.size))
 clear hb14 hqo HD13 HO13 HJ13 HP13
 go_wp2_with fail
 refine (cloneE_any aj jc J w14 HJ14.out.1 (by omega)).mono ?_
 rintro e w15 ⟨hb15, ar, rc, rfl, hrl, hrc, hrs, hro⟩
 have HB15 := Lib.hid (HB14.out.trans (hb15.mono HB14.out.size))
 have HY15 := Lib.hid (HY14.out.trans (hb15.mono HY14.out.size))
 have H714 : Hid (w7.heap.size ≤ w14.heap.size) := Lib.hid (Nat.le_trans HZ12.out.size (Nat.le_trans H1213.out H1314.out))
 have HD15 := Lib.hid (own_belowK HD14.out hb15)
 have HO15 := Lib.hid (HO14.out.below hb15)
 have HJ15 := Lib.hid (HJ14.out.below hb15)
 have HP15 := Lib.hid (HP14.out.below hb15)
 have HQ15 := Lib.hid (HQ14.out.below hb15)
 have HR15 := Lib.hid (OwL.of (T := 65) (cap := rc) eC_length (own_baseD hro (show w6.heap.size ≤ w14.heap.size from Nat.le_trans (show w6.heap.size ≤ w7.heap.size from H67.out) H714.out)))
 have hx1 := HX1.out.below HY15.out
 have hx2 := HX2.out.below HY15.out
 have hx3 := HX3.out.below HY15.out
 obtain ⟨cs1, hcs1, hz1⟩ := hx1.cells iC_length rfl
 have HW15 : Hid (w.heap.size ≤ w15.heap.size) := Lib.hid HB15.out.size
 have HX2b := Lib.hid hx2
 have HX3b := Lib.hid hx3
 clear hb15 hrl hrc hrs hro HD14 HO14 HJ14 HP14 HQ14 hx1 hx2 hx3
 go_wp2_with fail
 refine (spoilIt_any g1 (la.length + 3) la.length cs1 w15 hcs1 hz1 (by omega) (by omega)).mono ?_
 rintro e w16 ⟨rfl, hg16, _⟩
 have HB16 := Lib.hid (below_grown HB15.out hg16 HW15.out HGS.out.1)
 have hx2 := HX2b.out.grown hg16 (by have := HGS.out; omega)
 have HX3c := Lib.hid (HX3b.out.grown hg16 (by have := HGS.out; omega))
 have HD16 := Lib.hid (own_keepG HD15.out hg16 (by have := HGS.out; omega))
 have HO16 := Lib.hid (HO15.out.grown hg16 (by have := HGS.out; have := H56.out; omega))
 have HJ16 := Lib.hid (HJ15.out.grown hg16 (by have := HGS.out; have := H56.out; omega))
 have HP16 := Lib.hid (HP15.out.grown hg16 (by have := HGS.out; omega))
 have HQ16 := Lib.hid (HQ15.out.grown hg16 (by have := HGS.out; omega))
 have HR16 := Lib.hid (HR15.out.grown hg16 (by have := HGS.out; have := H56.out; omega))
 have HW16 : Hid (w.heap.size ≤ w16.heap.size) := Lib.hid HB16.out.size
 obtain ⟨cs2, hcs2, hz2⟩ := hx2.cells iC_length rfl
 clear hg16 hcs1 hz1 hx2 HD15 HO15 HJ15 HP15 HQ15 HR15
 go_wp2_with fail
 refine (spoilIt_any g2 (lb.length + 3) lb.length cs2 w16 hcs2 hz2 (by omega) (by omega)).mono ?_
 rintro e w17 ⟨rfl, hg17, _⟩
 have HB17 := Lib.hid (below_grown HB16.out hg17 HW16.out (by have := HGS.out; omega))
 have hx3 := HX3c.out.grown hg17 (by have := HGS.out; omega)
 have HD17 := Lib.hid (own_keepG HD16.out hg17 (by have := HGS.out; omega))
 have HO17 := Lib.hid (HO16.out.grown hg17 (by have := HGS.out; have := H56.out; omega))
 have HJ17 := Lib.hid (HJ16.out.grown hg17 (by have := HGS.out; have := H56.out; omega))
 have HP17 := Lib.hid (HP16.out.grown hg17 (by have := HGS.out; omega))
 have HQ17 := Lib.hid (HQ16.out.grown hg17 (by have := HGS.out; omega))
 have HR17 := Lib.hid (HR16.out.grown hg17 (by have := HGS.out; have := H56.out; omega))
 have HW17 : Hid (w.heap.size ≤ w17.heap.size) := Lib.hid HB17.out.size
 obtain ⟨cs3, hcs3, hz3⟩ := hx3.cells eC_length rfl
 clear hg17 hcs2 hz2 hx3 HD16 HO16 HJ16 HP16 HQ16 HR16
 go_wp2_with fail
 refine (spoilEd_any g3 (le.length + 3) le.length cs3 w17 hcs3 hz3 (by omega) (by omega)).mono ?_
 rintro e w18 ⟨rfl, hg18, _⟩
 have HB18 := Lib.hid (below_grown HB17.out hg18 HW17.out (by have := HGS.out; omega))
 have HD18 := Lib.hid (own_keepG HD17.out hg18 (by have := HGS.out; omega))
 have HO18 := Lib.hid (HO17.out.grown hg18 (by have := HGS.out; have := H56.out; omega))
 have HJ18 := Lib.hid (HJ17.out.grown hg18 (by have := HGS.out; have := H56.out; omega))
 have HP18 := Lib.hid (HP17.out.grown hg18 (by have := HGS.out; omega))
 have HQ18 := Lib.hid (HQ17.out.grown hg18 (by have := HGS.out; omega))
 have HR18 := Lib.hid (HR17.out.grown hg18 (by have := HGS.out; have := H56.out; omega))
 clear hg18 hcs3 hz3 HD17 HO17 HJ17 HP17 HQ17 HR17
 go_wp2_with fail
 refine (eqEds_any ad ap dc pc D D w18 (own_satW eC_length HD18.out) HP18.out.1 (by have := HDZ.out.2; omega) (by have := HDZ.out.2; omega)).mono ?_
 rintro e w19 ⟨⟨r, rfl, hr⟩, hb19⟩
 obtain rfl : r = true := hr.2 rfl
 have HB19 := Lib.hid (HB18.out.trans (hb19.mono HB18.out.size))
 have HD19 := Lib.hid (own_belowK HD18.out hb19)
 have HO19 := Lib.hid (HO18.out.below hb19)
 have HJ19 := Lib.hid (HJ18.out.below hb19)
 have HQ19 := Lib.hid (HQ18.out.below hb19)
 have HR19 := Lib.hid (HR18.out.below hb19)
 clear hr hb19 HD18 HO18 HJ18 HP18 HQ18 HR18
 go_wp2_with fail
 refine (eqIts_any ao aq oc qc O O w19 HO19.out.1 HQ19.out.1 (by omega) (by omega)).mono ?_
 rintro e w20 ⟨⟨r, rfl, hr⟩, hb20⟩
 obtain rfl : r = true := hr.2 rfl
 have HB20 := Lib.hid (HB19.out.trans (hb20.mono HB19.out.size))
 have HD20 := Lib.hid (own_belowK HD19.out hb20)
 have HJ20 := Lib.hid (HJ19.out.below hb20)
 have HR20 := Lib.hid (HR19.out.below hb20)
 clear hr hb20 HD19 HO19 HJ19 HQ19 HR19
 go_wp2_with fail
 refine (eqEds_any aj ar jc rc J J w20 HJ20.out.1 HR20.out.1 (by omega) (by omega)).mono ?_
 rintro e w21 ⟨⟨r, rfl, hr⟩, hb21⟩
 obtain rfl : r = true := hr.2 rfl
 have HB21 := Lib.hid (HB20.out.trans (hb21.mono HB20.out.size))
 have HD21 := Lib.hid (own_belowK HD20.out hb21)
 have HJ21 := Lib.hid (HJ20.out.below hb21)
 have HR21 := Lib.hid (HR20.out.below hb21)
 clear hr hb21 HD20 HJ20 HR20
 go_wp2_with fail
 refine (spoilEd_own (hi := w5.heap.size) HD21.out HDB.out).mono ?_
 rintro e w22 ⟨rfl, hsp⟩
 have HB22 := Lib.hid (Spd.below HB21.out hsp (by have := HGS.out; omega) HB21.out.size)
 have HJ22 := Lib.hid (HJ21.out.spoil hsp H56.out.1)
 have HR22 := Lib.hid (HR21.out.spoil hsp H56.out.1)
 clear hsp HD21 HJ21 HR21
 go_wp2_with fail
 refine (eqEds_any aj ar jc rc J J w22 HJ22.out.1 HR22.out.1 (by omega) (by omega)).mono ?_
 rintro e w23 ⟨⟨r, rfl, hr⟩, hb23⟩
 obtain rfl : r = true := hr.2 rfl
 have HB23 := Lib.hid (HB22.out.trans (hb23.mono HB22.out.size))
 clear hr hb23
 go_wp2_with fail
 go_ret
 exact ⟨rfl, HB23.out⟩
end Go.Proofs.YtbfoonfbhebhfaaGreatDoor
