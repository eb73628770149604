/- Joined: FetchOwnW, IdOpen. -/
import Derived.Test.YtbfoonfbhebhfaaGreatDoorKGpI
import Derived.Test.YtbfoonfbhebhfaaGreatDoorKGpG
import Derived.Test.YtbfoonfbhebhfaaGreatDoorKGoK
import Derived.Test.YtbfoonfbhebhfaaGreatDoorKGpK
import Derived.Test.YtbfoonfbhebhfaaGreatDoorKGoA
import Derived.Test.YtbfoonfbhebhfaaGreatDoorKGnU
import Derived.Test.YtbfoonfbhebhfaaGreatDoorKGnT
import Derived.Test.YtbfoonfbhebhfaaGreatDoorKGnP
namespace Go.Proofs.YtbfoonfbhebhfaaGreatDoor
open Go.RowKit Plain Go.Maps Go.ChangeMaps
set_option linter.unusedVariables false
set_option linter.unusedSimpArgs false
theorem own_baseF {w : World} {base b2 : Nat} {e : TypeId} {k : Nat} {v : Value} {n : Nat} {xs : List Value} (h : w.ownsRow base e k v n xs) (hb : b2 ≤ base) : w.ownsRow b2 e k v n xs := by
 refine ⟨h.1, ?_⟩
 rcases h.2 with h | ⟨g, c, cur, h0, h1, h2⟩
 ·
  exact .inl h
 ·
  exact .inr ⟨g, c, cur, h0, Nat.le_trans hb h1, h2⟩
set_option maxRecDepth 100000 in
set_option maxHeartbeats 1000000 in
theorem spoilBl_nil (w : World) :
  Calls Tryz.prog 45 #[.slice none 0 0, .agg #[.int .i64 0, .string ⟨#[]⟩]] w (fun e w' => e = .returned (.tuple #[]) ∧ Below w.heap.size w w') := by
 have HB0 := Lib.hid ((Below.refl w.heap.size w).alloc (Nat.le_refl _) (.cells #[.int .i64 0, .string ⟨#[]⟩] 37))
 go_enter Tryz.func45, Tryz.ntmps45
 go_wp2_with fail
 go_loopw [11] (fun iv wr => iv = .int .i64 0 ∧ Below w.heap.size w wr) (fun _ _ => 0)
 case atStart => exact ⟨rfl, HB0.out⟩
 case round =>
  obtain ⟨rfl, hg⟩ := hrel
  have HG := Lib.hid hg
  clear hg
  go_wp2_with fail
  go_end0
  exact ⟨rfl, HG.out⟩
def OwL {α : Type} (T : TypeId) (k : Nat) (c : α → List Value) (B : Nat) (a : Option Addr) (cap : Nat) (l : List α) (w : World) : Prop := SAt k c w a l ∧ NB B a
theorem OwL.below {α : Type} {T : TypeId} {k : Nat} {c : α → List Value} {B : Nat} {a : Option Addr} {cap : Nat} {l : List α} {w w' : World} (h : OwL T k c B a cap l w) (hb : Below w.heap.size w w') : OwL T k c B a cap l w' := ⟨h.1.below hb, h.2⟩
theorem OwL.grown {α : Type} {T : TypeId} {k : Nat} {c : α → List Value} {B : Nat} {a : Option Addr} {cap : Nat} {l : List α} {w w' : World} {g : Nat} (h : OwL T k c B a cap l w) (hg : w.grownBy w' (some g)) (hB : g < B) : OwL T k c B a cap l w' := ⟨h.1.grown hg (h.2.ne hB), h.2⟩
theorem OwL.of {α : Type} {T : TypeId} {k : Nat} {c : α → List Value} {B : Nat} {a : Option Addr} {cap : Nat} {l : List α} {w : World} (hc : ∀ y, (c y).length = k) (h : w.ownsRow B T k (.slice a l.length cap) l.length (l.flatMap c)) : OwL T k c B a cap l w := ⟨own_satW hc h, nb_own h⟩
theorem own_keepG {w w' : World} {base : Nat} {e : TypeId} {k : Nat} {v : Value} {n : Nat} {xs : List Value} {g : Nat} (h : w.ownsRow base e k v n xs) (hg : w.grownBy w' (some g)) (hB : g < base) : w'.ownsRow base e k v n xs := by
 refine ⟨h.1, ?_⟩
 rcases h.2 with h | ⟨b, c, cur, h0, h1, h2, h3⟩
 ·
  exact .inl h
 ·
  exact .inr ⟨b, c, cur, h0, h1, (hg.block b (lt_of_blockW h2) (by intro e; injection e with e; omega)).trans h2, h3⟩
def Spd (lo hi : Nat) (w w' : World) : Prop := Below w.heap.size w w' ∨ ∃ g, lo ≤ g ∧ g < hi ∧ w.grownBy w' (some g)
theorem OwL.spoil {α : Type} {T : TypeId} {k : Nat} {c : α → List Value} {B : Nat} {a : Option Addr} {cap : Nat} {l : List α} {w w' : World} {lo hi : Nat} (h : OwL T k c B a cap l w) (hs : Spd lo hi w w') (hB : hi ≤ B) : OwL T k c B a cap l w' := by
 rcases hs with hs | ⟨g, _, h2, hs⟩
 ·
  exact h.below hs
 ·
  exact h.grown hs (by omega)
theorem Spd.below {lo hi B : Nat} {w0 w w' : World} (hb : Below B w0 w) (hs : Spd lo hi w w') (hB : B ≤ lo) (hw : B ≤ w.heap.size) : Below B w0 w' := by
 rcases hs with hs | ⟨g, h1, _, hs⟩
 ·
  exact hb.trans (hs.mono hw)
 ·
  exact below_grown hb hs hw (by omega)
theorem spoilBl_own {lo hi cap : Nat} {a : Option Addr} {l : List Bl} {w : World} (h : w.ownsRow lo 37 2 (.slice a l.length cap) l.length (l.flatMap blC)) (hh : ∀ ad, a = some ad → ad.block < hi) :
  Calls Tryz.prog 45 #[.slice a l.length cap, .agg #[.int .i64 0, .string ⟨#[]⟩]] w (fun e w' => e = .returned (.tuple #[]) ∧ Spd lo hi w w') := by
 have hk := h
 rcases hk.2 with ⟨h0, hn⟩ | ⟨g, c', cur, h0, hr⟩
 ·
  injection h0 with h1 h2 h3
  subst h1 h3
  rw [hn]
  refine (spoilBl_nil w).mono ?_
  rintro e w' ⟨rfl, hb⟩
  exact ⟨rfl, .inl hb⟩
 ·
  injection h0 with h1 h2 h3
  subst h1 h3
  obtain ⟨hbg, hgw, hnc, hc63, cur, hcur, hcs, _⟩ := own_block h
  refine (spoilBl_any g cap l.length cur w hcur hcs hc63 hnc).mono ?_
  rintro e w' ⟨rfl, hg, _⟩
  exact ⟨rfl, .inr ⟨g, hbg, hh _ rfl, hg⟩⟩
def BlEnd (w0 : World) (e : Ending) (w : World) : Prop := Below w0.heap.size w0 w ∧ ∃ (P : List Bl) (oa : Option Addr) (oc : Nat) (c : Int), e = .returned (.tuple #[.slice oa P.length oc, .int .i64 c]) ∧ w.ownsRow w0.heap.size 37 2 (.slice oa P.length oc) P.length (P.flatMap blC) ∧ P.length ≤ 1000
theorem own_nilF {w0 w : World} (h : Below w0.heap.size w0 w) : w.ownsRow w0.heap.size 37 2 (.slice none ([] : List Bl).length 0) ([] : List Bl).length (([] : List Bl).flatMap blC) := ⟨rfl, .inl ⟨rfl, rfl⟩⟩
theorem sat_idK {w : World} {a : Option Addr} {l : List ID8} (h : SAt 8 idC w a l) : SAt 8 idK w a (l.map idL) := fun i hi => by
 obtain ⟨g, off, h1, h2, h3⟩ := h i (by simpa using hi)
 refine ⟨g, off, h1, h2, ?_⟩
 rw [List.getElem_map]
 exact h3
theorem idsL_map (l : List ID8) : IdsL (l.map idL) := fun x hx => by
 obtain ⟨t, _, rfl⟩ := List.mem_map.1 hx
 rfl
theorem planO_any (ab ar : Option Addr) (cb cr : Nat) (l : List Bl) (lr : List ID8) (w : World) (hl : SAt 2 blC w ab l) (hr : SAt 8 idC w ar lr) (zl : l.length ≤ 9223372036854775807) (zr : lr.length ≤ 9223372036854775807) (hT : Tabs w) :
  Calls Tryz.prog 38 #[.slice none 0 0, .slice ab l.length cb, .slice ar lr.length cr] w (BlEnd w) := by
 have h := plan_any none ab ar 0 cb cr [] l (lr.map idL) w (fun i hi => absurd hi (by simp)) hl (sat_idK hr) (fun x hx => (by cases hx)) (idsL_map lr) (by simp) zl (by simpa using zr) hT
 rw [List.length_map] at h
 refine h.mono ?_
 rintro e w1 ⟨hb, ⟨_, seen, out, oa, oc, _, rfl, ho, hz⟩ | ⟨c, _, rfl, _⟩⟩
 ·
  exact ⟨hb, out, oa, oc, 0, rfl, ho, hz⟩
 ·
  exact ⟨hb, [], none, 0, c, rfl, own_nilF hb, by simp⟩
theorem intoO_any (ah ab : Option Addr) (ch cb : Nat) (hv q : List Bl) (w : World) (hh : SAt 2 blC w ah hv) (hq : SAt 2 blC w ab q) (zh : hv.length ≤ 9223372036854775807) (zq : q.length ≤ 9223372036854775807) (hT : Tabs w) :
  Calls Tryz.prog 40 #[.slice ah hv.length ch, .slice ab q.length cb] w (BlEnd w) := by
 refine (into_any ah ab ch cb hv q w hh hq zh zq hT).mono ?_
 rintro e w1 ⟨hb, ⟨O, oa, oc, _, _, _, hz, rfl, ho⟩ | ⟨c, _, rfl, _⟩⟩
 ·
  exact ⟨hb, O, oa, oc, 0, rfl, ho, hz⟩
 ·
  exact ⟨hb, [], none, 0, c, rfl, own_nilF hb, by simp⟩
set_option maxRecDepth 100000 in
set_option maxHeartbeats 2000000 in
theorem fetchOwn_any (aa ab ar : Option Addr) (ca cb cr : Nat) (la lb : List Bl) (lr : List ID8) (m : Int) (w : World) (ha : SAt 2 blC w aa la) (hb : SAt 2 blC w ab lb) (hr : SAt 8 idC w ar lr) (za : la.length ≤ 5864062014634) (zb : lb.length ≤ 5864062014634) (zr : lr.length ≤ 17592186043904) (hm : MaxL m w) (hT : Tabs w) (hMC : MaxC w) :
  Calls Tryz.prog 10 #[.slice aa la.length ca, .slice ab lb.length cb, .slice ar lr.length cr] w fun e w' => e = .returned (.bool true) ∧ Below w.heap.size w w' := by
 have HA := Lib.hid ha
 have HB := Lib.hid hb
 have HR := Lib.hid hr
 have HM := Lib.hid hm
 have HT := Lib.hid hT
 have HMC := Lib.hid hMC
 clear ha hb hr hm hT hMC
 go_enter Tryz.func10, Tryz.ntmps10
 go_wp2_with fail
 refine (fetched_any m _ HM.out HT.out HMC.out).mono ?_
 rintro e w1 ⟨rfl, hb1⟩
 have HB1 := Lib.hid hb1
 clear hb1
 go_wp2_with fail
 refine (ampleBl_any aa ca la w1 (HA.out.below HB1.out) (by omega)).mono ?_
 rintro e w2 ⟨g1, rfl, hg1, ham1, hb2⟩
 have HG1 := Lib.hid hg1
 have HL1 : Hid (g1 < w2.heap.size) := Lib.hid (lt_of_block ham1)
 have HB2 := Lib.hid (HB1.out.trans (hb2.mono HB1.out.size))
 have HAM1 := Lib.hid ham1
 clear hb2 ham1 hg1
 go_wp2_with fail
 refine (ampleBl_any ab cb lb w2 (HB.out.below HB2.out) (by omega)).mono ?_
 rintro e w3 ⟨g2, rfl, hg2, ham2, hb3⟩
 have HG2 := Lib.hid hg2
 have HL2 : Hid (g2 < w3.heap.size) := Lib.hid (lt_of_block ham2)
 have HB3 := Lib.hid (HB2.out.trans (hb3.mono HB2.out.size))
 have HAM13 := Lib.hid (HAM1.out.below hb3)
 have HAM2 := Lib.hid ham2
 clear hb3 ham2 hg2 HAM1
 go_wp2_with fail
 refine (ampleId_any ar cr lr w3 (HR.out.below HB3.out) (by omega)).mono ?_
 rintro e w4 ⟨g3, rfl, hg3, ham3, hb4⟩
 have HG3 := Lib.hid hg3
 have HL3 : Hid (g3 < w4.heap.size) := Lib.hid (lt_of_block ham3)
 have HB4 := Lib.hid (HB3.out.trans (hb4.mono HB3.out.size))
 have HGS : Hid (w.heap.size ≤ g1 ∧ g1 < g2 ∧ g2 < g3 ∧ g3 < w4.heap.size) := Lib.hid ⟨Nat.le_trans HB1.out.size HG1.out, Nat.lt_of_lt_of_le HL1.out HG2.out, Nat.lt_of_lt_of_le HL2.out HG3.out, HL3.out⟩
 have HX1 := Lib.hid (HAM13.out.below hb4)
 have HX2 := Lib.hid (HAM2.out.below hb4)
 have HX3 := Lib.hid ham3
 clear hb4 ham3 hg3 HAM13 HAM2
 go_wp2_with fail
 refine (planO_any (some ⟨g2, 0, none⟩) (some ⟨g3, 0, none⟩) (lb.length + 3) (lr.length + 3) lb lr w4 (HX2.out.sat blC_length) (HX3.out.sat idC_length) (by omega) (by omega) (HT.out.below HB4.out)).mono ?_
 rintro e w5 ⟨hb5, P, pa, pc, c1, rfl, hpo, hpz⟩
 have HPZ := Lib.hid hpz
 have HB5 := Lib.hid (HB4.out.trans (hb5.mono HB4.out.size))
 have HY5 := Lib.hid hb5
 have HPO := Lib.hid hpo
 have H45 : Hid (w4.heap.size ≤ w5.heap.size) := Lib.hid hb5.size
 clear hb5 hpo hpz
 go_wp2_with fail
 refine (intoO_any (some ⟨g1, 0, none⟩) (some ⟨g2, 0, none⟩) (la.length + 3) (lb.length + 3) la lb w5 ((HX1.out.sat blC_length).below HY5.out) ((HX2.out.sat blC_length).below HY5.out) (by omega) (by omega) (HT.out.below HB5.out)).mono ?_
 rintro e w6 ⟨hb6, O, oa, oc, c2, rfl, hoo, hoz⟩
 have HOZ := Lib.hid hoz
 have HB6 := Lib.hid (HB5.out.trans (hb6.mono HB5.out.size))
 have HY6 := Lib.hid (HY5.out.trans (hb6.mono HY5.out.size))
 have HP6 := Lib.hid (own_belowK HPO.out hb6)
 have H56 : Hid (w5.heap.size ≤ w6.heap.size) := Lib.hid hb6.size
 have HPB : Hid (∀ p, pa = some p → p.block < w5.heap.size) := Lib.hid fun p e => (own_typ HPO.out (by rw [e]; rfl)).2.1
 have HO6 := Lib.hid (OwL.of (T := 37) (cap := oc) blC_length hoo)
 clear hb6 hoo hoz HPO
 go_wp2_with fail
 refine (staysBl_any g1 aa ca la w6 (HX1.out.below HY6.out) (HA.out.below HB6.out) (by omega)).mono ?_
 rintro e w7 ⟨rfl, hb7⟩
 have HB7 := Lib.hid (HB6.out.trans (hb7.mono HB6.out.size))
 have HY7 := Lib.hid (HY6.out.trans (hb7.mono HY6.out.size))
 have HZ7 := Lib.hid hb7
 clear hb7
 go_wp2_with fail
 refine (staysBl_any g2 ab cb lb w7 (HX2.out.below HY7.out) (HB.out.below HB7.out) (by omega)).mono ?_
 rintro e w8 ⟨rfl, hb8⟩
 have HB8 := Lib.hid (HB7.out.trans (hb8.mono HB7.out.size))
 have HY8 := Lib.hid (HY7.out.trans (hb8.mono HY7.out.size))
 have HZ8 := Lib.hid (HZ7.out.trans (hb8.mono HZ7.out.size))
 clear hb8
 go_wp2_with fail
 refine (staysId_any g3 ar cr lr w8 (HX3.out.below HY8.out) (HR.out.below HB8.out) (by omega)).mono ?_
 rintro e w9 ⟨rfl, hb9⟩
 have HB9 := Lib.hid (HB8.out.trans (hb9.mono HB8.out.size))
 have HY9 := Lib.hid (HY8.out.trans (hb9.mono HY8.out.size))
 have HZ9 := Lib.hid (HZ8.out.trans (hb9.mono HZ8.out.size))
 clear hb9 HB7 HB8 HY7 HY8 HZ7 HZ8
 have HP9 := Lib.hid (own_belowK HP6.out HZ9.out)
 have HO9 := Lib.hid (HO6.out.below HZ9.out)
 go_wp2_with fail
 refine (cloneBl_any pa pc P w9 (own_satW blC_length HP9.out) (by have := HPZ.out; omega)).mono ?_
 rintro e w10 ⟨hb10, ap, kc, rfl, hpo⟩
 have HB10 := Lib.hid (HB9.out.trans (hb10.mono HB9.out.size))
 have HY10 := Lib.hid (HY9.out.trans (hb10.mono HY9.out.size))
 have HP10 := Lib.hid (own_belowK HP9.out hb10)
 have HO10 := Lib.hid (HO9.out.below hb10)
 have HQ10 := Lib.hid (OwL.of (T := 37) (cap := kc) blC_length (own_baseF hpo (show w5.heap.size ≤ w9.heap.size from Nat.le_trans H56.out HZ9.out.size)))
 have H910 : Hid (w5.heap.size ≤ w10.heap.size) := Lib.hid (Nat.le_trans H56.out (Nat.le_trans HZ9.out.size hb10.size))
 clear hb10 hpo HP9 HO9
 go_wp2_with fail
 refine (cloneBl_any oa oc O w10 HO10.out.1 (by have := HOZ.out; omega)).mono ?_
 rintro e w11 ⟨hb11, aq, qc, rfl, hqo⟩
 have HB11 := Lib.hid (HB10.out.trans (hb11.mono HB10.out.size))
 have HY11 := Lib.hid (HY10.out.trans (hb11.mono HY10.out.size))
 have HP11 := Lib.hid (own_belowK HP10.out hb11)
 have HO11 := Lib.hid (HO10.out.below hb11)
 have HQ11 := Lib.hid (HQ10.out.below hb11)
 have HS11 := Lib.hid (OwL.of (T := 37) (cap := qc) blC_length (own_baseF hqo H910.out))
 have hx1 := HX1.out.below HY11.out
 have HX2b := Lib.hid (HX2.out.below HY11.out)
 have HX3b := Lib.hid (HX3.out.below HY11.out)
 obtain ⟨cs1, hcs1, hz1⟩ := hx1.cells blC_length rfl
 have HW11 : Hid (w.heap.size ≤ w11.heap.size) := Lib.hid HB11.out.size
 clear hb11 hqo HP10 HO10 HQ10 hx1
 go_wp2_with fail
 refine (spoilBl_any g1 (la.length + 3) la.length cs1 w11 hcs1 hz1 (by omega) (by omega)).mono ?_
 rintro e w12 ⟨rfl, hg12, _⟩
 have HB12 := Lib.hid (below_grown HB11.out hg12 HW11.out HGS.out.1)
 have hx2 := HX2b.out.grown hg12 (by have := HGS.out; omega)
 have HX3c := Lib.hid (HX3b.out.grown hg12 (by have := HGS.out; omega))
 have HP12 := Lib.hid (own_keepG HP11.out hg12 (by have := HGS.out; omega))
 have HO12 := Lib.hid (HO11.out.grown hg12 (by have := HGS.out; have := H45.out; omega))
 have HQ12 := Lib.hid (HQ11.out.grown hg12 (by have := HGS.out; have := H45.out; omega))
 have HS12 := Lib.hid (HS11.out.grown hg12 (by have := HGS.out; have := H45.out; omega))
 have HW12 : Hid (w.heap.size ≤ w12.heap.size) := Lib.hid HB12.out.size
 obtain ⟨cs2, hcs2, hz2⟩ := hx2.cells blC_length rfl
 clear hg12 hcs1 hz1 hx2 HP11 HO11 HQ11 HS11
 go_wp2_with fail
 refine (spoilBl_any g2 (lb.length + 3) lb.length cs2 w12 hcs2 hz2 (by omega) (by omega)).mono ?_
 rintro e w13 ⟨rfl, hg13, _⟩
 have HB13 := Lib.hid (below_grown HB12.out hg13 HW12.out (by have := HGS.out; omega))
 have hx3 := HX3c.out.grown hg13 (by have := HGS.out; omega)
 have HP13 := Lib.hid (own_keepG HP12.out hg13 (by have := HGS.out; omega))
 have HO13 := Lib.hid (HO12.out.grown hg13 (by have := HGS.out; have := H45.out; omega))
 have HQ13 := Lib.hid (HQ12.out.grown hg13 (by have := HGS.out; have := H45.out; omega))
 have HS13 := Lib.hid (HS12.out.grown hg13 (by have := HGS.out; have := H45.out; omega))
 have HW13 : Hid (w.heap.size ≤ w13.heap.size) := Lib.hid HB13.out.size
 obtain ⟨cs3, hcs3, hz3⟩ := hx3.cells idC_length rfl
 clear hg13 hcs2 hz2 hx3 HP12 HO12 HQ12 HS12
 go_wp2_with fail
 refine (spoilId_any g3 (lr.length + 3) lr.length cs3 w13 hcs3 hz3 (by omega) (by omega)).mono ?_
 rintro e w14 ⟨rfl, hg14, _⟩
 have HB14 := Lib.hid (below_grown HB13.out hg14 HW13.out (by have := HGS.out; omega))
 have HP14 := Lib.hid (own_keepG HP13.out hg14 (by have := HGS.out; omega))
 have HO14 := Lib.hid (HO13.out.grown hg14 (by have := HGS.out; have := H45.out; omega))
 have HQ14 := Lib.hid (HQ13.out.grown hg14 (by have := HGS.out; have := H45.out; omega))
 have HS14 := Lib.hid (HS13.out.grown hg14 (by have := HGS.out; have := H45.out; omega))
 clear hg14 hcs3 hz3 HP13 HO13 HQ13 HS13
 go_wp2_with fail
 refine (eqBls_any pa ap pc kc P P w14 (own_satW blC_length HP14.out) HQ14.out.1 (by have := HPZ.out; omega) (by have := HPZ.out; omega)).mono ?_
 rintro e w15 ⟨⟨r, rfl, hr⟩, hb15⟩
 obtain rfl : r = true := hr.2 rfl
 have HB15 := Lib.hid (HB14.out.trans (hb15.mono HB14.out.size))
 have HP15 := Lib.hid (own_belowK HP14.out hb15)
 have HO15 := Lib.hid (HO14.out.below hb15)
 have HS15 := Lib.hid (HS14.out.below hb15)
 clear hr hb15 HP14 HO14 HQ14 HS14
 go_wp2_with fail
 refine (spoilBl_own (hi := w5.heap.size) HP15.out HPB.out).mono ?_
 rintro e w16 ⟨rfl, hsp⟩
 have HB16 := Lib.hid (Spd.below HB15.out hsp (by have := HGS.out; omega) HB15.out.size)
 have HO16 := Lib.hid (HO15.out.spoil hsp (Nat.le_refl _))
 have HS16 := Lib.hid (HS15.out.spoil hsp (Nat.le_refl _))
 clear hsp HP15 HO15 HS15
 go_wp2_with fail
 refine (eqBls_any oa aq oc qc O O w16 HO16.out.1 HS16.out.1 (by have := HOZ.out; omega) (by have := HOZ.out; omega)).mono ?_
 rintro e w17 ⟨⟨r, rfl, hr⟩, hb17⟩
 obtain rfl : r = true := hr.2 rfl
 have HB17 := Lib.hid (HB16.out.trans (hb17.mono HB16.out.size))
 clear hr hb17
 go_wp2_with fail
 go_ret
 exact ⟨rfl, HB17.out⟩
end Go.Proofs.YtbfoonfbhebhfaaGreatDoor
namespace Go.Proofs.YtbfoonfbhebhfaaGreatDoor
open Go.RowKit Go.ChangeShapes Go.WideShapes Go.ChangeAt Plain
set_option maxRecDepth 100000 in
theorem open_idsT {H : Type} {enc : TypeId × Value → H} {W : World} {r : Reach} {base b0 : Nat} {sp : Nat → Bool} {held : Bool} {v : Value} {d : DataW H} {p : List MemPlace} (ho : Value.okWide Tryz.prog W r b0 57 v) (hd : DataW.Trod enc Tryz.prog W base sp held 57 v d p) :
  ∃ (a : Option Addr) (l : List ID8) (cap : Nat), v = .slice a l.length cap ∧ l.length ≤ cap ∧ cap ≤ 9223372036854775807 ∧ SAt 8 idC W a l := by
 obtain ⟨a, l, cap, rfl, h1, h2, _, h4, _⟩ := SAt.open_ (n := 8) (c := idC) (fun t => ∀ c ∈ idL t, c < 256) Tryz.underlying57 cells_idI (by decide) idC_length read_id8 ho hd
 exact ⟨a, l, cap, rfl, h1, h2, h4⟩
end Go.Proofs.YtbfoonfbhebhfaaGreatDoor
