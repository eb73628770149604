/- lumkeep.ShieldOwn, walked. -/
import Derived.Test.YtigdpmeeibkifaaShieldVer
import Derived.Test.YtigdpmeeibkifaaStrClone
import Derived.Test.YtigdpmeeibkifaaAmpleSr
import Derived.Test.YtigdpmeeibkifaaStaysSh
import Derived.Test.YtigdpmeeibkifaaGrown
namespace Go.Proofs.Ytigdpmeeibkifaa
open Go.RowKit Plain
set_option linter.unusedVariables false
set_option linter.unusedSimpArgs false
attribute [-go_sem] run_eql_struct run_neq_struct run_eqGuard_agg run_equalIn_agg Op.eqFields Program.fieldsOf
/-- a list of strings behind B -/
structure AtS (B : Nat) (a : Option Addr) (l : List ByteArray) (w : World) : Prop where
  s : SAt 1 sC w a l
  n : NB B a
theorem AtS.below {B : Nat} {a : Option Addr} {l : List ByteArray} {w w' : World} (h : AtS B a l w) (hb : Below w.heap.size w w') : AtS B a l w' := ⟨h.s.below hb, h.n⟩
theorem AtS.grown {B : Nat} {a : Option Addr} {l : List ByteArray} {w w' : World} {g : Nat} (h : AtS B a l w) (hg : w.grownBy w' (some g)) (hl : g < B) : AtS B a l w' := ⟨h.s.grown hg (h.n.ne hl), h.n⟩
theorem AtS.mono {B C : Nat} {a : Option Addr} {l : List ByteArray} {w : World} (h : AtS B a l w) (hC : C ≤ B) : AtS C a l w := ⟨h.s, h.n.mono hC⟩
theorem gd_list {ts : List ByteArray} {p : Int} {w0 w : World} {e : Ending} (h : GdEnd ts p w0 e w) (hp : p ≤ 8) : Below w0.heap.size w0 w ∧ ∃ a G c k, e = .returned (.tuple #[.slice a (List.length G) c, .int .i64 k]) ∧ AtS w0.heap.size a G w ∧ G.length ≤ 8 := by
  obtain ⟨hb, ⟨oa, oc, rfl, _, hown⟩ | ⟨c, _, rfl, _⟩⟩ := h
  · have hl := guards_length ts p.toNat
    refine ⟨hb, oa, guardsN ts p.toNat, oc, 0, by rw [hl], ⟨sat_own1 (c := sC) sC_length (by rw [hl]; exact hown), nb_own hown⟩, by rw [hl]; omega⟩
  · exact ⟨hb, none, [], 0, c, rfl, ⟨SAt.nil, fun ad e => by cases e⟩, by simp⟩
theorem md_list {l : List ShT} {m : Int} {w0 w : World} {e : Ending} (h : MdEnd l m w0 e w) : Below w0.heap.size w0 w ∧ ∃ a G c k, e = .returned (.tuple #[.slice a (List.length G) c, .int .i64 k]) ∧ AtS w0.heap.size a G w ∧ G.length ≤ 16 := by
  obtain ⟨hb, ⟨n, oa, oc, N, rfl, rfl, hA, _, _, _, hown⟩ | ⟨c, rfl, _, _⟩⟩ := h
  · have hl := outsM_length l n N n
    have := hA.2.1
    refine ⟨hb, oa, outsM l n N n, oc, 0, by rw [hl], ⟨sat_own1 (c := sC) sC_length (by rw [hl]; exact hown), nb_own hown⟩, by rw [hl]; omega⟩
  · exact ⟨hb, none, [], 0, c, rfl, ⟨SAt.nil, fun ad e => by cases e⟩, by simp⟩
abbrev tsA : List ByteArray := [⟨#[97]⟩]
theorem tsA_ok : GOk tsA 1 := ⟨by decide, by decide, by decide, by decide, fun s hs => by
  simp only [List.mem_singleton] at hs
  subst hs
  exact ⟨by decide, rfl⟩⟩
theorem tsA_sat (w : World) : SAt 1 sC (w.alloc (.cells #[.string ⟨#[97]⟩] 9)) (some ⟨w.heap.size, 0, none⟩) tsA := fun i hi => by
  refine ⟨w.heap.size, 0, rfl, by simp, ?_⟩
  intro j v hj
  have hr := cell_of_row _ w.heap.size (0 + i * 1 + j) _ _ _ (heap_alloc_new w (.cells #[.string ⟨#[97]⟩] 9))
  match i, hi with
  | 0, _ =>
    match j, hj with
    | 0, hj => rw [hr]; exact hj
    | j + 1, hj => simp [sC] at hj
set_option maxRecDepth 100000 in
set_option maxHeartbeats 8000000 in
theorem shieldOwn_any (a b : Option Addr) (cap lc : Nat) (ts : List ByteArray) (l : List ShT) (m : Int) (w : World) (hS : SAt 1 sC w a ts) (hL : SAt 2 shC w b l) (nt : ts.length ≤ 8796093021952) (nl : l.length ≤ 5864062014634) (hm : I64 m) :
    Calls Try.prog 4 #[.slice a ts.length cap, .slice b l.length lc, .int .i64 m] w fun e w' => e = .returned (.bool true) ∧ Below w.heap.size w w' := by
  have HS := Lib.hid hS
  have HL := Lib.hid hL
  have HBA := Lib.hid ((Below.refl w.heap.size w).alloc (Nat.le_refl _) (.cells #[.string ⟨#[97]⟩] 9))
  have HGA : Hid (Calls Try.prog 9 #[.slice (some ⟨w.heap.size, 0, none⟩) 1 1, .int .i64 1] (w.alloc (.cells #[.string ⟨#[97]⟩] 9)) fun e w' => Below w.heap.size w w' ∧ ∃ oa oc, e = .returned (.tuple #[.slice oa 1 oc, .int .i64 0])) := Lib.hid (by
    refine (guard_any (some ⟨w.heap.size, 0, none⟩) 1 tsA 1 _ (tsA_sat w) (by decide)).mono ?_
    rintro e w' ⟨hb, ⟨oa, oc, rfl, _, _⟩ | ⟨_, _, _, hno⟩⟩
    · exact ⟨Below.step HBA.out hb, oa, oc, rfl⟩
    · exact absurd tsA_ok hno)
  clear hS hL
  go_enter Try.func4, Try.ntmps4
  go_wp2_with fail
  refine HGA.out.mono ?_
  rintro e w1 ⟨hb, oa0, oc0, rfl⟩
  have HB1 := Lib.hid hb
  clear hb HGA HBA
  go_wp2_with fail
  refine (ampleSt_any a cap ts ⟨#[63]⟩ _ (HS.out.below HB1.out) nt).mono ?_
  rintro e w2 ⟨g1, rfl, hx1, hA1, hb⟩
  have HB2 := Lib.hid (Below.step HB1.out hb)
  have HA1 := Lib.hid hA1
  have HX1 : Hid (w.heap.size ≤ g1) := Nat.le_trans HB1.out.size hx1
  clear hx1 hA1 hb HB1
  go_wp2_with fail
  refine (ampleSh_any b lc l _ (HL.out.below HB2.out) nl).mono ?_
  rintro e w3 ⟨g2, rfl, hx2, hA2, hb⟩
  have HB3 := Lib.hid (Below.step HB2.out hb)
  have HX2 : Hid (w.heap.size ≤ g2) := Nat.le_trans HB2.out.size hx2
  have HP1 := Lib.hid (HA1.out.below hb)
  have HP2 := Lib.hid hA2
  obtain ⟨B, hBe⟩ : ∃ B, w3.heap.size = B := ⟨_, rfl⟩
  have HG1 : Hid (g1 < B) := by show _ < _; rw [← hBe]; exact lt_of_block HP1.out
  have HG2 : Hid (g2 < B) := by show _ < _; rw [← hBe]; exact lt_of_block HP2.out
  have HNE : Hid (g2 ≠ g1) := type_ne HP2.out HP1.out (by decide)
  have HWB : Hid (w.heap.size ≤ B) := by show _ ≤ _; rw [← hBe]; exact HB3.out.size
  have HZ3 : Hid (B ≤ w3.heap.size) := Lib.hid (by rw [hBe]; exact Nat.le_refl _)
  clear hx2 hA2 hb hBe HA1 HB2
  go_wp2_with fail
  refine (guard_any (some ⟨g1, 0, none⟩) (ts.length + 3) ts 2 _ (HP1.out.sat sC_length) (by omega)).mono ?_
  intro e w4 hr
  obtain ⟨hb, ga, G, gc, gk, rfl, hga, hgl⟩ := gd_list hr (by decide)
  have HG : Hid (AtS B ga G w4) := Lib.hid (hga.mono HZ3.out)
  have HGL := Lib.hid hgl
  have HB4 := Lib.hid (Below.step HB3.out hb)
  have HZ4 : Hid (B ≤ w4.heap.size) := Lib.hid (Nat.le_trans HZ3.out hb.size)
  replace HP1 := Lib.hid (HP1.out.below hb)
  replace HP2 := Lib.hid (HP2.out.below hb)
  clear hb HB3 HZ3
  clear hga hgl hr
  go_wp2_with fail
  refine (mend_any (some ⟨g2, 0, none⟩) (l.length + 3) l m _ (HP2.out.sat shC_length) (by omega) hm).mono ?_
  intro e w5 hr
  obtain ⟨hb, ma, M, mc, mk, rfl, hma, hml⟩ := md_list hr
  have HM : Hid (AtS B ma M w5) := Lib.hid (hma.mono HZ4.out)
  have HML := Lib.hid hml
  have HB5 := Lib.hid (Below.step HB4.out hb)
  have HZ5 : Hid (B ≤ w5.heap.size) := Lib.hid (Nat.le_trans HZ4.out hb.size)
  replace HP1 := Lib.hid (HP1.out.below hb)
  replace HP2 := Lib.hid (HP2.out.below hb)
  replace HG := Lib.hid (HG.out.below hb)
  clear hb HB4 HZ4
  clear hma hml hr
  go_wp2_with fail
  refine (ver_any (some ⟨g2, 0, none⟩) (l.length + 3) l m _ (HP2.out.sat shC_length) (by omega) hm).mono ?_
  rintro e w6 ⟨hb, vc, rfl, hvx⟩
  have HB6 := Lib.hid (Below.step HB5.out hb)
  have HZ6 : Hid (B ≤ w6.heap.size) := Lib.hid (Nat.le_trans HZ5.out hb.size)
  replace HP1 := Lib.hid (HP1.out.below hb)
  replace HP2 := Lib.hid (HP2.out.below hb)
  replace HG := Lib.hid (HG.out.below hb)
  replace HM := Lib.hid (HM.out.below hb)
  clear hb HB5 HZ5
  clear hvx
  go_wp2_with fail
  refine (staysSt_any g1 a cap ts ⟨#[63]⟩ _ HP1.out (HS.out.below HB6.out) nt).mono ?_
  rintro e w7 ⟨rfl, hb⟩
  have HB7 := Lib.hid (Below.step HB6.out hb)
  have HZ7 : Hid (B ≤ w7.heap.size) := Lib.hid (Nat.le_trans HZ6.out hb.size)
  replace HP1 := Lib.hid (HP1.out.below hb)
  replace HP2 := Lib.hid (HP2.out.below hb)
  replace HG := Lib.hid (HG.out.below hb)
  replace HM := Lib.hid (HM.out.below hb)
  clear hb HB6 HZ6
  go_wp2_with fail
  refine (staysSh_any g2 b lc l _ HP2.out (HL.out.below HB7.out) nl).mono ?_
  rintro e w8 ⟨rfl, hb⟩
  have HB8 := Lib.hid (Below.step HB7.out hb)
  have HZ8 : Hid (B ≤ w8.heap.size) := Lib.hid (Nat.le_trans HZ7.out hb.size)
  replace HP1 := Lib.hid (HP1.out.below hb)
  replace HP2 := Lib.hid (HP2.out.below hb)
  replace HG := Lib.hid (HG.out.below hb)
  replace HM := Lib.hid (HM.out.below hb)
  clear hb HB7 HZ7
  go_wp2_with fail
  refine (cloneStr_any ga gc G _ HG.out.s (by have := HGL.out; omega)).mono ?_
  rintro e w9 ⟨hb, ga2, gc2, rfl, hown⟩
  have HG9 : Hid (AtS B ga2 G w9) := Lib.hid ⟨sat_own1 sC_length hown, (nb_own hown).mono HZ8.out⟩
  have HB9 := Lib.hid (Below.step HB8.out hb)
  have HZ9 : Hid (B ≤ w9.heap.size) := Lib.hid (Nat.le_trans HZ8.out hb.size)
  replace HP1 := Lib.hid (HP1.out.below hb)
  replace HP2 := Lib.hid (HP2.out.below hb)
  replace HG := Lib.hid (HG.out.below hb)
  replace HM := Lib.hid (HM.out.below hb)
  clear hb HB8 HZ8
  clear hown
  go_wp2_with fail
  refine (cloneStr_any ma mc M _ HM.out.s (by have := HML.out; omega)).mono ?_
  rintro e w10 ⟨hb, ma2, mc2, rfl, hown⟩
  have HM9 : Hid (AtS B ma2 M w10) := Lib.hid ⟨sat_own1 sC_length hown, (nb_own hown).mono HZ9.out⟩
  have HB10 := Lib.hid (Below.step HB9.out hb)
  have HZ10 : Hid (B ≤ w10.heap.size) := Lib.hid (Nat.le_trans HZ9.out hb.size)
  replace HP1 := Lib.hid (HP1.out.below hb)
  replace HP2 := Lib.hid (HP2.out.below hb)
  replace HG := Lib.hid (HG.out.below hb)
  replace HM := Lib.hid (HM.out.below hb)
  replace HG9 := Lib.hid (HG9.out.below hb)
  clear hb HB9 HZ9
  clear hown
  obtain ⟨cs1, hcs, hz⟩ := HP1.out.cells sC_length rfl
  rw [Nat.mul_one] at hz
  have HCS := Lib.hid hcs
  have HCZ := Lib.hid hz
  clear hcs hz
  go_wp2_with fail
  refine (spoilSt_any g1 (ts.length + 3) ts.length ⟨#[33]⟩ _ _ HCS.out HCZ.out (by omega) (by omega)).mono ?_
  rintro e w11 ⟨rfl, hg, _⟩
  have HB11 := Lib.hid (below_grown HB10.out hg (Nat.le_trans HWB.out HZ10.out) HX1.out)
  have HZ11 : Hid (B ≤ w11.heap.size) := Lib.hid (Nat.le_trans HZ10.out hg.size)
  replace HG := Lib.hid (HG.out.grown hg HG1.out)
  replace HM := Lib.hid (HM.out.grown hg HG1.out)
  replace HG9 := Lib.hid (HG9.out.grown hg HG1.out)
  replace HM9 := Lib.hid (HM9.out.grown hg HG1.out)
  replace HP2 := Lib.hid (HP2.out.grown hg HNE.out)
  clear HB10 HZ10
  clear hg HCS HCZ HP1
  obtain ⟨cs2, hcs, hz⟩ := HP2.out.cells shC_length rfl
  have HCS := Lib.hid hcs
  have HCZ := Lib.hid hz
  clear hcs hz
  go_wp2_with fail
  refine (spoilSh_any g2 (l.length + 3) l.length _ _ HCS.out HCZ.out (by omega) (by omega)).mono ?_
  rintro e w12 ⟨rfl, hg, _⟩
  have HB12 := Lib.hid (below_grown HB11.out hg (Nat.le_trans HWB.out HZ11.out) HX2.out)
  have HZ12 : Hid (B ≤ w12.heap.size) := Lib.hid (Nat.le_trans HZ11.out hg.size)
  replace HG := Lib.hid (HG.out.grown hg HG2.out)
  replace HM := Lib.hid (HM.out.grown hg HG2.out)
  replace HG9 := Lib.hid (HG9.out.grown hg HG2.out)
  replace HM9 := Lib.hid (HM9.out.grown hg HG2.out)
  clear HB11 HZ11
  clear hg HCS HCZ HP2
  have HE1 := Lib.hid ((eqStB_any ga ga2 gc gc2 G G _ HG.out.s HG9.out.s (by have := HGL.out; omega) (by have := HGL.out; omega)).mono (R' := fun e w' => e = .returned (.bool true) ∧ Below w12.heap.size w12 w') (by rintro e w' ⟨rfl, hq⟩; exact ⟨by simp, hq⟩))
  go_wp2_with fail
  refine HE1.out.mono ?_
  rintro e w13 ⟨rfl, hb⟩
  have HE2 := Lib.hid ((eqStB_any ma ma2 mc mc2 M M w13 (HM.out.s.below hb) (HM9.out.s.below hb) (by have := HML.out; omega) (by have := HML.out; omega)).mono (R' := fun e w' => e = .returned (.bool true) ∧ Below w13.heap.size w13 w') (by rintro e w' ⟨rfl, hq⟩; exact ⟨by simp, hq⟩))
  have HB13 := Lib.hid (Below.step HB12.out hb)
  clear hb HE1
  go_wp2_with fail
  refine HE2.out.mono ?_
  rintro e w14 ⟨rfl, hb⟩
  have HB14 := Lib.hid (Below.step HB13.out hb)
  clear hb
  go_wp2_with fail
  go_ret
  exact ⟨rfl, HB14.out⟩
end Go.Proofs.Ytigdpmeeibkifaa
