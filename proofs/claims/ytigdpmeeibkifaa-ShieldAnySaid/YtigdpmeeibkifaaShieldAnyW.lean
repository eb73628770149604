/- lumkeep.ShieldAny, walked. -/
import Derived.Test.YtigdpmeeibkifaaShieldAnyP
import Derived.Test.YtigdpmeeibkifaaShieldVer
import Derived.Test.YtigdpmeeibkifaaStrCalls
namespace Go.Proofs.Ytigdpmeeibkifaa
open Go.RowKit Plain
set_option linter.unusedVariables false
set_option linter.unusedSimpArgs false
abbrev tsAB : List ByteArray := [⟨#[97]⟩, ⟨#[98]⟩]
theorem tsAB_ok : GOk tsAB 1 := ⟨by decide, by decide, by decide, by decide, fun s hs => by
  simp only [List.mem_cons, List.not_mem_nil, or_false] at hs
  rcases hs with rfl | rfl <;> exact ⟨by decide, rfl⟩⟩
theorem tsAB_sat (w : World) : SAt 1 sC (w.alloc (.cells #[.string ⟨#[97]⟩, .string ⟨#[98]⟩] 9)) (some ⟨w.heap.size, 0, none⟩) tsAB := fun i hi => by
  refine ⟨w.heap.size, 0, rfl, by simp, ?_⟩
  intro j v hj
  have hr := cell_of_row _ w.heap.size (0 + i * 1 + j) _ _ _ (heap_alloc_new w (.cells #[.string ⟨#[97]⟩, .string ⟨#[98]⟩] 9))
  match i, hi with
  | 0, _ =>
    match j, hj with
    | 0, hj => rw [hr]; exact hj
    | j + 1, hj => simp [sC] at hj
  | 1, _ =>
    match j, hj with
    | 0, hj => rw [hr]; exact hj
    | j + 1, hj => simp [sC] at hj
set_option maxRecDepth 100000 in
set_option maxHeartbeats 8000000 in
theorem shieldAny_any (a : Option Addr) (cap : Nat) (ts : List ByteArray) (p bits : Int) (w : World) (hS : SAt 1 sC w a ts) (hn : ts.length ≤ 9223372036854775807) (hb0 : 0 ≤ bits) (hb1 : bits < 18446744073709551616) :
    Calls Try.prog 3 #[.slice a ts.length cap, .int .i64 p, .int .u64 bits] w fun e w' => e = .returned (.bool true) ∧ Below w.heap.size w w' := by
  have HS := Lib.hid hS
  have HBA := Lib.hid ((Below.refl w.heap.size w).alloc (Nat.le_refl _) (.cells #[.string ⟨#[97]⟩, .string ⟨#[98]⟩] 9))
  have HAB : Hid (Calls Try.prog 5 #[.slice (some ⟨w.heap.size, 0, none⟩) 2 2, .int .i64 1, .int .u64 5] (w.alloc (.cells #[.string ⟨#[97]⟩, .string ⟨#[98]⟩] 9)) fun e w' => Below w.heap.size w w' ∧ ∃ oa oc, e = .returned (.tuple #[.slice oa 3 oc, .bool true])) := Lib.hid (by
    refine (shards_any (some ⟨w.heap.size, 0, none⟩) 2 tsAB 1 5 _ (tsAB_sat w) (by decide) (by decide) (by decide)).mono ?_
    rintro e w' ⟨hb, ⟨q, oa, oc, hq, rfl, _, _⟩ | ⟨_, hno⟩⟩
    · obtain rfl : q = 1 := by omega
      exact ⟨Below.step HBA.out hb, oa, oc, rfl⟩
    · exact absurd tsAB_ok hno)
  clear hS
  go_enter Try.func3, Try.ntmps3
  go_wp2_with fail
  refine HAB.out.mono ?_
  rintro e w1 ⟨hb1w, oa0, oc0, rfl⟩
  have HB1 := Lib.hid hb1w
  have HSH := Lib.hid (shards_any a cap ts p bits w1 (HS.out.below hb1w) hn hb0 hb1)
  clear hb1w HAB HBA
  go_wp2_with fail
  refine HSH.out.mono ?_
  rintro e w2 ⟨hb2, ⟨q, oa, oc, hq, rfl, hok, hown⟩ | ⟨rfl, hno⟩⟩
  · subst hq
    have HB2 := Lib.hid (Below.step HB1.out hb2)
    have HOK := Lib.hid hok
    have hn16 : ts.length ≤ 16 := hok.2.1
    have hq8 : q ≤ 8 := by have := hok.2.2.2.1; omega
    have hn1 : 1 ≤ ts.length := hok.1
    have hsl : SAt 2 shC w2 oa (shl ts bits (ts.length + q)) := sat_own1 (c := shC) shC_length (by rw [shl_length]; exact hown)
    have HSL := Lib.hid hsl
    have hmd := fun (W : World) (hb : Below w2.heap.size w2 W) => mend_any oa oc (shl ts bits (ts.length + q)) (ts.length : Int) W (HSL.out.below hb) (by rw [shl_length]; omega) (by unfold I64; omega)
    have hvr := fun (W : World) (hb : Below w2.heap.size w2 W) => ver_any oa oc (shl ts bits (ts.length + q)) (ts.length : Int) W (HSL.out.below hb) (by rw [shl_length]; omega) (by unfold I64; omega)
    simp only [shl_length] at hmd hvr
    have HMD := Lib.hid hmd
    have HVR := Lib.hid hvr
    have HS2 := Lib.hid ((HS.out.below HB1.out).below hb2)
    clear hb2 hok hown hsl hmd hvr HSH
    go_wp2_with fail
    go_loopw [11, 39] (fun mv iv wr => ∃ i : Nat, i ≤ ts.length + q ∧ iv = .int .i64 (i : Int) ∧ mv = .int .i64 ((presN (shl ts bits (ts.length + q)) i).length : Int) ∧ Below w2.heap.size w2 wr) (fun _ iv _ => ts.length + q - (intOf iv).toNat)
    case atStart => exact ⟨0, by omega, rfl, rfl, Below.refl _ _⟩
    case round =>
      obtain ⟨i, hi, rfl, rfl, hbr⟩ := hrel
      have HBR := Lib.hid hbr
      clear hbr
      by_cases hil : i < ts.length + q
      · have i1 : (i : Int) < (ts.length : Int) + (q : Int) := by omega
        have i0 : (0 : Int) ≤ (i : Int) := by omega
        have hill : i < (shl ts bits (ts.length + q)).length := by rw [shl_length]; exact hil
        obtain ⟨s, hs⟩ : ∃ s, (shl ts bits (ts.length + q))[i] = s := ⟨_, rfl⟩
        obtain ⟨g, off, rfl, hg, b0, b1⟩ := (HSL.out.below HBR.out).shard i hill s hs
        have HPS : Hid ((presN (shl ts bits (ts.length + q)) (i + 1)) = if s.1 = true then presN (shl ts bits (ts.length + q)) i ++ [i] else presN (shl ts bits (ts.length + q)) i) := Lib.hid (by rw [presN_succ, shG_get hill, hs])
        have hpl := presN_len (shl ts bits (ts.length + q)) i
        clear hs hg hill
        obtain ⟨hb, x⟩ := s
        have HBA := Lib.hid (HBR.out.alloc HBR.out.size (.cells #[.bool hb, .string x] 28))
        obtain ⟨P, hP⟩ : ∃ P, presN (shl ts bits (ts.length + q)) i = P := ⟨_, rfl⟩
        rw [hP] at HPS hpl ⊢
        clear hP
        cases hb with
        | false =>
          have HE : Hid (presN (shl ts bits (ts.length + q)) (i + 1) = P) := Lib.hid (by rw [HPS.out]; rfl)
          go_wp2_with fail
          go_roundw
          case rel => exact ⟨i + 1, by omega, by go_num, by rw [HE.out], HBA.out⟩
          case measure => simp [intOf]; omega
        | true =>
          have HE : Hid (presN (shl ts bits (ts.length + q)) (i + 1) = P ++ [i]) := Lib.hid (by rw [HPS.out]; rfl)
          go_wp2_with fail
          go_roundw
          case rel => exact ⟨i + 1, by omega, by go_num, by rw [HE.out, List.length_append, List.length_singleton]; go_num, HBA.out⟩
          case measure => simp [intOf]; omega
      · have i1 : ¬ (i : Int) < (ts.length : Int) + (q : Int) := by omega
        have hie : i = ts.length + q := by omega
        have hpp : presN (shl ts bits (ts.length + q)) i = pres (shl ts bits (ts.length + q)) := by unfold pres; rw [shl_length, hie]
        rw [hpp]
        have HM1 := Lib.hid (HMD.out wr HBR.out)
        have hpl : (pres (shl ts bits (ts.length + q))).length ≤ ts.length + q := by have := presN_len (shl ts bits (ts.length + q)) (shl ts bits (ts.length + q)).length; rw [shl_length] at this; unfold pres; rwa [shl_length]
        clear hpp hie HMD
        go_wp2_with fail
        refine HM1.out.mono ?_
        rintro e w3 ⟨hb3, ⟨n', oa3, oc3, N, hn', rfl, _hA, _hP, hnp, hm, hown3⟩ | ⟨c, rfl, hc0, hbad⟩⟩
        · obtain rfl : n' = ts.length := by omega
          have hoe := any_mend HOK.out hnp hm
          rw [hoe] at hown3
          have HS3 := Lib.hid (sat_own1 (c := sC) sC_length hown3)
          have HB3 := Lib.hid (Below.step HBR.out hb3)
          have HSP := Lib.hid (HS2.out.below HB3.out)
          have HEQ := Lib.hid ((eqStr_any oa3 a oc3 cap ts ts w3 HS3.out HSP.out hn hn).mono (R' := fun e w' => e = .returned (.bool true) ∧ ∃ q, w' = w3.drewN q) (by rintro e w' ⟨rfl, hq⟩; exact ⟨by simp, hq⟩))
          have HNP := Lib.hid hnp
          have HOU := Lib.hid (any_ought HOK.out hnp hm)
          have HLO := Lib.hid fun c (hb : BadC (shl ts bits (ts.length + q)) (ts.length : Int) c) => any_lost HOK.out hb
          obtain ⟨M, hM⟩ : ∃ M, (pres (shl ts bits (ts.length + q))).length = M := ⟨_, rfl⟩
          have hnm : ¬ (M : Int) < (ts.length : Int) := by omega
          rw [hM]
          clear hoe hown3 hb3 hnp hm HM1 hM hpl _hA _hP
          go_wp2_with fail
          refine HEQ.out.mono ?_
          rintro e w4 ⟨rfl, dq, rfl⟩
          have HV := Lib.hid (HVR.out (w3.drewN dq) (below_dn HB3.out dq))
          go_wp2_with fail
          refine HV.out.mono ?_
          rintro e w5 ⟨hb5, c, rfl, ⟨hc0, hbad⟩ | ⟨n2, N2, hn2, _, _, hnp2, hm2, ⟨rfl, _⟩ | ⟨rfl, i2, hi2, hh2, hne2⟩⟩⟩
          · exfalso
            have := (HLO.out c hbad).2
            have := HNP.out
            omega
          · have HB5 := Lib.hid (Below.step HB2.out (Below.step (below_dn HB3.out dq) hb5))
            clear hb5
            go_wp2_with fail
            go_ret
            exact ⟨rfl, HB5.out⟩
          · exfalso
            obtain rfl : n2 = ts.length := by omega
            apply hne2
            rw [shl_length] at hi2
            rw [shl_has hi2 hh2]
            exact (any_ought HOK.out hnp2 hm2 i2).symm
        · obtain ⟨rfl, hlt⟩ := any_lost HOK.out hbad
          have HB3 := Lib.hid (Below.step HB2.out (Below.step HBR.out hb3))
          obtain ⟨M, hM⟩ : ∃ M, (pres (shl ts bits (ts.length + q))).length = M := ⟨_, rfl⟩
          rw [hM] at hlt ⊢
          have hnm : (M : Int) < (ts.length : Int) := by omega
          clear hbad hb3 hc0 hM hpl
          go_wp2_with fail
          go_ret
          exact ⟨rfl, HB3.out⟩
  · have HB2 := Lib.hid (Below.step HB1.out hb2)
    clear hb2 hno
    go_wp2_with fail
    go_ret
    exact ⟨rfl, HB2.out⟩
end Go.Proofs.Ytigdpmeeibkifaa
