/- The walks of the four laws of keeping. -/
import Derived.Test.YthfjonicolhjnaaKeepPicked
namespace Go.Proofs.Ythfjonicolhjnaa
open Go.RowKit Plain
theorem alloc_1 (w : World) (o1 : Obj) : Below w.heap.size w (w.alloc o1) ∧ (w.alloc o1).heap[w.heap.size]? = some o1 :=
  ⟨(Below.refl _ _).alloc (Nat.le_refl _) _, heap_alloc_new _ _⟩
theorem alloc_2 (w : World) (o1 o2 : Obj) : Below w.heap.size w ((w.alloc o1).alloc o2) ∧ ((w.alloc o1).alloc o2).heap[w.heap.size]? = some o1 ∧ ((w.alloc o1).alloc o2).heap[w.heap.size + 1]? = some o2 :=
  ⟨((Below.refl _ _).alloc (Nat.le_refl _) _).alloc (by simp) _, (Below.heap_alloc (w.alloc o1) o2 _ (by simp)).trans (heap_alloc_new _ _), heap_alloc2 _ _ _⟩
theorem alloc_3 (w : World) (o1 o2 o3 : Obj) : Below w.heap.size w (((w.alloc o1).alloc o2).alloc o3) ∧ (((w.alloc o1).alloc o2).alloc o3).heap[w.heap.size]? = some o1 ∧ (((w.alloc o1).alloc o2).alloc o3).heap[w.heap.size + 1]? = some o2 ∧ (((w.alloc o1).alloc o2).alloc o3).heap[w.heap.size + 1 + 1]? = some o3 := by
  obtain ⟨h1, h2, h3⟩ := alloc_2 w o1 o2
  refine ⟨h1.alloc h1.size _, (Below.heap_alloc _ o3 _ (lt_of_block h2)).trans h2, (Below.heap_alloc _ o3 _ (lt_of_block h3)).trans h3, ?_⟩
  have h := heap_alloc_new ((w.alloc o1).alloc o2) o3
  have e : ((w.alloc o1).alloc o2).heap.size = w.heap.size + 1 + 1 := by simp
  rwa [e] at h
theorem sat_ints1 {w : World} {g : Nat} {cs : Array Value} {l : List Int} {t : TypeId} (h : w.heap[g]? = some (.cells cs t (0, 0))) (hc : cs.toList = l.flatMap iC) : SAt 1 iC w (some ⟨g, 0, none⟩) l := sat_row h hc iC_length
theorem sat_bools1 {w : World} {g : Nat} {cs : Array Value} {l : List Bool} {t : TypeId} (h : w.heap[g]? = some (.cells cs t (0, 0))) (hc : cs.toList = l.flatMap bC) : SAt 1 bC w (some ⟨g, 0, none⟩) l := sat_row h hc bC_length
/-- Pick where all is in order -/
theorem pick_ok (p1 p2 p3 p4 p5 : Int) (sa : Option Addr) (cap : Nat) (l : List Int) (b : List Bool) (w : World) (hs : SAt 1 iC w sa l) (hp : pOK ⟨p1, p2, p3, p4, p5⟩) (ht : tOK l) (hb : pickL ⟨p1, p2, p3, p4, p5⟩ l = b) :
    Calls Try.prog 23 #[.agg #[.int .i64 p1, .int .i64 p2, .int .i64 p3, .int .i64 p4, .int .i64 p5], .slice sa l.length cap] w fun e w' => Below w.heap.size w w' ∧ ∃ g, e = .returned (.tuple #[.slice (some ⟨g, 0, none⟩) b.length b.length, .int .i64 0]) ∧ SAt 1 bC w' (some ⟨g, 0, none⟩) b := by
  refine (pick_any p1 p2 p3 p4 p5 sa cap l w hs (by have := ht.1; omega)).mono ?_
  rintro e w' ⟨h1, h2⟩
  refine ⟨h1, ?_⟩
  rcases h2 with ⟨h, _⟩ | ⟨_, g, he, hsat⟩
  · exact absurd ⟨hp, ht⟩ h
  · have hl : b.length = l.length := by rw [← hb]; exact pickL_length _ _
    exact ⟨g, by rw [hl]; exact he, by rw [← hb]; exact hsat⟩
set_option maxRecDepth 100000 in
set_option maxHeartbeats 1000000 in
theorem keepMore_any (p1 p2 p3 p4 p5 q1 q2 q3 q4 q5 : Int) (sa : Option Addr) (cap : Nat) (l : List Int) (w : World) (hs : SAt 1 iC w sa l) (hl : l.length ≤ 9223372036854775807) :
    Calls Try.prog 10 #[.agg #[.int .i64 p1, .int .i64 p2, .int .i64 p3, .int .i64 p4, .int .i64 p5], .agg #[.int .i64 q1, .int .i64 q2, .int .i64 q3, .int .i64 q4, .int .i64 q5], .slice sa l.length cap] w fun e w' => e = .returned (.bool true) ∧ Below w.heap.size w w' := by
  have HSA := Lib.hid hs
  have HPK := Lib.hid pick_any
  have HPO := Lib.hid pick_ok
  clear hs
  have ⟨b0, r1, r2, r3⟩ := alloc_3 w (.cells #[.int .i64 p1, .int .i64 p2, .int .i64 p3, .int .i64 p4, .int .i64 p5] 48) (.cells #[.int .i64 q1, .int .i64 q2, .int .i64 q3, .int .i64 q4, .int .i64 q5] 48) (.cells #[.int .i64 5] 3)
  have HB0 := Lib.hid b0
  have HR1 := Lib.hid r1
  have HR2 := Lib.hid r2
  have HR3 := Lib.hid r3
  clear b0 r1 r2 r3
  go_enter Try.func10, Try.ntmps10
  go_wp2_with fail
  generalize ((w.alloc (.cells #[.int .i64 p1, .int .i64 p2, .int .i64 p3, .int .i64 p4, .int .i64 p5] 48)).alloc (.cells #[.int .i64 q1, .int .i64 q2, .int .i64 q3, .int .i64 q4, .int .i64 q5] 48)).alloc (.cells #[.int .i64 5] 3) = wa at *
  refine (HPO.out 1 0 0 0 0 _ 1 [5] [true] wa (sat_ints1 HR3.out rfl) (by unfold pOK; decide) (by unfold tOK; decide) pick_g1).mono ?_
  rintro e w1 ⟨hb1, g1, rfl, hs1⟩
  have HB1 := Lib.hid (Below.step HB0.out hb1)
  have HP1 := Lib.hid ((hb1.block _ (lt_of_block HR1.out)).trans HR1.out)
  have HQ1 := Lib.hid ((hb1.block _ (lt_of_block HR2.out)).trans HR2.out)
  obtain ⟨g, off, e, _, hc⟩ := hs1.bool 0 (by decide)
  injection e with e
  injection e with e1 e2 _
  subst e1 e2
  have hc : w1.cell? ⟨g1, 0, none⟩ = some (.bool true) := hc
  have ⟨x1, x2, x3, x4, x5⟩ := pol_cells HP1.out
  have ⟨y1, y2, y3, y4, y5⟩ := pol_cells HQ1.out
  clear hb1 hs1 HB0 HR1 HR2 HR3
  generalize w.heap.size + 1 = Q at *
  obtain ⟨P, hP⟩ : ∃ P, P = w.heap.size := ⟨_, rfl⟩
  have ⟨b2, r2⟩ := alloc_1 w1 (.cells #[.int .i64 (max p1 q1), .int .i64 (max p2 q2), .int .i64 (max p3 q3), .int .i64 (max p4 q4), .int .i64 (max p5 q5)] 48)
  have HB2 := Lib.hid b2
  have HM2 := Lib.hid r2
  have ⟨z1, z2, z3, z4, z5⟩ := pol_cells ((b2.block _ (lt_of_block HP1.out)).trans HP1.out)
  clear b2 r2
  go_wp2_with fail
  clear x1 x2 x3 x4 x5 y1 y2 y3 y4 y5 z1 z2 z3 z4 z5 hc
  have HSA2 := Lib.hid ((HSA.out.below HB1.out).below HB2.out)
  have HB2' := Lib.hid (Below.step HB1.out HB2.out)
  clear HP1 HQ1 HB1 HB2
  generalize w1.alloc (.cells #[.int .i64 (max p1 q1), .int .i64 (max p2 q2), .int .i64 (max p3 q3), .int .i64 (max p4 q4), .int .i64 (max p5 q5)] 48) = w2 at *
  refine (HPK.out p1 p2 p3 p4 p5 sa cap l w2 HSA2.out hl).mono ?_
  rintro e w3 ⟨hb3, hres⟩
  have HB3 := Lib.hid (Below.step HB2'.out hb3)
  have HM3 := Lib.hid ((hb3.block _ (lt_of_block HM2.out)).trans HM2.out)
  have HSA3 := Lib.hid (HSA2.out.below hb3)
  have ⟨x1, x2, x3, x4, x5⟩ := pol_cells HM3.out
  clear hb3
  rcases hres with ⟨_, c, hc0, rfl⟩ | ⟨hok, g, rfl, hsat⟩
  · have fc : (c != 0) = true := by simpa using hc0
    clear hc0
    go_wp2_with fail
    refine (HPK.out _ _ _ _ _ sa cap l w3 HSA3.out hl).mono ?_
    rintro e w4 ⟨hb4, hres⟩
    have HB4 := Lib.hid (Below.step HB3.out hb4)
    clear hb4
    rcases hres with ⟨_, c', _, rfl⟩ | ⟨_, g, rfl, _⟩
    · go_wp2_with fail
      go_ret
      exact ⟨rfl, HB4.out⟩
    · go_wp2_with fail
      go_ret
      exact ⟨rfl, HB4.out⟩
  · have HOK := Lib.hid hok
    have HSP := Lib.hid hsat
    clear hok hsat
    go_wp2_with fail
    refine (HPK.out _ _ _ _ _ sa cap l w3 HSA3.out hl).mono ?_
    rintro e w4 ⟨hb4, hres⟩
    have HB4 := Lib.hid (Below.step HB3.out hb4)
    have HSP4 := Lib.hid (HSP.out.below hb4)
    clear hb4 HSP
    rcases hres with ⟨_, c', hc0, rfl⟩ | ⟨_, g', rfl, hsat⟩
    · have fc : (c' != 0) = true := by simpa using hc0
      clear hc0
      by_cases hz : l.length = 0
      · have f2 : ((l.length : Int) == 0) = true := by simp [hz]
        clear hz
        go_wp2_with fail
        go_ret
        exact ⟨rfl, HB4.out⟩
      · have f2 : ((l.length : Int) == 0) = false := by simp; intro h; exact hz (by simp [h])
        clear hz
        go_wp2_with fail
        go_ret
        exact ⟨rfl, HB4.out⟩
    · have HSQ := Lib.hid hsat
      have f2 : ((l.length : Int) != (l.length : Int)) = false := by simp
      clear hsat
      go_wp2_with fail
      go_loopw [99] (fun iv wr => ∃ i : Nat, i ≤ l.length ∧ iv = .int .i64 (i : Int) ∧ wr = w4) (fun iv _ => l.length - (intOf iv).toNat)
      case atStart => exact ⟨0, by omega, rfl, rfl⟩
      case round =>
        obtain ⟨i, hi, rfl, rfl⟩ := hrel
        by_cases hlt : i < l.length
        · have m1 : (i : Int) < (l.length : Int) := by omega
          obtain ⟨_, _, e, _, ha⟩ := HSP4.out.bool i (by rw [pickL_length]; exact hlt)
          injection e with e
          injection e with e1 e2 _
          subst e1 e2
          obtain ⟨_, _, e, _, hb⟩ := HSQ.out.bool i (by rw [pickL_length]; exact hlt)
          injection e with e
          injection e with e1 e2 _
          subst e1 e2
          rw [Nat.zero_add] at ha hb
          have HK : Hid ((pickL ⟨p1, p2, p3, p4, p5⟩ l)[i]'(by rw [pickL_length]; exact hlt) = true → (pickL ⟨max p1 q1, max p2 q2, max p3 q3, max p4 q4, max p5 q5⟩ l)[i]'(by rw [pickL_length]; exact hlt) = true) := by
            intro h
            have := keep_more (p := ⟨p1, p2, p3, p4, p5⟩) (q := ⟨max p1 q1, max p2 q2, max p3 q3, max p4 q4, max p5 q5⟩) l (Int.le_max_left _ _) (Int.le_max_left _ _) (Int.le_max_left _ _) (Int.le_max_left _ _) (Int.le_max_left _ _) i hlt (by rw [List.getD_eq_getElem?_getD, List.getElem?_eq_getElem (by rw [pickL_length]; exact hlt)]; exact h)
            rw [List.getD_eq_getElem?_getD, List.getElem?_eq_getElem (by rw [pickL_length]; exact hlt)] at this
            exact this
          generalize (pickL ⟨p1, p2, p3, p4, p5⟩ l)[i]'(by rw [pickL_length]; exact hlt) = x at *
          generalize (pickL ⟨max p1 q1, max p2 q2, max p3 q3, max p4 q4, max p5 q5⟩ l)[i]'(by rw [pickL_length]; exact hlt) = y at *
          cases x
          · go_wp2_with fail
            go_roundw
            case rel => exact ⟨i + 1, by omega, by go_num, trivial⟩
            case measure => simp [intOf]; omega
          · have hy := HK.out rfl
            subst hy
            go_wp2_with fail
            go_roundw
            case rel => exact ⟨i + 1, by omega, by go_num, trivial⟩
            case measure => simp [intOf]; omega
        · have m1 : ¬ (i : Int) < (l.length : Int) := by omega
          go_wp2_with fail
          go_ret
          exact ⟨rfl, HB4.out⟩
end Go.Proofs.Ythfjonicolhjnaa
