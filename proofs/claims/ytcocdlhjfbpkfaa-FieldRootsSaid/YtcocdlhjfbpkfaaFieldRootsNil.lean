/- The walk of the law FieldRoots where a slice is nil: it returns true. -/
import Derived.Test.YtcocdlhjfbpkfaaFieldRoots
namespace Go.Proofs.Ytcocdlhjfbpkfaa
open Go.RowKit Plain
set_option maxRecDepth 100000 in
set_option maxHeartbeats 1000000 in
theorem fieldRoots_nil_row (b2 off2 cap2 : Nat) (sp2 : Option Nat) (q : List Nat) (x : Nat) (w : World) (hq : q.length ≤ 140737488351232) (_hcq : q.length ≤ cap2)
    (hbq : ∀ i, i < q.length → w.cell? ⟨b2, off2 + i, sp2⟩ = some (.int .u8 ((q.getD i 0 : Nat) : Int))) (hql : ∀ c ∈ q, c < 256) (hx : x < 256) :
    Calls Try.prog 7 #[.slice none 0 0, .slice (some ⟨b2, off2, sp2⟩) q.length cap2, .int .u8 x] w fun e w' => e = .returned (.bool true) ∧ Below w.heap.size w w' := by
  have hmk := fun (wx : World) => run_make_bytes (P := Try.prog) wx 22 5 Try.underlying22 info_u8 0 (by omega) (by omega)
  have hmin : (min 0 (q.length : Int) : Int) = 0 := by omega
  have HQ := Lib.hid hbq
  obtain ⟨p, hp0⟩ : ∃ p : List Nat, p = [] := ⟨_, rfl⟩
  have HP0 := Lib.hid hp0
  have HPL : Hid (∀ c ∈ p, c < 256) := by rw [hp0]; exact fun c hc => nomatch hc
  clear hp0
  have HQL := Lib.hid hql
  clear hbq hql
  have q0 : (((fat [1, 1] 2 : Nat) : Int) != 3) = false := by decide +kernel
  go_enter Try.func7, Try.ntmps7
  go_wp2_with fail
  refine (at_any (some ⟨w.heap.size, 0, none⟩) 2 [1, 1] 2 _ (by decide) ?_ (by decide) (by decide) (by decide)).mono ?_
  · refine .inr ⟨w.heap.size, 0, none, rfl, ?_⟩
    intro i hi
    match i, hi with
    | 0, _ => simp
    | 1, _ => simp
  rintro e w1 ⟨rfl, m, hw1⟩
  have HB1 : Hid (Below w.heap.size w w1) := by
    rw [hw1]
    exact below_drewN ((Below.refl _ _).alloc (Nat.le_refl _) _) m
  clear hw1
  go_wp2
  clear hmk
  have HBel : Hid (Below w.heap.size w (w1.alloc (.cells #[] 5))) := HB1.out.alloc HB1.out.size _
  have HB := Lib.hid HB1.out.size
  generalize w1.heap.size = B at *
  generalize w1.alloc (.cells #[] 5) = w2 at *
  clear HB1
  refine wp_loop_rounds 1 ?_
  rw [rounds_succ]
  go_wp2
  have HC1 := Lib.hid (at_quiet0 (some ⟨B, 0, none⟩) 0 x w2 (.inr ⟨B, 0, none, rfl, fun i hi => absurd hi (by simp)⟩) hx)
  have HC2 := Lib.hid (at_quiet0 none 0 x w2 (.inl ⟨rfl, rfl⟩) hx)
  have HC3 := Lib.hid (at_quiet0 (some ⟨b2, off2, sp2⟩) cap2 x w2 (.inr ⟨b2, off2, sp2, rfl, fun i hi => absurd hi (by simp)⟩) hx)
  have hX : bits .xor .u8 0 0 = 0 := by decide
  go_wp2
  go_quiet ((go_at_call 19; first | with_reducible exact HC1.out _ | with_reducible exact HC2.out _ | with_reducible exact HC3.out _))
  clear hX HC1 HC2 HC3
  have HB3 : Hid (Below w.heap.size w (w2.drewN nq)) := below_drewN HBel.out nq
  generalize w2.drewN nq = w3 at *
  go_wp2
  refine wp_loop_rounds 1 ?_
  rw [rounds_succ]
  go_wp2
  have HLaw : Hid (rootsN p 256 = 256) := (roots_law p HPL.out).1 (by rw [HP0.out]; rfl)
  go_loopw [11, 69] (fun r i wr => ∃ n : Nat, n ≤ 256 ∧ Below w.heap.size w wr ∧ r = .int .i64 (rootsN p n) ∧ i = .int .i64 n) (fun _ i _ => 256 - (intOf i).toNat)
  case atStart => exact ⟨0, by omega, HB3.out, rfl, rfl⟩
  case round =>
    obtain ⟨n, hn, hbel, rfl, rfl⟩ := hrel
    have HBn := Lib.hid hbel
    clear hbel
    have hrn := rootsN_le p n
    by_cases hlt : n < 256
    · have hbs : BS wr none p := .inl ⟨rfl, HP0.out⟩
      have HBS := Lib.hid hbs
      have HRS := Lib.hid (rootsN_succ p n)
      have hfl := fat_lt p n HPL.out
      clear hbs
      have CA : Hid (Calls Try.prog 19 #[.slice none 0 0, .int .u8 n] wr fun e w' => e = .returned (.int .u8 (fat p n)) ∧ ∃ m, w' = wr.drewN m) := by
          have := at_any none 0 p n wr (by rw [HP0.out]; simp) HBS.out HPL.out (by omega) (by omega)
          rw [show p.length = 0 by rw [HP0.out]; rfl] at this
          exact this
      generalize fat p n = y at *
      by_cases hy : y = 0
      · have hyb : ((y : Int) == 0) = true := by simp [hy]
        have HY := Lib.hid hy
        clear hy
        go_wp2_with (go_at_call 19; with_reducible refine CA.out.mono ?_; rintro e w5 ⟨rfl, m5, hw5⟩; have HW5 := Lib.hid hw5; clear hw5)
        go_roundw
        case rel => exact ⟨n + 1, by omega, by rw [HW5.out]; exact below_drewN HBn.out _, by rw [HRS.out, if_pos HY.out]; go_num, by go_num⟩
        case measure => simp [intOf]; omega
      · have hyb : ((y : Int) == 0) = false := by simp; omega
        have HY := Lib.hid hy
        clear hy
        go_wp2_with (go_at_call 19; with_reducible refine CA.out.mono ?_; rintro e w5 ⟨rfl, m5, hw5⟩; have HW5 := Lib.hid hw5; clear hw5)
        go_roundw
        case rel => exact ⟨n + 1, by omega, by rw [HW5.out]; exact below_drewN HBn.out _, by rw [HRS.out, if_neg HY.out]; go_num, by go_num⟩
        case measure => simp [intOf]; omega
    · obtain rfl : n = 256 := by omega
      have hr := HLaw.out
      generalize rootsN p 256 = R at *
      subst hr
      go_wp2
      go_ret
      exact ⟨rfl, HBn.out⟩
set_option maxRecDepth 100000 in
set_option maxHeartbeats 1000000 in
theorem fieldRoots_row_nil (b off cap : Nat) (sp : Option Nat) (p : List Nat) (x : Nat) (w : World) (hp : p.length ≤ 140737488351232) (_hcp : p.length ≤ cap)
    (hbp : ∀ i, i < p.length → w.cell? ⟨b, off + i, sp⟩ = some (.int .u8 ((p.getD i 0 : Nat) : Int))) (hpl : ∀ c ∈ p, c < 256) (hx : x < 256) :
    Calls Try.prog 7 #[.slice (some ⟨b, off, sp⟩) p.length cap, .slice none 0 0, .int .u8 x] w fun e w' => e = .returned (.bool true) ∧ Below w.heap.size w w' := by
  have hmk := fun (wx : World) => run_make_bytes (P := Try.prog) wx 22 5 Try.underlying22 info_u8 0 (by omega) (by omega)
  have hmin : (min (p.length : Int) 0 : Int) = 0 := by omega
  have HP := Lib.hid hbp
  have HPL := Lib.hid hpl
  obtain ⟨q, hq0⟩ : ∃ q : List Nat, q = [] := ⟨_, rfl⟩
  have HQ0 := Lib.hid hq0
  have HQL : Hid (∀ c ∈ q, c < 256) := by rw [hq0]; exact fun c hc => nomatch hc
  clear hq0
  clear hbp hpl
  have q0 : (((fat [1, 1] 2 : Nat) : Int) != 3) = false := by decide +kernel
  go_enter Try.func7, Try.ntmps7
  go_wp2_with fail
  refine (at_any (some ⟨w.heap.size, 0, none⟩) 2 [1, 1] 2 _ (by decide) ?_ (by decide) (by decide) (by decide)).mono ?_
  · refine .inr ⟨w.heap.size, 0, none, rfl, ?_⟩
    intro i hi
    match i, hi with
    | 0, _ => simp
    | 1, _ => simp
  rintro e w1 ⟨rfl, m, hw1⟩
  have HB1 : Hid (Below w.heap.size w w1) := by
    rw [hw1]
    exact below_drewN ((Below.refl _ _).alloc (Nat.le_refl _) _) m
  clear hw1
  go_wp2
  clear hmk
  have HBel : Hid (Below w.heap.size w (w1.alloc (.cells #[] 5))) := HB1.out.alloc HB1.out.size _
  have HB := Lib.hid HB1.out.size
  generalize w1.heap.size = B at *
  generalize w1.alloc (.cells #[] 5) = w2 at *
  clear HB1
  refine wp_loop_rounds 1 ?_
  rw [rounds_succ]
  go_wp2
  have HC1 := Lib.hid (at_quiet0 (some ⟨B, 0, none⟩) 0 x w2 (.inr ⟨B, 0, none, rfl, fun i hi => absurd hi (by simp)⟩) hx)
  have HC2 := Lib.hid (at_quiet0 (some ⟨b, off, sp⟩) cap x w2 (.inr ⟨b, off, sp, rfl, fun i hi => absurd hi (by simp)⟩) hx)
  have HC3 := Lib.hid (at_quiet0 none 0 x w2 (.inl ⟨rfl, rfl⟩) hx)
  have hX : bits .xor .u8 0 0 = 0 := by decide
  go_wp2
  go_quiet ((go_at_call 19; first | with_reducible exact HC1.out _ | with_reducible exact HC2.out _ | with_reducible exact HC3.out _))
  clear hX HC1 HC2 HC3
  have HB3 : Hid (Below w.heap.size w (w2.drewN nq)) := below_drewN HBel.out nq
  generalize w2.drewN nq = w3 at *
  go_wp2
  go_loop [10, 60] (fun d i => ∃ k : Nat, k ≤ p.length ∧ d = .int .i64 ((degK p k : Int) - 1) ∧ i = .int .i64 k) (fun _ i => p.length - (intOf i).toNat)
  case atStart => exact ⟨0, Nat.zero_le _, rfl, rfl⟩
  case round =>
    obtain ⟨j, hj, rfl, rfl⟩ := hrel
    have hdk := degK_le p j
    by_cases hjl : j < p.length
    · obtain rfl : sp = none := World.cell?_spot (HP.out j hjl)
      have cp := (HB3.out.cell (World.block_lt_of_cell? w _ (HP.out j hjl))).trans (HP.out j hjl)
      have gp := getD_lt p HPL.out j
      have j0 : (0 : Int) ≤ (j : Int) := Int.natCast_nonneg _
      have jp : (j : Int) < (p.length : Int) := by omega
      have HD : Hid (degK p (j + 1) = if p.getD j 0 ≠ 0 then j + 1 else degK p j) := rfl
      generalize p.getD j 0 = c at *
      by_cases hc : c = 0
      · have hcb : ((c : Int) != 0) = false := by simp [hc]
        have HC := Lib.hid hc
        clear hc
        go_wp2
        go_round
        case rel => exact ⟨j + 1, by omega, by rw [HD.out, if_neg (by simp [HC.out])], by go_num⟩
        case measure => simp [intOf]; omega
      · have hcb : ((c : Int) != 0) = true := by simp; omega
        have HC := Lib.hid hc
        clear hc
        go_wp2
        go_round
        case rel => exact ⟨j + 1, by omega, by rw [HD.out, if_pos HC.out]; go_num, by go_num⟩
        case measure => simp [intOf]; omega
    · obtain rfl : j = p.length := by omega
      have HLaw := Lib.hid (roots_law p HPL.out)
      generalize hD : degK p p.length = D at *
      have HDD := Lib.hid hD
      clear hD
      go_wp2
      go_loopw [11, 69] (fun r i wr => ∃ n : Nat, n ≤ 256 ∧ Below w.heap.size w wr ∧ r = .int .i64 (rootsN p n) ∧ i = .int .i64 n) (fun _ i _ => 256 - (intOf i).toNat)
      case atStart => exact ⟨0, by omega, HB3.out, rfl, rfl⟩
      case round =>
        obtain ⟨n, hn, hbel, rfl, rfl⟩ := hrel
        have HBn := Lib.hid hbel
        clear hbel
        have hrn := rootsN_le p n
        by_cases hlt : n < 256
        · have hbs : BS wr (some ⟨b, off, sp⟩) p := BS.below (.inr ⟨b, off, sp, rfl, HP.out⟩) HBn.out
          have HBS := Lib.hid hbs
          have HRS := Lib.hid (rootsN_succ p n)
          have hfl := fat_lt p n HPL.out
          clear hbs
          have CA : Hid (Calls Try.prog 19 #[.slice (some ⟨b, off, sp⟩) p.length cap, .int .u8 n] wr fun e w' => e = .returned (.int .u8 (fat p n)) ∧ ∃ m, w' = wr.drewN m) := at_any (some ⟨b, off, sp⟩) cap p n wr (by omega) HBS.out HPL.out (by omega) (by omega)
          generalize fat p n = y at *
          by_cases hy : y = 0
          · have hyb : ((y : Int) == 0) = true := by simp [hy]
            have HY := Lib.hid hy
            clear hy
            go_wp2_with (go_at_call 19; with_reducible refine CA.out.mono ?_; rintro e w5 ⟨rfl, m5, hw5⟩; have HW5 := Lib.hid hw5; clear hw5)
            go_roundw
            case rel => exact ⟨n + 1, by omega, by rw [HW5.out]; exact below_drewN HBn.out _, by rw [HRS.out, if_pos HY.out]; go_num, by go_num⟩
            case measure => simp [intOf]; omega
          · have hyb : ((y : Int) == 0) = false := by simp; omega
            have HY := Lib.hid hy
            clear hy
            go_wp2_with (go_at_call 19; with_reducible refine CA.out.mono ?_; rintro e w5 ⟨rfl, m5, hw5⟩; have HW5 := Lib.hid hw5; clear hw5)
            go_roundw
            case rel => exact ⟨n + 1, by omega, by rw [HW5.out]; exact below_drewN HBn.out _, by rw [HRS.out, if_neg HY.out]; go_num, by go_num⟩
            case measure => simp [intOf]; omega
        · obtain rfl : n = 256 := by omega
          generalize hR : rootsN p 256 = R at *
          by_cases hD0 : D = 0
          · have hr : R = 256 := HLaw.out.1 hD0
            subst hr
            have h1 : ((D : Int) - 1) < 0 := by omega
            clear hR hD0
            go_wp2
            go_ret
            exact ⟨rfl, HBn.out⟩
          · obtain ⟨d, rfl⟩ : ∃ d, D = d + 1 := ⟨D - 1, by omega⟩
            have hr : R ≤ d := HLaw.out.2 d rfl
            have h1 : ((d + 1 : Nat) : Int) - 1 = (d : Int) := by omega
            rw [h1]
            clear hR hD0 h1
            go_wp2
            go_ret
            exact ⟨rfl, HBn.out⟩
set_option maxRecDepth 100000 in
set_option maxHeartbeats 1000000 in
theorem fieldRoots_nil_nil  (x : Nat) (w : World)
    (hx : x < 256) :
    Calls Try.prog 7 #[.slice none 0 0, .slice none 0 0, .int .u8 x] w fun e w' => e = .returned (.bool true) ∧ Below w.heap.size w w' := by
  have hmk := fun (wx : World) => run_make_bytes (P := Try.prog) wx 22 5 Try.underlying22 info_u8 0 (by omega) (by omega)
  obtain ⟨p, hp0⟩ : ∃ p : List Nat, p = [] := ⟨_, rfl⟩
  have HP0 := Lib.hid hp0
  have HPL : Hid (∀ c ∈ p, c < 256) := by rw [hp0]; exact fun c hc => nomatch hc
  clear hp0
  obtain ⟨q, hq0⟩ : ∃ q : List Nat, q = [] := ⟨_, rfl⟩
  have HQ0 := Lib.hid hq0
  have HQL : Hid (∀ c ∈ q, c < 256) := by rw [hq0]; exact fun c hc => nomatch hc
  clear hq0
  have q0 : (((fat [1, 1] 2 : Nat) : Int) != 3) = false := by decide +kernel
  go_enter Try.func7, Try.ntmps7
  go_wp2_with fail
  refine (at_any (some ⟨w.heap.size, 0, none⟩) 2 [1, 1] 2 _ (by decide) ?_ (by decide) (by decide) (by decide)).mono ?_
  · refine .inr ⟨w.heap.size, 0, none, rfl, ?_⟩
    intro i hi
    match i, hi with
    | 0, _ => simp
    | 1, _ => simp
  rintro e w1 ⟨rfl, m, hw1⟩
  have HB1 : Hid (Below w.heap.size w w1) := by
    rw [hw1]
    exact below_drewN ((Below.refl _ _).alloc (Nat.le_refl _) _) m
  clear hw1
  go_wp2
  clear hmk
  have HBel : Hid (Below w.heap.size w (w1.alloc (.cells #[] 5))) := HB1.out.alloc HB1.out.size _
  have HB := Lib.hid HB1.out.size
  generalize w1.heap.size = B at *
  generalize w1.alloc (.cells #[] 5) = w2 at *
  clear HB1
  refine wp_loop_rounds 1 ?_
  rw [rounds_succ]
  go_wp2
  have HC1 := Lib.hid (at_quiet0 (some ⟨B, 0, none⟩) 0 x w2 (.inr ⟨B, 0, none, rfl, fun i hi => absurd hi (by simp)⟩) hx)
  have HC2 := Lib.hid (at_quiet0 none 0 x w2 (.inl ⟨rfl, rfl⟩) hx)
  have HC3 := Lib.hid (at_quiet0 none 0 x w2 (.inl ⟨rfl, rfl⟩) hx)
  have hX : bits .xor .u8 0 0 = 0 := by decide
  go_wp2
  go_quiet ((go_at_call 19; first | with_reducible exact HC1.out _ | with_reducible exact HC2.out _ | with_reducible exact HC3.out _))
  clear hX HC1 HC2 HC3
  have HB3 : Hid (Below w.heap.size w (w2.drewN nq)) := below_drewN HBel.out nq
  generalize w2.drewN nq = w3 at *
  go_wp2
  refine wp_loop_rounds 1 ?_
  rw [rounds_succ]
  go_wp2
  have HLaw : Hid (rootsN p 256 = 256) := (roots_law p HPL.out).1 (by rw [HP0.out]; rfl)
  go_loopw [11, 69] (fun r i wr => ∃ n : Nat, n ≤ 256 ∧ Below w.heap.size w wr ∧ r = .int .i64 (rootsN p n) ∧ i = .int .i64 n) (fun _ i _ => 256 - (intOf i).toNat)
  case atStart => exact ⟨0, by omega, HB3.out, rfl, rfl⟩
  case round =>
    obtain ⟨n, hn, hbel, rfl, rfl⟩ := hrel
    have HBn := Lib.hid hbel
    clear hbel
    have hrn := rootsN_le p n
    by_cases hlt : n < 256
    · have hbs : BS wr none p := .inl ⟨rfl, HP0.out⟩
      have HBS := Lib.hid hbs
      have HRS := Lib.hid (rootsN_succ p n)
      have hfl := fat_lt p n HPL.out
      clear hbs
      have CA : Hid (Calls Try.prog 19 #[.slice none 0 0, .int .u8 n] wr fun e w' => e = .returned (.int .u8 (fat p n)) ∧ ∃ m, w' = wr.drewN m) := by
          have := at_any none 0 p n wr (by rw [HP0.out]; simp) HBS.out HPL.out (by omega) (by omega)
          rw [show p.length = 0 by rw [HP0.out]; rfl] at this
          exact this
      generalize fat p n = y at *
      by_cases hy : y = 0
      · have hyb : ((y : Int) == 0) = true := by simp [hy]
        have HY := Lib.hid hy
        clear hy
        go_wp2_with (go_at_call 19; with_reducible refine CA.out.mono ?_; rintro e w5 ⟨rfl, m5, hw5⟩; have HW5 := Lib.hid hw5; clear hw5)
        go_roundw
        case rel => exact ⟨n + 1, by omega, by rw [HW5.out]; exact below_drewN HBn.out _, by rw [HRS.out, if_pos HY.out]; go_num, by go_num⟩
        case measure => simp [intOf]; omega
      · have hyb : ((y : Int) == 0) = false := by simp; omega
        have HY := Lib.hid hy
        clear hy
        go_wp2_with (go_at_call 19; with_reducible refine CA.out.mono ?_; rintro e w5 ⟨rfl, m5, hw5⟩; have HW5 := Lib.hid hw5; clear hw5)
        go_roundw
        case rel => exact ⟨n + 1, by omega, by rw [HW5.out]; exact below_drewN HBn.out _, by rw [HRS.out, if_neg HY.out]; go_num, by go_num⟩
        case measure => simp [intOf]; omega
    · obtain rfl : n = 256 := by omega
      have hr := HLaw.out
      generalize rootsN p 256 = R at *
      subst hr
      go_wp2
      go_ret
      exact ⟨rfl, HBn.out⟩
end Go.Proofs.Ytcocdlhjfbpkfaa
