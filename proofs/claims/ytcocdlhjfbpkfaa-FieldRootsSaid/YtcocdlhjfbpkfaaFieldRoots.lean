/- The walk of the law FieldRoots: it returns true. -/
import Derived.Test.YtcocdlhjfbpkfaaFieldAt
import Derived.BigRegion
import Derived.RegionTactic
namespace Go.Proofs.Ytcocdlhjfbpkfaa
open Go.RowKit Plain
theorem info_u8 : (Try.prog.info? 5).map (fun i => (i.zero, i.size, i.bytes)) = some (some (.int .u8 0), 1, 1) := by kernel_rfl
theorem zip_getD (a b : List Nat) (k : Nat) (ha : k < a.length) (hb : k < b.length) : (List.zipWith (· ^^^ ·) a b).getD k 0 = a.getD k 0 ^^^ b.getD k 0 := by
  simp [List.getD_eq_getElem?_getD, List.getElem?_zipWith, List.getElem?_eq_getElem ha, List.getElem?_eq_getElem hb]
theorem list_ext_getD {a b : List Nat} (h : a.length = b.length) (h2 : ∀ i, i < a.length → a.getD i 0 = b.getD i 0) : a = b := by
  apply List.ext_getElem h
  intro i h1 h3
  have := h2 i h1
  simpa [List.getD_eq_getElem?_getD, List.getElem?_eq_getElem h1, List.getElem?_eq_getElem h3] using this
theorem set_getD (l : List Nat) (k v i : Nat) (hk : k < l.length) : (l.set k v).getD i 0 = if i = k then v else l.getD i 0 := by
  simp only [List.getD_eq_getElem?_getD, List.getElem?_set]
  by_cases h : i = k
  · subst h; simp [hk]
  · simp [h, Ne.symm h]
theorem xor_take {l p q : List Nat} {k : Nat} (hl : l.length = k) (hp : k ≤ p.length) (hq : k ≤ q.length) (hj : ∀ j, j < k → l.getD j 0 = p.getD j 0 ^^^ q.getD j 0) : l = List.zipWith (· ^^^ ·) (p.take k) (q.take k) := by
  apply list_ext_getD
  · rw [hl, List.length_zipWith, List.length_take, List.length_take]; omega
  · intro i hi
    rw [hl] at hi
    rw [zip_getD _ _ _ (by rw [List.length_take]; omega) (by rw [List.length_take]; omega), hj i hi]
    simp [List.getD_eq_getElem?_getD, hi]
theorem xor_bytes {l p q : List Nat} {k : Nat} (hl : l.length = k) (hp : ∀ c ∈ p, c < 256) (hq : ∀ c ∈ q, c < 256) (hj : ∀ j, j < k → l.getD j 0 = p.getD j 0 ^^^ q.getD j 0) : ∀ c ∈ l, c < 256 := by
  intro c hc
  obtain ⟨i, hi, rfl⟩ := List.mem_iff_getElem.1 hc
  have h1 := hj i (by omega)
  rw [List.getD_eq_getElem?_getD, List.getElem?_eq_getElem hi] at h1
  simp only [Option.getD_some] at h1
  rw [h1]
  exact Nat.xor_lt_two_pow (n := 8) (getD_lt p hp i) (getD_lt q hq i)
set_option maxRecDepth 100000 in
set_option maxHeartbeats 1000000 in
theorem fieldRoots_try (b off cap : Nat) (sp : Option Nat) (b2 off2 cap2 : Nat) (sp2 : Option Nat) (p q : List Nat) (x : Nat) (w : World) (hp : p.length ≤ 140737488351232) (hq : q.length ≤ 140737488351232) (hcp : p.length ≤ cap) (hcq : q.length ≤ cap2)
    (hbp : ∀ i, i < p.length → w.cell? ⟨b, off + i, sp⟩ = some (.int .u8 ((p.getD i 0 : Nat) : Int))) (hbq : ∀ i, i < q.length → w.cell? ⟨b2, off2 + i, sp2⟩ = some (.int .u8 ((q.getD i 0 : Nat) : Int))) (hpl : ∀ c ∈ p, c < 256) (hql : ∀ c ∈ q, c < 256) (hx : x < 256) :
    Calls Try.prog 7 #[.slice (some ⟨b, off, sp⟩) p.length cap, .slice (some ⟨b2, off2, sp2⟩) q.length cap2, .int .u8 x] w fun e w' => e = .returned (.bool true) ∧ Below w.heap.size w w' := by
  have hmk := fun (wx : World) => run_make_bytes (P := Try.prog) wx 22 5 Try.underlying22 info_u8 (min (p.length : Int) (q.length : Int)) (by omega) (by omega)
  have hn : (min (p.length : Int) (q.length : Int)).toNat = min p.length q.length := by omega
  rw [hn] at hmk
  have HP := Lib.hid hbp
  have HQ := Lib.hid hbq
  have HPL := Lib.hid hpl
  have HQL := Lib.hid hql
  clear hbp hbq hpl hql
  have q0 : (((fat [1, 1] 2 : Nat) : Int) != 3) = false := by decide +kernel
  go_enter Try.func7, Try.ntmps7
  go_wp2_with fail
  refine (at_any (some ⟨w.heap.size, 0, none⟩) 2 [1, 1] 2 _ (by decide) ?_ (by decide) (by decide) (by decide)).mono ?_
  · refine .inr ⟨w.heap.size, 0, none, rfl, ?_⟩
    intro i hi
    match i, hi with
    | 0, _ => simp
    | 1, _ => simp
  rintro e w1 ⟨rfl, m, hw1⟩
  have HB1 : Hid (Below w.heap.size w w1) := by
    rw [hw1]
    exact below_drewN ((Below.refl _ _).alloc (Nat.le_refl _) _) m
  clear hw1
  go_wp2
  clear hmk
  have HB0 := Lib.hid (BRow.zeros w1 5 (min p.length q.length))
  have HBel : Hid (Below w.heap.size w (w1.alloc (.cells (Array.replicate (min p.length q.length) (bV 0)) 5))) := HB1.out.alloc HB1.out.size _
  have HB := Lib.hid HB1.out.size
  generalize w1.heap.size = B at *
  generalize w1.alloc (.cells (Array.replicate (min p.length q.length) (bV 0)) 5) = w2 at *
  clear HB1
  have hn1 : min p.length q.length ≤ p.length := Nat.min_le_left _ _
  have hn2 : min p.length q.length ≤ q.length := Nat.min_le_right _ _
  generalize hN : min p.length q.length = N at *
  have HN := Lib.hid hN
  clear hN
  go_loopw [27] (fun i wr => ∃ (k : Nat) (l : List Nat), k ≤ N ∧ l.length = N ∧ (∀ j, j < k → l.getD j 0 = p.getD j 0 ^^^ q.getD j 0) ∧ BRow wr 5 B l ∧ Below w.heap.size w wr ∧ i = .int .i64 k) (fun i _ => N - (intOf i).toNat)
  case atStart => exact ⟨0, _, Nat.zero_le _, List.length_replicate, fun j hj => absurd hj (by omega), HB0.out, HBel.out, rfl⟩
  case round =>
    obtain ⟨k, l, hk, hl, hj, hrow, hbel, rfl⟩ := hrel
    have HL := Lib.hid hl
    have HJ := Lib.hid hj
    have HR := Lib.hid hrow
    have HW := Lib.hid hbel
    clear hl hj hrow hbel
    by_cases hlt : k < N
    · obtain rfl : sp = none := World.cell?_spot (HP.out k (by omega))
      obtain rfl : sp2 = none := World.cell?_spot (HQ.out k (by omega))
      have hcell := HR.out.cell (k := k) (by rw [HL.out]; exact hlt)
      have hfr := HR.out.frozen k
      have cp := (HW.out.cell (World.block_lt_of_cell? w _ (HP.out k (by omega)))).trans (HP.out k (by omega))
      have cq := (HW.out.cell (World.block_lt_of_cell? w _ (HQ.out k (by omega)))).trans (HQ.out k (by omega))
      have gp := getD_lt p HPL.out k
      have gq := getD_lt q HQL.out k
      have HX := Lib.hid (u8_xor_nat (p.getD k 0) (q.getD k 0) gp gq)
      have k0 : (0 : Int) ≤ (k : Int) := Int.natCast_nonneg _
      have kp : (k : Int) < (p.length : Int) := by omega
      have kq : (k : Int) < (q.length : Int) := by omega
      have kn : (k : Int) < (N : Int) := by omega
      go_wp2
      go_region
      go_wp2
      have hX := HX.out
      simp only [List.getD_eq_getElem?_getD] at hX
      rw [hX]
      go_roundw
      case rel =>
        refine ⟨k + 1, l.set k (p[k]?.getD 0 ^^^ q[k]?.getD 0), by omega, by rw [List.length_set]; exact HL.out, ?_, (HR.out.set k _).drew, (HW.out.setCell HB.out _).drew, by go_num⟩
        intro j hj
        rw [set_getD _ _ _ _ (by rw [HL.out]; exact hlt)]
        by_cases e : j = k
        · rw [if_pos e, e, List.getD_eq_getElem?_getD, List.getD_eq_getElem?_getD]
        · rw [if_neg e]; exact HJ.out j (by omega)
      case measure => simp [intOf]; omega
    · obtain rfl : k = N := by omega
      have hlx := xor_take HL.out hn1 hn2 HJ.out
      have hlb := xor_bytes HL.out HPL.out HQL.out HJ.out
      have HC1 := Lib.hid (at_quiet (some ⟨B, 0, none⟩) k l k x wr HL.out (by omega) HR.out.bs hlb hx)
      have HC2 := Lib.hid (at_quiet (some ⟨b, off, sp⟩) cap (p.take k) k x wr (by rw [List.length_take]; omega) (by omega) (BS.below (BS.take HP.out k) HW.out) (fun c hc => HPL.out c (List.mem_of_mem_take hc)) hx)
      have HC3 := Lib.hid (at_quiet (some ⟨b2, off2, sp2⟩) cap2 (q.take k) k x wr (by rw [List.length_take]; omega) (by omega) (BS.below (BS.take HQ.out k) HW.out) (fun c hc => HQL.out c (List.mem_of_mem_take hc)) hx)
      have hsum := fat_xor (p.take k) (q.take k) x (by rw [List.length_take, List.length_take]; omega)
      rw [← hlx] at hsum
      have f2 := fat_lt (p.take k) x (fun c hc => HPL.out c (List.mem_of_mem_take hc))
      have f3 := fat_lt (q.take k) x (fun c hc => HQL.out c (List.mem_of_mem_take hc))
      have hX := u8_xor_nat _ _ f2 f3
      have hq1 := natNe hsum
      have hmin : min (p.length : Int) (q.length : Int) = (k : Int) := by have := HN.out; omega
      have kp : (k : Int) ≤ (cap : Int) := by omega
      have kq : (k : Int) ≤ (cap2 : Int) := by omega
      have k0 : (0 : Int) ≤ (k : Int) := Int.natCast_nonneg _
      clear hlx hlb hsum
      generalize fat l x = y1 at *
      generalize fat (p.take k) x = y2 at *
      generalize fat (q.take k) x = y3 at *
      go_wp2
      go_quiet ((go_at_call 19; first | with_reducible exact HC1.out _ | with_reducible exact HC2.out _ | with_reducible exact HC3.out _))
      clear hq1 hX f2 f3 kp kq hmin k0 HC1 HC2 HC3
      have HB3 : Hid (Below w.heap.size w (wr.drewN nq)) := below_drewN HW.out nq
      generalize wr.drewN nq = w3 at *
      go_wp2
      go_loop [10, 60] (fun d i => ∃ k : Nat, k ≤ p.length ∧ d = .int .i64 ((degK p k : Int) - 1) ∧ i = .int .i64 k) (fun _ i => p.length - (intOf i).toNat)
      case atStart => exact ⟨0, Nat.zero_le _, rfl, rfl⟩
      case round =>
        obtain ⟨j, hj, rfl, rfl⟩ := hrel
        have hdk := degK_le p j
        by_cases hjl : j < p.length
        · obtain rfl : sp = none := World.cell?_spot (HP.out j hjl)
          have cp := (HB3.out.cell (World.block_lt_of_cell? w _ (HP.out j hjl))).trans (HP.out j hjl)
          have gp := getD_lt p HPL.out j
          have j0 : (0 : Int) ≤ (j : Int) := Int.natCast_nonneg _
          have jp : (j : Int) < (p.length : Int) := by omega
          have HD : Hid (degK p (j + 1) = if p.getD j 0 ≠ 0 then j + 1 else degK p j) := rfl
          generalize p.getD j 0 = c at *
          by_cases hc : c = 0
          · have hcb : ((c : Int) != 0) = false := by simp [hc]
            have HC := Lib.hid hc
            clear hc
            go_wp2
            go_round
            case rel => exact ⟨j + 1, by omega, by rw [HD.out, if_neg (by simp [HC.out])], by go_num⟩
            case measure => simp [intOf]; omega
          · have hcb : ((c : Int) != 0) = true := by simp; omega
            have HC := Lib.hid hc
            clear hc
            go_wp2
            go_round
            case rel => exact ⟨j + 1, by omega, by rw [HD.out, if_pos HC.out]; go_num, by go_num⟩
            case measure => simp [intOf]; omega
        · obtain rfl : j = p.length := by omega
          have HLaw := Lib.hid (roots_law p HPL.out)
          generalize hD : degK p p.length = D at *
          have HDD := Lib.hid hD
          clear hD
          go_wp2
          go_loopw [11, 69] (fun r i wr => ∃ n : Nat, n ≤ 256 ∧ Below w.heap.size w wr ∧ r = .int .i64 (rootsN p n) ∧ i = .int .i64 n) (fun _ i _ => 256 - (intOf i).toNat)
          case atStart => exact ⟨0, by omega, HB3.out, rfl, rfl⟩
          case round =>
            obtain ⟨n, hn, hbel, rfl, rfl⟩ := hrel
            have HBn := Lib.hid hbel
            clear hbel
            have hrn := rootsN_le p n
            by_cases hlt : n < 256
            · have hbs : BS wr (some ⟨b, off, sp⟩) p := BS.below (.inr ⟨b, off, sp, rfl, HP.out⟩) HBn.out
              have HBS := Lib.hid hbs
              have HRS := Lib.hid (rootsN_succ p n)
              have hfl := fat_lt p n HPL.out
              clear hbs
              have CA : Hid (Calls Try.prog 19 #[.slice (some ⟨b, off, sp⟩) p.length cap, .int .u8 n] wr fun e w' => e = .returned (.int .u8 (fat p n)) ∧ ∃ m, w' = wr.drewN m) := at_any (some ⟨b, off, sp⟩) cap p n wr (by omega) HBS.out HPL.out (by omega) (by omega)
              generalize fat p n = y at *
              by_cases hy : y = 0
              · have hyb : ((y : Int) == 0) = true := by simp [hy]
                have HY := Lib.hid hy
                clear hy
                go_wp2_with (go_at_call 19; with_reducible refine CA.out.mono ?_; rintro e w5 ⟨rfl, m5, hw5⟩; have HW5 := Lib.hid hw5; clear hw5)
                go_roundw
                case rel => exact ⟨n + 1, by omega, by rw [HW5.out]; exact below_drewN HBn.out _, by rw [HRS.out, if_pos HY.out]; go_num, by go_num⟩
                case measure => simp [intOf]; omega
              · have hyb : ((y : Int) == 0) = false := by simp; omega
                have HY := Lib.hid hy
                clear hy
                go_wp2_with (go_at_call 19; with_reducible refine CA.out.mono ?_; rintro e w5 ⟨rfl, m5, hw5⟩; have HW5 := Lib.hid hw5; clear hw5)
                go_roundw
                case rel => exact ⟨n + 1, by omega, by rw [HW5.out]; exact below_drewN HBn.out _, by rw [HRS.out, if_neg HY.out]; go_num, by go_num⟩
                case measure => simp [intOf]; omega
            · obtain rfl : n = 256 := by omega
              generalize hR : rootsN p 256 = R at *
              by_cases hD0 : D = 0
              · have hr : R = 256 := HLaw.out.1 hD0
                subst hr
                have h1 : ((D : Int) - 1) < 0 := by omega
                clear hR hD0
                go_wp2
                go_ret
                exact ⟨rfl, HBn.out⟩
              · obtain ⟨d, rfl⟩ : ∃ d, D = d + 1 := ⟨D - 1, by omega⟩
                have hr : R ≤ d := HLaw.out.2 d rfl
                have h1 : ((d + 1 : Nat) : Int) - 1 = (d : Int) := by omega
                rw [h1]
                clear hR hD0 h1
                go_wp2
                go_ret
                exact ⟨rfl, HBn.out⟩
end Go.Proofs.Ytcocdlhjfbpkfaa
