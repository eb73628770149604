/- The walk of slices.CompactFunc over places. -/
import Derived.Test.YtinjnclpiiohcaaPlCmp
import Derived.Test.YtinjnclpiiohcaaPlEq
import Derived.Test.YtinjnclpiiohcaaDrawn
import Derived.Test.YtinjnclpiiohcaaOwnSet
import Derived.Test.YtinjnclpiiohcaaOwnForm
namespace Go.Proofs.Ytinjnclpiiohcaa
open Go.RowKit Plain
set_option linter.unusedVariables false
set_option linter.unusedSimpArgs false
namespace Plain
theorem cpt_small {α : Type} (ic : α → α → Int) : ∀ l : List α, l.length < 2 → cpt ic l = l
  | [], _ => rfl
  | [x], _ => rfl
  | x :: y :: t, h => by simp only [List.length_cons] at h; omega
theorem cpt_ne {α : Type} (ic : α → α → Int) (m : List α) (a : α) : ∃ z r, m ++ [a] = z :: r := by
  cases m with
  | nil => exact ⟨a, [], rfl⟩
  | cons x m => exact ⟨x, m ++ [a], rfl⟩
theorem cpt_two {α : Type} (ic : α → α → Int) (a b : α) : ∀ m : List α, cpt ic (m ++ [a, b]) = if ic b a = 0 then cpt ic (m ++ [a]) else cpt ic (m ++ [a]) ++ [b]
  | [] => by
    show cpt ic [a, b] = if ic b a = 0 then cpt ic [a] else cpt ic [a] ++ [b]
    by_cases h : ic b a = 0
    · simp only [cpt, if_pos h]; rfl
    · simp only [cpt, if_neg h]; rfl
  | x :: m => by
    have ih := cpt_two ic a b m
    obtain ⟨z, r, hz⟩ := cpt_ne ic m a
    have hz2 : m ++ [a, b] = z :: (r ++ [b]) := by
      have : m ++ [a, b] = (m ++ [a]) ++ [b] := by simp
      rw [this, hz]; rfl
    rw [List.cons_append, List.cons_append, hz2, hz]
    rw [hz2, hz] at ih
    obtain ⟨s, hs⟩ := cpt_head ic z r
    rw [cpt, cpt, ih]
    by_cases h : ic b a = 0
    · simp only [if_pos h]
    · simp only [if_neg h]
      by_cases e : ic z x = 0
      · simp only [if_pos e, hs]; rfl
      · simp only [if_neg e]; rfl
theorem cpt_take {α : Type} (ic : α → α → Int) (l : List α) (i : Nat) (hi : i + 1 < l.length) : cpt ic (l.take (i + 2)) = if ic l[i + 1] (l[i]'(by omega)) = 0 then cpt ic (l.take (i + 1)) else cpt ic (l.take (i + 1)) ++ [l[i + 1]] := by
  have e1 : l.take (i + 1) = l.take i ++ [l[i]'(by omega)] := List.take_succ_eq_append_getElem (by omega)
  have e2 : l.take (i + 2) = l.take i ++ [l[i]'(by omega), l[i + 1]] := by
    rw [show i + 2 = i + 1 + 1 from rfl, List.take_succ_eq_append_getElem hi, e1, List.append_assoc]
    rfl
  rw [e2, e1]
  exact cpt_two ic _ _ _
end Plain
theorem range_below {w w' : World} {g o : Nat} {cs : List Value} (h : w.rangeAt g o cs) (hg : g < w.heap.size) (hb : Below w.heap.size w w') : w'.rangeAt g o cs := fun j u hu => (hb.cell (p := ⟨g, o + j, none⟩) hg).trans (h j u hu)
theorem Below.stepB {B : Nat} {w w1 w2 : World} (h : Below B w w1) (hB : B ≤ w1.heap.size) (hb : Below w1.heap.size w1 w2) : Below B w w2 := ⟨hb.os.trans h.os, hb.tape.trans h.tape, hb.output.trans h.output, Nat.le_trans h.size hb.size, fun k hk => (hb.block k (Nat.lt_of_lt_of_le hk hB)).trans (h.block k hk)⟩
theorem plC_oneC (p : Pl) : ∀ u ∈ plC p, u.oneCell' = true := by
  intro u hu
  simp only [plC, idL, List.map_cons, List.map_nil, List.cons_append, List.nil_append, List.mem_cons, List.not_mem_nil, or_false, bV] at hu
  rcases hu with rfl | rfl | rfl | rfl | rfl | rfl | rfl | rfl | rfl | rfl | rfl | rfl <;> rfl
theorem own_there {α : Type} {k : Nat} {c : α → List Value} {w : World} {base g cap : Nat} {T : TypeId} {l : List α} (h : w.ownsRow base T k (.slice (some ⟨g, 0, none⟩) l.length cap) l.length (l.flatMap c)) (i : Nat) (hi : i < l.length) {n : Nat} (hn : n ≤ k) : w.there g (i * k) n := by
  obtain ⟨_, _, hnc, _, cur, hg, hs, _⟩ := own_block h
  have hle : (i + 1) * k ≤ cap * k := Nat.mul_le_mul_right _ (by omega)
  rw [Nat.succ_mul] at hle
  intro j hj
  refine ⟨?_, frozen_of_row _ _ _ _ _ hg⟩
  rw [cell_of_row _ _ _ _ _ _ hg, Array.getElem?_eq_getElem (by omega)]
  rfl
set_option maxRecDepth 100000 in
theorem zero_pl (w : World) : (zeroValue 69).run Try.prog w = .ok (.agg (plC ((0, 0, 0, 0, 0, 0, 0, 0), 0, 0, 0, 0)).toArray) w := by
  kernel_rfl
set_option maxRecDepth 100000 in
theorem clear_places {w : World} {base g cap : Nat} {d : List Pl} (h : w.ownsRow base 69 12 (.slice (some ⟨g, 0, none⟩) d.length cap) d.length (d.flatMap plC)) (kk : Nat) (hk : kk < d.length) (c : Nat) :
    ∃ Z : List Value, kk * 12 + Z.length = d.length * 12 ∧ ∀ ty, (Builtin.clear_ #[63] ty #[.slice (some ⟨g, kk * 12, none⟩) (d.length - kk) c]).run Try.prog w = .ok (.tuple #[]) (w.setCells g (kk * 12) Z) := by
  obtain ⟨_, _, hnc, _, cur, hg, hs, _⟩ := own_block h
  have hz : (Value.agg (plC ((0, 0, 0, 0, 0, 0, 0, 0), 0, 0, 0, 0)).toArray).cells.size = 12 := rfl
  have hin : ∀ j, j < (d.length - kk) * 12 → kk * 12 + j < cur.size := fun j hj => by omega
  have key := fun ty => run_clear_any (P := Try.prog) w 63 69 ty (.agg (plC ((0, 0, 0, 0, 0, 0, 0, 0), 0, 0, 0, 0)).toArray) Try.underlying63 (zero_pl w) (fun v hv => plC_oneC _ v (by simpa [Value.cells] using hv)) g (kk * 12) (d.length - kk) c (by omega)
    (fun j hj => by rw [hz] at hj; rw [cell_of_row _ _ _ _ _ _ hg, Array.getElem?_eq_getElem (hin j hj)]; rfl) (fun j _ => frozen_of_row _ _ _ _ _ hg)
  refine ⟨_, ?_, fun ty => (key ty).1⟩
  rw [(key 0).2, hz]
  omega
set_option maxRecDepth 100000 in
theorem eqIdP (a b : ID8) (r : Bool) (hb : idE a b = r) : (∀ wx, (binOp .eql 67 (idV a) (idV b)).run Try.prog wx = .ok (.bool r) wx) ∧
    (∀ (o : BinOp) (x y : Operand) (wx : World), (eqGuard o 67 x y (idV a) (idV b)).run Try.prog wx = .ok () wx) := by
  subst hb
  refine ⟨fun wx => ?_, fun o x y wx => run_eqGuard_agg wx o _ x y _ _ (by kernel_rfl)⟩
  have h := run_eql_struct (P := Try.prog) wx 67 (bA (idL a)) (bA (idL b))
  rw [eqIn_id 9998] at h
  exact h
set_option maxRecDepth 100000 in
theorem sameP_any (x y : Pl) (w : World) : Calls Try.prog 75 #[.agg (plC x).toArray, .agg (plC y).toArray] w fun e w' => e = .returned (.bool (idE x.1 y.1)) ∧ Below w.heap.size w w' := by
  obtain ⟨r, hr⟩ : ∃ r, idE x.1 y.1 = r := ⟨_, rfl⟩
  obtain ⟨E1, E2⟩ := eqIdP x.1 y.1 r hr
  rw [hr]
  have HB := Lib.hid (((Below.refl w.heap.size w).alloc (Nat.le_refl _) (.cells (plC x).toArray 69)).alloc (by simp) (.cells (plC y).toArray 69))
  clear hr
  obtain ⟨⟨a0, a1, a2, a3, a4, a5, a6, a7⟩, ak, ap, aa, an⟩ := x
  obtain ⟨⟨b0, b1, b2, b3, b4, b5, b6, b7⟩, bk, bp, ba, bn⟩ := y
  simp only [idV, bV] at E1 E2
  simp only [plC, idL, List.map_cons, List.map_nil, List.cons_append, List.nil_append, bV] at HB ⊢
  go_enter Try.func75, Try.ntmps75
  go_wp2_with fail
  go_ret
  exact ⟨rfl, HB.out⟩
set_option maxRecDepth 100000 in
set_option maxHeartbeats 4000000 in
theorem compactP_any (base g cap : Nat) (l : List Pl) (w : World) (hown : w.ownsRow base 69 12 (.slice (some ⟨g, 0, none⟩) l.length cap) l.length (l.flatMap plC)) (hl : l.length ≤ 1000) :
    Calls Try.prog 74 #[.slice (some ⟨g, 0, none⟩) l.length cap, .func (.func 75) #[] #[]] w fun e w' =>
      e = .returned (.slice (some ⟨g, 0, none⟩) (cpt icP l).length cap) ∧ w'.ownsRow base 69 12 (.slice (some ⟨g, 0, none⟩) (cpt icP l).length cap) (cpt icP l).length ((cpt icP l).flatMap plC) ∧ Below base w w' := by
  obtain ⟨hbg, hgw, hnc, hc63, _⟩ := own_block hown
  have HOW := Lib.hid hown
  have HBG := Lib.hid hbg
  have HGW := Lib.hid hgw
  have HSM := Lib.hid fun x y u => sameP_any x y u
  have hu := Try.underlying69
  have ICZ : Hid ((Try.prog.info? 69).map (·.size) = some 12) := by show _ = _; kernel_rfl
  have hbase : base ≤ w.heap.size := by omega
  clear hown hbg hgw
  by_cases h2 : l.length < 2
  · have HE := Lib.hid (cpt_small icP l h2)
    have m1 : (l.length : Int) < 2 := by omega
    go_enter Try.func74, Try.ntmps74
    go_wp2_with fail
    go_ret
    rw [HE.out]
    exact ⟨rfl, HOW.out, Below.refl _ _⟩
  · have m1 : ¬ (l.length : Int) < 2 := by omega
    go_enter Try.func74, Try.ntmps74
    go_wp2_with fail
    go_loopw [5] (fun kv wr => ∃ k : Nat, 1 ≤ k ∧ k ≤ l.length ∧ kv = .int .i64 (k : Int) ∧ Below w.heap.size w wr ∧ cpt icP (l.take k) = l.take k) (fun kv _ => l.length - (intOf kv).toNat)
    case atStart => exact ⟨1, by omega, by omega, rfl, Below.refl _ _, cpt_small icP _ (by rw [List.length_take]; omega)⟩
    case round =>
      obtain ⟨k, hk1, hkn, rfl, hbr, hall⟩ := hrel
      have HBR := Lib.hid hbr
      have HALL := Lib.hid hall
      have HOR := Lib.hid (own_belowK HOW.out HBR.out)
      have HSA := Lib.hid (show SAt 12 plC wr (some ⟨g, 0, none⟩) l from by
        obtain ⟨a, c, e1, _, _, h⟩ := SAt.own HOR.out plC_length
        injection e1 with e1 _ _
        subst e1
        exact h)
      clear hbr hall
      by_cases hlt : k < l.length
      · obtain ⟨i, rfl⟩ : ∃ i, k = i + 1 := ⟨k - 1, by omega⟩
        have m2 : ((i : Int) + 1 < (l.length : Int)) := by omega
        have m3 : ((i + 1 : Nat) : Int) < (l.length : Int) := by omega
        have mi : (i : Int) < (l.length : Int) := by omega
        have mz : ¬ ((i : Int) + 1 < 0) := by omega
        have mz0 : ¬ ((i : Int) < 0) := by omega
        have hwi : IntKind.i64.wrap (i : Int) = (i : Int) := wraps_i64 _ (by omega) (by omega)
        have HTK := Lib.hid (cpt_take icP l i hlt)
        obtain ⟨gx, ox, e1, hgx, hr1⟩ := HSA.out (i + 1) hlt
        obtain ⟨gy, oy, e2, _, hr2⟩ := HSA.out i (by omega)
        injection e1 with e1; injection e1 with e1 e1' _
        injection e2 with e2; injection e2 with e2 e2' _
        subst e1 e1' e2 e2'
        rw [Nat.zero_add] at hr1 hr2
        have HR1 := Lib.hid hr1
        have HR2 := Lib.hid hr2
        have HGX := Lib.hid hgx
        have HTK2 : Hid (∀ b, idE l[i + 1].1 (l[i]'(by omega)).1 = b → cpt icP (l.take (i + 2)) = if b then l.take (i + 1) else l.take (i + 2)) := by
          intro b hb
          rw [HTK.out, HALL.out]
          have e0 : icP l[i + 1] (l[i]'(by omega)) = 0 ↔ b = true := by
            unfold icP
            rw [cmpN_zero, ← hb]
            unfold idE
            rw [decide_eq_true_eq]
          by_cases h : icP l[i + 1] (l[i]'(by omega)) = 0
          · rw [if_pos h, if_pos (e0.1 h)]
          · rw [if_neg h, if_neg (fun hh => h (e0.2 hh)), List.take_succ_eq_append_getElem (show i + 1 < l.length from hlt)]
        clear hr1 hr2 hgx HTK HSA
        obtain ⟨p, hp⟩ : ∃ p, l[i + 1] = p := ⟨_, rfl⟩
        obtain ⟨q, hq⟩ : ∃ q, l[i]'(by omega) = q := ⟨_, rfl⟩
        rw [hp] at HR1 HTK2
        rw [hq] at HR2 HTK2
        obtain ⟨b, hb⟩ : ∃ b, idE p.1 q.1 = b := ⟨_, rfl⟩
        have HTB := Lib.hid (HTK2.out b hb)
        have HSB := Lib.hid (fun u => HSM.out p q u)
        rw [hb] at HSB
        have HPL : Hid ((plC p).length = 12) := plC_length _
        have HQL : Hid ((plC q).length = 12) := plC_length _
        clear HTK2 hp hq hb
        generalize plC p = pc at *
        generalize plC q = qc at *
        have ic1 : (Try.prog.info? 69).map (·.size) = some pc.length := by rw [HPL.out]; exact ICZ.out
        have ic2 : (Try.prog.info? 69).map (·.size) = some qc.length := by rw [HQL.out]; exact ICZ.out
        go_wp2_with fail
        refine wp_region_noPanic ?_
        refine wp_region_held_drew (S := fun w' => Below wr.heap.size wr w') (by kernel_rfl) (Below.refl _ _).drew (fun hS0 => ?_)
        have HS0 := Lib.hid hS0
        clear hS0
        refine take_val 0 (.func (.func 75) #[] #[]) rfl (by kernel_rfl) (by kernel_rfl) (by kernel_rfl) (fun _ _ _ _ h => h) (by rfl) rfl (fun wz hS => by go_simp) HS0.out ?_
        try simp only [List.set_cons_zero, List.set_cons_succ]
        refine take_val 1 (.slice (some ⟨g, 0, none⟩) l.length cap) rfl (by kernel_rfl) (by kernel_rfl) (by kernel_rfl) (fun _ _ _ _ h => h) (by rfl) rfl (fun wz hS => by go_simp) HS0.out ?_
        try simp only [List.set_cons_zero, List.set_cons_succ]
        refine take_val 2 (.int .i64 ((i : Int) + 1)) rfl (by kernel_rfl) (by kernel_rfl) (by kernel_rfl) (fun _ _ _ _ h => h) (by rfl) rfl (fun wz hS => by go_simp) HS0.out ?_
        try simp only [List.set_cons_zero, List.set_cons_succ]
        refine take_val 3 (.pointer (some ⟨g, (i + 1) * 12, none⟩)) rfl (by kernel_rfl) (by kernel_rfl) (by kernel_rfl) (fun _ _ _ _ h => h) (by rfl) rfl (fun wz hS => by go_simp) HS0.out ?_
        try simp only [List.set_cons_zero, List.set_cons_succ]
        refine take_row 4 (cs := pc) rfl (by kernel_rfl) (by kernel_rfl) (by kernel_rfl) (fun _ _ _ _ h => h) (by rfl) rfl rfl rfl (fun _ hS => range_below HR1.out HGX.out hS) hu rfl ic1 HS0.out ?_
        try simp only [List.set_cons_zero, List.set_cons_succ]
        refine take_val 5 (.slice (some ⟨g, 0, none⟩) l.length cap) rfl (by kernel_rfl) (by kernel_rfl) (by kernel_rfl) (fun _ _ _ _ h => h) (by rfl) rfl (fun wz hS => by go_simp) HS0.out ?_
        try simp only [List.set_cons_zero, List.set_cons_succ]
        refine take_val 6 (.int .i64 ((i : Int) + 1)) rfl (by kernel_rfl) (by kernel_rfl) (by kernel_rfl) (fun _ _ _ _ h => h) (by rfl) rfl (fun wz hS => by go_simp) HS0.out ?_
        try simp only [List.set_cons_zero, List.set_cons_succ]
        refine take_val 7 (.int .i64 ((i : Int))) rfl (by kernel_rfl) (by kernel_rfl) (by kernel_rfl) (fun _ _ _ _ h => h) (by rfl) rfl (fun wz hS => by go_simp) HS0.out ?_
        try simp only [List.set_cons_zero, List.set_cons_succ]
        refine take_val 8 (.pointer (some ⟨g, i * 12, none⟩)) rfl (by kernel_rfl) (by kernel_rfl) (by kernel_rfl) (fun _ _ _ _ h => h) (by rfl) rfl (fun wz hS => by go_simp) HS0.out ?_
        try simp only [List.set_cons_zero, List.set_cons_succ]
        refine take_row 9 (cs := qc) rfl (by kernel_rfl) (by kernel_rfl) (by kernel_rfl) (fun _ _ _ _ h => h) (by rfl) rfl rfl rfl (fun _ hS => range_below HR2.out HGX.out hS) hu rfl ic2 HS0.out ?_
        try simp only [List.set_cons_zero, List.set_cons_succ]
        refine wpAnyH_obls (γ := Nat) [] (fun kx g w' => True) [28] (fun g => [.bool b]) [10] 0 (by kernel_rfl) (by kernel_rfl) (by kernel_rfl) (by kernel_rfl) (by kernel_rfl) (by kernel_rfl) (by decide +kernel) (fun _ _ _ _ h => h) HS0.out ?_ ?_
        · skip
          refine .call _ 28 (.bool b) _ _ rfl (by decide) rfl (fun g => by kernel_rfl) (fun g u hS => by simp only [setAll, List.zip_cons_cons, List.zip_nil_right, List.foldl_cons, List.foldl_nil, List.set_cons_zero, List.set_cons_succ]; go_simp) (fun g u hS => (HSB.out u).mono (fun e w' ⟨he, hb⟩ => ⟨he, Below.step hS hb, fun k hk => absurd hk (by simp)⟩)) (fun g => by rfl) ?_
          exact .nil
        intro g0 u hS hB
        refine NoPanic.normal ?_
        simp only [setAll, List.zip_cons_cons, List.zip_nil_right, List.foldl_cons, List.foldl_nil, List.set_cons_zero, List.set_cons_succ]
        have HBU := Lib.hid hS
        clear hS hB HS0
        have HB1 := Lib.hid (Below.step HBR.out HBU.out)
        cases b with
        | false =>
          have HN : Hid (cpt icP (l.take (i + 2)) = l.take (i + 2)) := HTB.out
          clear HTB HSB
          go_wp2_with fail
          go_roundw
          case rel => exact ⟨i + 2, by omega, by omega, by go_num, HB1.out, HN.out⟩
          case measure => simp [intOf]; omega
        | true =>
          have HN : Hid (cpt icP (l.take (i + 2)) = l.take (i + 1)) := HTB.out
          have HO1 := Lib.hid (own_belowK HOW.out HB1.out)
          have HBB := Lib.hid (show Below base w u from ⟨HB1.out.os, HB1.out.tape, HB1.out.output, HB1.out.size, fun k hk => HB1.out.block k (by omega)⟩)
          clear HTB HSB HR1 HR2 HGX HPL HQL ic1 ic2 HBU
          go_wp2_with fail
          obtain ⟨M, hM⟩ : ∃ M, l.length - (i + 1) = M := ⟨_, rfl⟩
          obtain ⟨cM, hcM⟩ : ∃ cM, cap - (i + 1) = cM := ⟨_, rfl⟩
          rw [hM, hcM]
          have HM : Hid (l.length = i + 1 + M) := by show _ = _; omega
          have HN0 : Hid (l.drop (i + 1 + 0) = l.drop (i + 1 + 0)) := rfl
          have m5 : i + 1 < l.length := hlt
          clear hM hcM HBR HOR HALL HB1
          go_loopw [5, 7] (fun kv jv wr => ∃ (kk j : Nat) (d : List Pl), 1 ≤ kk ∧ kk ≤ i + 1 + j ∧ i + 1 + j + 1 ≤ l.length ∧ kv = .int .i64 (kk : Int) ∧ jv = .int .i64 ((j : Int) + 1) ∧ Hid (Below base w wr) ∧ Hid (wr.ownsRow base 69 12 (.slice (some ⟨g, 0, none⟩) d.length cap) d.length (d.flatMap plC)) ∧ Hid (d.length = l.length) ∧ Hid (d.take kk = cpt icP (l.take (i + 1 + j + 1))) ∧ Hid (d.drop (i + 1 + j) = l.drop (i + 1 + j))) (fun _ jv _ => M - (intOf jv).toNat)
          case atStart => exact ⟨i + 1, 0, l, by omega, by omega, by omega, by go_num, rfl, HBB, HO1, Lib.hid rfl, Lib.hid HN.out.symm, Lib.hid rfl⟩
          case round =>
            obtain ⟨kk, j, d, hk1', hk2, hk3, rfl, rfl, HBD, HOD, HDL, HDT, HDR⟩ := hrel
            have HML := HM.out
            have HDLn := HDL.out
            have HSA := Lib.hid (show SAt 12 plC wr (some ⟨g, 0, none⟩) d from by
              obtain ⟨a, c, e1, _, _, h⟩ := SAt.own HOD.out plC_length
              injection e1 with e1 _ _
              subst e1
              exact h)
            have hget : ∀ t (h : i + 1 + j ≤ t) (h2 : t < l.length), d[t]'(by omega) = l[t] := fun t h h2 => by
              have e := congrArg (fun x : List Pl => x[t - (i + 1 + j)]?) HDR.out
              simp only [List.getElem?_drop] at e
              rw [show i + 1 + j + (t - (i + 1 + j)) = t by omega, List.getElem?_eq_getElem h2, List.getElem?_eq_getElem (by omega)] at e
              exact Option.some.inj e
            have HGET := Lib.hid hget
            clear hget
            by_cases hlt2 : i + 1 + (j + 1) < l.length
            · have n1 : (j : Int) + 1 < (M : Int) := by omega
              have n2 : ¬ ((j : Int) + 1 < 0) := by omega
              have n3 : ¬ ((j : Int) < 0) := by omega
              have n4 : (j : Int) < (M : Int) := by omega
              have hwj : IntKind.i64.wrap (j : Int) = (j : Int) := wraps_i64 _ (by omega) (by omega)
              obtain ⟨gx, ox, e1, hgx, hr1⟩ := HSA.out (i + 1 + (j + 1)) (by omega)
              obtain ⟨gy, oy, e2, _, hr2⟩ := HSA.out (i + 1 + j) (by omega)
              injection e1 with e1; injection e1 with e1 e1' _
              injection e2 with e2; injection e2 with e2 e2' _
              subst e1 e1' e2 e2'
              rw [HGET.out _ (by omega) hlt2, Nat.zero_add, Nat.add_mul (i + 1)] at hr1
              rw [HGET.out _ (by omega) (by omega), Nat.zero_add, Nat.add_mul (i + 1)] at hr2
              have HR1 := Lib.hid hr1
              have HR2 := Lib.hid hr2
              have HGX := Lib.hid hgx
              have HTK := Lib.hid (cpt_take icP l (i + 1 + j) (by omega))
              clear hr1 hr2 hgx HSA
              obtain ⟨p, hp⟩ : ∃ p, l[i + 1 + (j + 1)] = p := ⟨_, rfl⟩
              obtain ⟨q, hq⟩ : ∃ q, l[i + 1 + j]'(by omega) = q := ⟨_, rfl⟩
              rw [hp] at HR1
              rw [hq] at HR2
              obtain ⟨b, hb⟩ : ∃ b, idE p.1 q.1 = b := ⟨_, rfl⟩
              have HTB : Hid (cpt icP (l.take (i + 1 + (j + 1) + 1)) = if b then d.take kk else d.take kk ++ [p]) := by
                show _ = _
                have h := HTK.out
                rw [show i + 1 + j + 2 = i + 1 + (j + 1) + 1 by omega, ← HDT.out] at h
                rw [h]
                have e0 : icP (l[i + 1 + j + 1]'(by omega)) (l[i + 1 + j]'(by omega)) = 0 ↔ b = true := by
                  unfold icP
                  rw [cmpN_zero, ← hb, ← hp, ← hq]
                  unfold idE
                  rw [decide_eq_true_eq]
                  rfl
                by_cases h : icP (l[i + 1 + j + 1]'(by omega)) (l[i + 1 + j]'(by omega)) = 0
                · rw [if_pos h, if_pos (e0.1 h)]
                · rw [if_neg h, if_neg (fun hh => h (e0.2 hh)), ← hp]
                  rfl
              have HSB := Lib.hid (fun u => HSM.out p q u)
              rw [hb] at HSB
              have HPL : Hid ((plC p).length = 12) := plC_length _
              have HQL : Hid ((plC q).length = 12) := plC_length _
              have HONE : Hid ((plC p).toArray.all (·.oneCell') = true) := all_oneCell_toArray (plC_oneC p)
              clear HTK hp hq hb
              obtain ⟨pc, hpc⟩ : ∃ pc, plC p = pc := ⟨_, rfl⟩
              have HPC := Lib.hid hpc
              rw [hpc] at HR1 HSB HPL HONE
              clear hpc
              generalize plC q = qc at *
              have ic1 : (Try.prog.info? 69).map (·.size) = some pc.length := by rw [HPL.out]; exact ICZ.out
              have ic2 : (Try.prog.info? 69).map (·.size) = some qc.length := by rw [HQL.out]; exact ICZ.out
              clear HML HGET HDLn
              go_wp2_with fail
              refine wp_region_noPanic ?_
              refine wp_region_held_drew (S := fun w' => Below wr.heap.size wr w') (by kernel_rfl) (Below.refl _ _).drew (fun hS0 => ?_)
              have HS0 := Lib.hid hS0
              clear hS0
              refine take_val 0 (.func (.func 75) #[] #[]) rfl (by kernel_rfl) (by kernel_rfl) (by kernel_rfl) (fun _ _ _ _ h => h) (by rfl) rfl (fun wz hS => by go_simp) HS0.out ?_
              try simp only [List.set_cons_zero, List.set_cons_succ]
              refine take_val 1 (.slice (some ⟨g, (i + 1) * 12, none⟩) M cM) rfl (by kernel_rfl) (by kernel_rfl) (by kernel_rfl) (fun _ _ _ _ h => h) (by rfl) rfl (fun wz hS => by go_simp) HS0.out ?_
              try simp only [List.set_cons_zero, List.set_cons_succ]
              refine take_val 2 (.int .i64 ((j : Int) + 1)) rfl (by kernel_rfl) (by kernel_rfl) (by kernel_rfl) (fun _ _ _ _ h => h) (by rfl) rfl (fun wz hS => by go_simp) HS0.out ?_
              try simp only [List.set_cons_zero, List.set_cons_succ]
              refine take_val 3 (.pointer (some ⟨g, (i + 1) * 12 + (j + 1) * 12, none⟩)) rfl (by kernel_rfl) (by kernel_rfl) (by kernel_rfl) (fun _ _ _ _ h => h) (by rfl) rfl (fun wz hS => by go_simp) HS0.out ?_
              try simp only [List.set_cons_zero, List.set_cons_succ]
              refine take_row 4 (cs := pc) rfl (by kernel_rfl) (by kernel_rfl) (by kernel_rfl) (fun _ _ _ _ h => h) (by rfl) rfl rfl rfl (fun _ hS => range_below HR1.out HGX.out hS) hu rfl ic1 HS0.out ?_
              try simp only [List.set_cons_zero, List.set_cons_succ]
              refine take_val 5 (.slice (some ⟨g, (i + 1) * 12, none⟩) M cM) rfl (by kernel_rfl) (by kernel_rfl) (by kernel_rfl) (fun _ _ _ _ h => h) (by rfl) rfl (fun wz hS => by go_simp) HS0.out ?_
              try simp only [List.set_cons_zero, List.set_cons_succ]
              refine take_val 6 (.int .i64 ((j : Int) + 1)) rfl (by kernel_rfl) (by kernel_rfl) (by kernel_rfl) (fun _ _ _ _ h => h) (by rfl) rfl (fun wz hS => by go_simp) HS0.out ?_
              try simp only [List.set_cons_zero, List.set_cons_succ]
              refine take_val 7 (.int .i64 ((j : Int))) rfl (by kernel_rfl) (by kernel_rfl) (by kernel_rfl) (fun _ _ _ _ h => h) (by rfl) rfl (fun wz hS => by go_simp) HS0.out ?_
              try simp only [List.set_cons_zero, List.set_cons_succ]
              refine take_val 8 (.pointer (some ⟨g, (i + 1) * 12 + j * 12, none⟩)) rfl (by kernel_rfl) (by kernel_rfl) (by kernel_rfl) (fun _ _ _ _ h => h) (by rfl) rfl (fun wz hS => by go_simp) HS0.out ?_
              try simp only [List.set_cons_zero, List.set_cons_succ]
              refine take_row 9 (cs := qc) rfl (by kernel_rfl) (by kernel_rfl) (by kernel_rfl) (fun _ _ _ _ h => h) (by rfl) rfl rfl rfl (fun _ hS => range_below HR2.out HGX.out hS) hu rfl ic2 HS0.out ?_
              try simp only [List.set_cons_zero, List.set_cons_succ]
              refine wpAnyH_obls (γ := Nat) [] (fun kx g w' => True) [48, 49] (fun g => [.bool b, .bool (!b)]) [10, 11] 0 (by kernel_rfl) (by kernel_rfl) (by kernel_rfl) (by kernel_rfl) (by kernel_rfl) (by kernel_rfl) (by decide +kernel) (fun _ _ _ _ h => h) HS0.out ?_ ?_
              · skip
                refine .call _ 48 (.bool b) _ _ rfl (by decide) rfl (fun g => by kernel_rfl) (fun g u hS => by simp only [setAll, List.zip_cons_cons, List.zip_nil_right, List.foldl_cons, List.foldl_nil, List.set_cons_zero, List.set_cons_succ]; go_simp) (fun g u hS => (HSB.out u).mono (fun e w' ⟨he, hb⟩ => ⟨he, Below.step hS hb, fun k hk => absurd hk (by simp)⟩)) (fun g => by rfl) ?_
                refine .val _ 49 (fun g => .bool (!b)) rfl (by decide) rfl (fun g => by kernel_rfl) (fun g u hS hB => by simp only [setAll, List.zip_cons_cons, List.zip_nil_right, List.foldl_cons, List.foldl_nil, List.set_cons_zero, List.set_cons_succ]; go_simp) (fun g => by rfl) ?_
                exact .nil
              intro g0 u hS hB
              refine NoPanic.normal ?_
              simp only [setAll, List.zip_cons_cons, List.zip_nil_right, List.foldl_cons, List.foldl_nil, List.set_cons_zero, List.set_cons_succ]
              have HBU := Lib.hid hS
              clear hS hB HS0
              have HB1 := Lib.hid (Below.stepB HBD.out (Nat.le_trans hbase HBD.out.size) HBU.out)
              have HO2 := Lib.hid (own_belowK HOD.out HBU.out)
              cases b with
              | true =>
                have HN2 : Hid (d.take kk = cpt icP (l.take (i + 1 + (j + 1) + 1))) := HTB.out.symm
                clear HTB HSB HR1 HR2 HGX
                go_wp2_with fail
                have HML := HM.out
                go_roundw
                case rel => exact ⟨kk, j + 1, d, hk1', by omega, by omega, by first | rfl | go_num, by go_num, HB1, HO2, HDL, HN2, Lib.hid (by have h := congrArg (List.drop 1) HDR.out; rwa [List.drop_drop, List.drop_drop] at h)⟩
                case measure => simp [intOf]; omega
              | false =>
                have HRU := Lib.hid (range_below HR1.out HGX.out HBU.out)
                have HKK : Hid (kk < d.length) := by show _ < _; have := HDL.out; omega
                have HTH : Hid (u.there g (kk * 12) pc.toArray.size) := own_there HO2.out kk HKK.out (by rw [List.size_toArray, HPL.out]; exact Nat.le_refl _)
                have HIC : Hid ((Try.prog.info? 69).map (·.size) = some pc.toArray.size) := by show _ = _; rw [List.size_toArray, HPL.out]; exact ICZ.out
                have o1 : (kk : Int) < (l.length : Int) := by omega
                have o2 : ¬ ((kk : Int) < 0) := by omega
                have HN2 : Hid (cpt icP (l.take (i + 1 + (j + 1) + 1)) = d.take kk ++ [p]) := HTB.out
                clear HTB HSB HR1 HR2 HGX
                go_wp2_with (first | (with_reducible refine wpList_load_mid rfl 69 (.tmp 54) rfl g ((i + 1) * 12 + (j + 1) * 12) rfl pc _ HRU.out hu rfl ic1 ?_) | (with_reducible refine wpList_store_mid rfl 69 (.tmp 56) (.tmp 55) rfl g (kk * 12) pc.toArray rfl rfl HTH.out HIC.out HONE.out ?_))
                have HB2 := Lib.hid (below_setCells HBG.out pc (kk * 12) HB1.out)
                have hput := own_put plC_length HO2.out kk HKK.out p
                rw [HPC.out] at hput
                have HO3 := Lib.hid hput
                clear hput
                go_wp2_with fail
                have HML := HM.out
                go_roundw
                case rel =>
                  refine ⟨kk + 1, j + 1, d.set kk p, by omega, by omega, by omega, by go_num, by go_num, HB2, HO3, Lib.hid (by rw [List.length_set]; exact HDL.out), Lib.hid ?_, Lib.hid ?_⟩
                  · rw [HN2.out, List.take_succ_eq_append_getElem (by rw [List.length_set]; exact HKK.out), List.getElem_set_self, List.take_set_of_le (Nat.le_refl _)]
                  · rw [List.drop_set_of_lt (by omega)]
                    have h := congrArg (List.drop 1) HDR.out
                    rwa [List.drop_drop, List.drop_drop] at h
                case measure => simp [intOf]; omega
            · have n1 : ¬ ((j : Int) + 1 < (M : Int)) := by omega
              have HFIN : Hid (d.take kk = cpt icP l) := by
                show _ = _
                rw [HDT.out, show l.take (i + 1 + j + 1) = l from List.take_of_length_le (by omega)]
              have o1 : (kk : Int) ≤ (l.length : Int) := by omega
              have o2 : ¬ ((kk : Int) < 0) := by omega
              have o3 : (kk : Int) ≤ (cap : Int) := by omega
              have hkkd : kk ≤ d.length := by omega
              obtain ⟨Z, hZ, hcl⟩ := clear_places HOD.out kk (by omega) (cap - kk)
              rw [HDLn] at hcl hZ
              have HZ := Lib.hid hZ
              have HKD := Lib.hid hkkd
              clear hkkd hZ HSA HDR HML HGET HDLn
              go_wp2_with fail
              go_ret
              have h := own_clear plC_length HOD.out kk HKD.out Z (by rw [HDL.out]; exact HZ.out)
              rw [HFIN.out] at h
              have hlen : kk = (cpt icP l).length := by
                rw [← HFIN.out, List.length_take]
                have := HKD.out
                omega
              refine ⟨by rw [← hlen]; rfl, h, below_setCells HBG.out Z (kk * 12) HBD.out⟩
      · have m2 : ¬ ((k : Int) < (l.length : Int)) := by omega
        have HE : Hid (cpt icP l = l) := by
          have h := HALL.out
          show _ = _
          rwa [List.take_of_length_le (by omega)] at h
        go_wp2_with fail
        go_ret
        rw [HE.out]
        exact ⟨rfl, HOR.out, ⟨HBR.out.os, HBR.out.tape, HBR.out.output, HBR.out.size, fun k hk => HBR.out.block k (by omega)⟩⟩
end Go.Proofs.Ytinjnclpiiohcaa
