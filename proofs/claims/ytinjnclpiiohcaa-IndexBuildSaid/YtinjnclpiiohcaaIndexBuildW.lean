/- IndexBuild: its walk. -/
import Derived.Test.YtinjnclpiiohcaaEnRev
import Derived.Test.YtinjnclpiiohcaaIndexLatticeW
namespace Go.Proofs.Ytinjnclpiiohcaa
open Go.RowKit Plain
set_option linter.unusedVariables false
attribute [-go_sem] run_eql_struct run_neq_struct run_eqGuard_agg run_equalIn_agg Op.eqFields Program.fieldsOf
def e1P : En := ((0, 0, 0, 0, 0, 0, 0, 0), 1, 0, 0)
theorem OfP.ok {n : Int} {l : List En} {x : List Pl} (h : OfP n l x 0) : ofOk n l ∧ Srt icP cfP (l.map (mkP n)) x ∧ x.length ≤ l.length ∧ xOk x := by
  rcases h with ⟨_, h, _⟩ | ⟨h1, _, h2, h3⟩
  · exact absurd rfl h
  · refine ⟨h1, h2, h3, up_xOk h2.up (Nat.le_trans h3 h1.2.1) fun p hp => ?_⟩
    obtain ⟨e, he, rfl⟩ := List.mem_map.1 ((h2.mem p).1 hp).1
    exact h1.2.2 e he
theorem OfP.sp {x : List Pl} {c : Nat} (h : OfP 3 [e1P, e1P] x c) : x.length = 1 ∧ c = 0 := by
  rcases h with ⟨h, _⟩ | ⟨_, h1, h2, h3⟩
  · refine absurd ⟨by decide, by decide, fun e he => ?_⟩ h
    simp only [List.mem_cons, List.not_mem_nil, or_false, or_self] at he
    subst he
    decide
  · refine ⟨?_, h1⟩
    have e : x = [mkP 3 e1P] := (h2.same (m := [mkP 3 e1P]) (fun p => by simp)).unique ordsP (Srt.own ordsP (by simp))
    rw [e]; rfl
theorem OfP.turned {n : Int} {l : List En} {x z : List Pl} {d : Nat} (h : OfP n l x 0) (g : OfP n l.reverse z d) : d = 0 ∧ x = z := by
  obtain ⟨o, s, _, _⟩ := h.ok
  rcases g with ⟨g, _⟩ | ⟨_, g1, g2, _⟩
  · exact absurd ⟨o.1, by rw [List.length_reverse]; exact o.2.1, fun e he => o.2.2 e (by simpa using he)⟩ g
  · exact ⟨g1, s.unique ordsP (g2.same fun p => by simp)⟩
theorem OfP.both {n : Int} {l m : List En} {x y u v : List Pl} {c : Nat} (h : OfP n l x 0) (g : OfP n m y 0) (k : OfP n (l ++ m) u 0) (q : MgP x y v c) : c = 0 ∧ u = v := by
  obtain ⟨_, s1, _, o1⟩ := h.ok
  obtain ⟨_, s2, _, o2⟩ := g.ok
  obtain ⟨o3, s3, n3, _⟩ := k.ok
  rcases q with ⟨q, _⟩ | ⟨_, _, r, q1, q2⟩
  · exact absurd ⟨o1, o2⟩ q
  · rw [List.map_append] at s3
    have e := (s2.part' ordsP (s1.part ordsP q1)).unique ordsP s3
    subst e
    rcases q2 with ⟨q2, _⟩ | ⟨_, q3, q4⟩
    · have := o3.2.1
      omega
    · exact ⟨q3, q4.symm⟩
theorem OfP.bytes {n : Int} {l : List En} {x : List Pl} {c : Nat} (h : OfP n l x c) (bl : ∀ p ∈ l, ∀ c ∈ idL p.1, c < 256) : ∀ p ∈ x, ∀ c ∈ idL p.1, c < 256 := by
  rcases h with ⟨_, _, rfl⟩ | ⟨_, _, h, _⟩
  · simp
  · intro p hp
    obtain ⟨e, he, rfl⟩ := List.mem_map.1 ((h.mem p).1 hp).1
    exact bl e he
theorem sat_e1 (u : World) (cs : Array Value) (hcs : cs = ([e1P, e1P].flatMap enC).toArray) (T : TypeId) : SAt 11 enC (u.alloc (.cells cs T)) (some ⟨u.heap.size, 0, none⟩) [e1P, e1P] := by
  subst hcs
  intro i hi
  refine ⟨u.heap.size, 0, rfl, by simp, fun j v hj => ?_⟩
  have hlt : j < 11 := by
    rcases Nat.lt_or_ge j 11 with h | h
    · exact h
    · rw [List.getElem?_eq_none (by rw [enC_length]; exact h)] at hj; cases hj
  rw [Nat.zero_add, cell_of_row _ _ _ _ _ _ (heap_alloc_new u _), List.getElem?_toArray, flat_get enC_length _ i j hi hlt]
  exact hj
set_option maxRecDepth 100000 in
set_option maxHeartbeats 4000000 in
theorem indexBuild_any (n : Int) (a b : Option Addr) (ca cb : Nat) (l m : List En) (w : World) (hl : SAt 11 enC w a l) (hm : SAt 11 enC w b m) (nl : l.length ≤ 9223372036854775807) (nm : m.length ≤ 9223372036854775807) (bl : ∀ p ∈ l, ∀ c ∈ idL p.1, c < 256) (bm : ∀ p ∈ m, ∀ c ∈ idL p.1, c < 256) :
    Calls Try.prog 8 #[.int .i64 n, .slice a l.length ca, .slice b m.length cb] w fun e w' => e = .returned (.bool true) ∧ Below w.heap.size w w' := by
  obtain ⟨i0, hi0, hz0, hz1, hz2⟩ := info_enM
  have HL := Lib.hid hl
  have HM := Lib.hid hm
  have HBL := Lib.hid bl
  have HBM := Lib.hid bm
  have HOF := Lib.hid fun k x cx (lx : List En) u h1 h2 h3 => of_any k x cx lx u h1 h2 h3
  have HOF1 := Lib.hid fun (u : World) cs T hcs => of_any 3 (some ⟨u.heap.size, 0, none⟩) 2 [e1P, e1P] _ (sat_e1 u cs hcs T) (by decide) (by decide)
  simp only [List.length_cons, List.length_nil] at HOF1
  have HMG := Lib.hid fun x y cx cy (lx ly : List Pl) u h1 h2 h3 h4 h5 h6 => mergeP_any x y cx cy lx ly u h1 h2 h3 h4 h5 h6
  have HEQ := Lib.hid fun x y cx cy (lx ly : List Pl) u h1 h2 h3 h4 => eqPls_any x y cx cy lx ly u h1 h2 h3 h4
  have HCK := Lib.hid fun x cx (lx : List Pl) u h1 h2 h3 => xcheck_any x cx lx u h1 h2 h3
  have HCL := Lib.hid fun x cx (lx : List En) u h1 h2 => cloneE_any x cx lx u h1 h2
  have HRV := Lib.hid fun base x cx (lx : List En) u h1 h2 => revE_any base x cx lx u h1 h2
  clear hl hm bl bm
  go_enter Try.func8, Try.ntmps8
  go_wp2_with fail
  refine (HOF1.out _ _ _ rfl).mono ?_
  rintro e w1 ⟨hb1, x0, y0, k0, c0, rfl, _, _, hp0⟩
  obtain ⟨e1, rfl⟩ := hp0.sp
  have f0 : ((x0.length : Int) != 1) = false := by rw [e1]; rfl
  have HB1 := Lib.hid (Below.next ((Below.refl w.heap.size w).alloc (Nat.le_refl _) _) hb1 (by simp))
  clear hb1 hp0 e1
  go_wp2_with fail
  refine (HOF.out _ _ _ _ _ (HL.out.below HB1.out) nl HBL.out).mono ?_
  rintro e w2 ⟨hb2, x1, y1, k1, c1, rfl, hs1, n1, hp1⟩
  have HB2 := Lib.hid (Below.step HB1.out hb2)
  have HS1 := Lib.hid hs1
  have HP1 := Lib.hid hp1
  clear hb2 hs1 hp1
  go_wp2_with fail
  refine (HOF.out _ _ _ _ _ (HM.out.below HB2.out) nm HBM.out).mono ?_
  rintro e w3 ⟨hb3, x2, y2, k2, c2, rfl, hs2, n2, hp2⟩
  have HB3 := Lib.hid (Below.step HB2.out hb3)
  have HS1' := Lib.hid (HS1.out.below hb3)
  have HS2 := Lib.hid hs2
  have HP2 := Lib.hid hp2
  clear hb3 hs2 hp2 HS1
  by_cases hc1 : c1 = 0
  · subst hc1
    by_cases hc2 : c2 = 0
    · subst hc2
      have hl400 := HP1.out.ok.1.2.1
      have hm400 := HP2.out.ok.1.2.1
      have HX1 := Lib.hid HP1.out.ok.2.2.2
      have HX2 := Lib.hid HP2.out.ok.2.2.2
      have HBX1 := Lib.hid (HP1.out.bytes HBL.out)
      have HBX2 := Lib.hid (HP2.out.bytes HBM.out)
      go_wp2_with fail
      refine (HCL.out _ _ _ _ (HL.out.below HB3.out) (by omega)).mono ?_
      rintro e w4 ⟨hb4, a4, q4, rfl, hown⟩
      have HB34 := Lib.hid hb4
      have HO4 := Lib.hid hown
      clear hb4 hown
      go_wp2_with fail
      refine (HRV.out _ _ _ _ _ HO4.out (by omega)).mono ?_
      rintro e w5 ⟨rfl, hown, hb5⟩
      have HB35 := Lib.hid (HB34.out.trans hb5)
      have HB5 := Lib.hid (Below.step HB3.out HB35.out)
      have hsat : SAt 11 enC w5 a4 l.reverse := by
        have h := hown
        rw [show l.length = l.reverse.length from List.length_reverse.symm] at h
        obtain ⟨a', c', e1, _, _, h⟩ := SAt.own h enC_length
        injection e1 with e1 _ _
        subst e1
        exact h
      have HOFR := Lib.hid (HOF.out n _ q4 _ _ hsat (by simp; omega) (fun p hp => HBL.out p (by simpa using hp)))
      have HS1 := Lib.hid (HS1'.out.below HB35.out)
      have HS2' := Lib.hid (HS2.out.below HB35.out)
      rw [List.length_reverse] at HOFR
      clear hown hb5 hsat HB34 HB35 HO4 HS1' HS2
      go_wp2_with fail
      refine HOFR.out.mono ?_
      rintro e w6 ⟨hb6, x3, y3, k3, c3, rfl, hs3, n3, hp3⟩
      obtain ⟨rfl, rfl⟩ := HP1.out.turned hp3
      have HB6 := Lib.hid (Below.step HB5.out hb6)
      have HS1' := Lib.hid (HS1.out.below hb6)
      have HS2 := Lib.hid (HS2'.out.below hb6)
      have HS3 := Lib.hid hs3
      clear hb6 hs3 hp3 HOFR HS1 HS2'
      go_wp2_with fail
      refine (HEQ.out _ _ _ _ _ _ _ HS1'.out HS3.out (by omega) (by omega)).mono ?_
      rintro e w7 ⟨⟨r, rfl, hr⟩, hb7⟩
      obtain rfl : r = true := hr.2 rfl
      have HB7 := Lib.hid (Below.step HB6.out hb7)
      have HS1 := Lib.hid (HS1'.out.below hb7)
      have HS2' := Lib.hid (HS2.out.below hb7)
      clear hr hb7 HS1' HS2 HS3
      go_wp2_with fail
      refine (HCK.out _ _ _ _ HS1.out (by omega) HBX1.out).mono ?_
      rintro e w8 ⟨c8, rfl, hc8, hb8⟩
      obtain rfl : c8 = 0 := hc8.2 HX1.out
      have HB8 := Lib.hid (Below.step HB7.out hb8)
      have HS1' := Lib.hid (HS1.out.below hb8)
      have HS2 := Lib.hid (HS2'.out.below hb8)
      clear hc8 hb8 HS1 HS2'
      go_wp2_with fail
      refine (HCL.out _ _ _ _ (HL.out.below HB8.out) (by omega)).mono ?_
      rintro e w9 ⟨hb9, a9, q9, rfl, hown⟩
      have HB9 := Lib.hid (Below.step HB8.out hb9)
      have HB89 := Lib.hid hb9
      have HO9 := Lib.hid hown
      have D3 : Hid (l.length + m.length ≤ maxLen) := by show _ ≤ _; unfold maxLen; omega
      have D4 : Hid ((l.length + m.length) * 32 ≤ 140737488355328) := by show _ ≤ _; omega
      have D5 : Hid (w8.heap.size ≤ w9.heap.size) := hb9.size
      have HSM := Lib.hid (HM.out.below HB9.out)
      clear hb9 hown
      go_wp2_with (at_builtin; refine wpList_append_sat rfl _ _ 74 rfl w8.heap.size 78 i0 (.agg (enC ((0, 0, 0, 0, 0, 0, 0, 0), 0, 0, 0)).toArray) 11 32 Try.underlying74 hi0 hz0 hz1 hz2 rfl (by decide) _ l.length (l.flatMap enC) rfl HO9.out b cb m rfl HSM.out enC_length (fun s => enC_one s) D3.out D4.out D5.out ?_)
      intro v' w10 hown' hgrow
      have HB810 := Lib.hid (below_own HB89.out hgrow D5.out HO9.out (Nat.le_refl _))
      obtain ⟨a10, q10, rfl⟩ := own_formK hown'
      have hsat : SAt 11 enC w10 a10 (l ++ m) := by
        have h := hown'
        rw [← List.length_append, ← List.flatMap_append] at h
        obtain ⟨a', c', e1, _, _, h⟩ := SAt.own h enC_length
        injection e1 with e1 _ _
        subst e1
        exact h
      have HOFA := Lib.hid (HOF.out n _ q10 _ _ hsat (by simp; omega) (fun p hp => by
        rcases List.mem_append.1 hp with hp | hp
        · exact HBL.out p hp
        · exact HBM.out p hp))
      rw [List.length_append] at HOFA
      have HB10 := Lib.hid (Below.step HB8.out HB810.out)
      have HS1 := Lib.hid (HS1'.out.below HB810.out)
      have HS2' := Lib.hid (HS2.out.below HB810.out)
      clear hown' hgrow hsat HB810 HB89 HO9 HSM HS1' HS2
      go_wp2_with fail
      refine HOFA.out.mono ?_
      rintro e w11 ⟨hb11, x4, y4, k4, c4, rfl, hs4, n4, hp4⟩
      have HB11 := Lib.hid (Below.step HB10.out hb11)
      have HS1' := Lib.hid (HS1.out.below hb11)
      have HS2 := Lib.hid (HS2'.out.below hb11)
      have HS4 := Lib.hid hs4
      have HP4 := Lib.hid hp4
      clear hb11 hs4 hp4 HOFA HS1 HS2'
      go_wp2_with fail
      refine (HMG.out _ _ _ _ _ _ _ HS1'.out HS2.out (by omega) (by omega) HBX1.out HBX2.out).mono ?_
      rintro e w12 ⟨hb12, x5, y5, k5, c5, rfl, hs5, n5, hp5⟩
      have HB12 := Lib.hid (Below.step HB11.out hb12)
      have HS4' := Lib.hid (HS4.out.below hb12)
      have HS5 := Lib.hid hs5
      have HP5 := Lib.hid hp5
      clear hb12 hs5 hp5 HS1' HS2 HS4
      by_cases hc4 : c4 = 0
      · subst hc4
        obtain ⟨rfl, rfl⟩ := HP1.out.both HP2.out HP4.out HP5.out
        go_wp2_with fail
        refine (HEQ.out _ _ _ _ _ _ _ HS4'.out HS5.out (by omega) (by omega)).mono ?_
        rintro e w13 ⟨⟨r, rfl, hr⟩, hb13⟩
        obtain rfl : r = true := hr.2 rfl
        have HB13 := Lib.hid (Below.step HB12.out hb13)
        clear hr hb13
        go_wp2_with fail
        go_ret
        exact ⟨rfl, HB13.out⟩
      · have f4 : (((c4 : Nat) : Int) != 0) = true := by simpa using hc4
        clear hc4
        go_wp2_with fail
        go_ret
        exact ⟨rfl, HB12.out⟩
    · have f2 : (((c2 : Nat) : Int) != 0) = true := by simpa using hc2
      clear hc2
      go_wp2_with fail
      go_ret
      exact ⟨rfl, HB3.out⟩
  · have f1 : (((c1 : Nat) : Int) != 0) = true := by simpa using hc1
    clear hc1
    go_wp2_with fail
    go_ret
    exact ⟨rfl, HB3.out⟩
end Go.Proofs.Ytinjnclpiiohcaa
