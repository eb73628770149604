/- IndexLattice: its walk. -/
import Derived.Test.YtinjnclpiiohcaaPlMerge
import Derived.Test.YtinjnclpiiohcaaPlacesEq
import Derived.Test.YtinjnclpiiohcaaSomePlace
namespace Go.Proofs.Ytinjnclpiiohcaa
open Go.RowKit Plain
set_option linter.unusedVariables false
attribute [-go_sem] run_eql_struct run_neq_struct run_eqGuard_agg run_equalIn_agg Op.eqFields Program.fieldsOf
/-- what a merge leaves, told by its two results as a list and a code -/
def MgP (l m x : List Pl) (c : Nat) : Prop :=
  (¬ (xOk l ∧ xOk m) ∧ c ≠ 0 ∧ x = []) ∨ (xOk l ∧ xOk m ∧ ∃ r : List Pl, Srt icP cfP (l ++ m) r ∧ ((400 < r.length ∧ c = 2 ∧ x = []) ∨ (r.length ≤ 400 ∧ c = 0 ∧ x = r)))
theorem MgRes.list {l m : List Pl} {v : Value} {c : Nat} {w : World} (h : MgRes l m v c w) : ∃ (x : List Pl) (a : Option Addr) (k : Nat), v = .slice a x.length k ∧ SAt 12 plC w a x ∧ x.length ≤ 400 ∧ MgP l m x c := by
  rcases h with ⟨h1, h2, rfl⟩ | ⟨h1, h2, r, h3, _, ⟨h4, h5, rfl⟩ | ⟨h4, h5, a, k, rfl, h6⟩⟩
  · exact ⟨[], none, 0, rfl, SAt.nil, by simp, .inl ⟨h1, h2, rfl⟩⟩
  · exact ⟨[], none, 0, rfl, SAt.nil, by simp, .inr ⟨h1, h2, r, h3, .inl ⟨h4, h5, rfl⟩⟩⟩
  · exact ⟨r, a, k, rfl, h6, h4, .inr ⟨h1, h2, r, h3, .inr ⟨h4, h5, rfl⟩⟩⟩
theorem xOk_up {l : List Pl} (h : xOk l) : l.Pairwise fun x y => icP x y < 0 := by
  rw [List.pairwise_iff_getElem]
  intro i j hi hj hij
  obtain ⟨d, rfl⟩ : ∃ d, j = i + 1 + d := ⟨j - (i + 1), by omega⟩
  clear hij
  induction d with
  | zero =>
    have := h.2.2 i hj
    unfold icP
    rw [cmpN_neg] at this
    simp only [Nat.add_zero]
    omega
  | succ d ih =>
    have h1 := ih (by omega)
    have h2 := h.2.2 (i + 1 + d) hj
    refine icP_cmp.trans _ _ _ h1 ?_
    unfold icP
    rw [cmpN_neg] at h2
    show cmpN _ (idL (l[i + 1 + d + 1]'hj).1) < 0
    omega
theorem up_xOk {l : List Pl} (h : l.Pairwise fun x y => icP x y < 0) (hl : l.length ≤ 400) (hp : ∀ p ∈ l, pOk p) : xOk l := by
  refine ⟨hl, hp, fun i hi => ?_⟩
  rw [List.pairwise_iff_getElem] at h
  have := h i (i + 1) (by omega) hi (by omega)
  unfold icP at this
  rw [cmpN_neg]
  omega
theorem srt_xOk {l m r : List Pl} (hl : xOk l) (hm : xOk m) (h : Srt icP cfP (l ++ m) r) (hr : r.length ≤ 400) : xOk r :=
  up_xOk h.up hr fun p hp => by
    rcases List.mem_append.1 ((h.mem p).1 hp).1 with h1 | h1
    · exact hl.2.1 p h1
    · exact hm.2.1 p h1
theorem MgP.ok {l m x : List Pl} (h : MgP l m x 0) : xOk l ∧ xOk m ∧ Srt icP cfP (l ++ m) x ∧ xOk x := by
  rcases h with ⟨_, h, _⟩ | ⟨h1, h2, r, h3, ⟨_, h4, _⟩ | ⟨h4, _, rfl⟩⟩
  · exact absurd rfl h
  · cases h4
  · exact ⟨h1, h2, h3, srt_xOk h1 h2 h3 h4⟩
theorem MgP.self {l x : List Pl} {c : Nat} (h : MgP l l x c) : (c = 0 ∧ x = l ∧ xOk l) ∨ (c ≠ 0 ∧ x = []) := by
  rcases h with ⟨_, h, h2⟩ | ⟨h1, h2, r, h3, h4⟩
  · exact .inr ⟨h, h2⟩
  · have e : r = l := (h3.same (m := l) (fun p => by simp)).unique ordsP (Srt.own ordsP (xOk_up h1))
    subst e
    rcases h4 with ⟨h4, _⟩ | ⟨_, h5, h6⟩
    · exact absurd h1.1 (by omega)
    · exact .inl ⟨h5, h6, h1⟩
theorem MgP.swap {l m x y : List Pl} {c d : Nat} (h : MgP l m x c) (g : MgP m l y d) (hl : xOk l) (hm : xOk m) : x = y ∧ c = d := by
  rcases h with ⟨h, _⟩ | ⟨_, _, r, h3, h4⟩
  · exact absurd ⟨hl, hm⟩ h
  · rcases g with ⟨g, _⟩ | ⟨_, _, s, g3, g4⟩
    · exact absurd ⟨hm, hl⟩ g
    · have e := h3.unique ordsP g3.swap
      subst e
      rcases h4 with ⟨h4, rfl, rfl⟩ | ⟨h4, rfl, rfl⟩ <;> rcases g4 with ⟨g4, rfl, rfl⟩ | ⟨g4, rfl, rfl⟩ <;> first | exact ⟨rfl, rfl⟩ | omega
theorem MgP.assoc {l m n ab bc x y : List Pl} {c d : Nat} (h1 : MgP l m ab 0) (h2 : MgP m n bc 0) (h : MgP ab n x c) (g : MgP l bc y d) : x = y ∧ c = d := by
  obtain ⟨ol, om, s1, oab⟩ := h1.ok
  obtain ⟨_, on, s2, obc⟩ := h2.ok
  rcases h with ⟨h, _⟩ | ⟨_, _, r, h3, h4⟩
  · exact absurd ⟨oab, on⟩ h
  · rcases g with ⟨g, _⟩ | ⟨_, _, s, g3, g4⟩
    · exact absurd ⟨ol, obc⟩ g
    · have e1 := s1.part ordsP h3
      have e2 := s2.part' ordsP g3
      rw [List.append_assoc] at e1
      have e := e1.unique ordsP e2
      subst e
      rcases h4 with ⟨h4, rfl, rfl⟩ | ⟨h4, rfl, rfl⟩ <;> rcases g4 with ⟨g4, rfl, rfl⟩ | ⟨g4, rfl, rfl⟩ <;> first | exact ⟨rfl, rfl⟩ | omega
theorem MgP.sp {x : List Pl} {c : Nat} (h : MgP [spP] [] x c) : x.length = 1 ∧ c = 0 := by
  rcases h with ⟨h, _⟩ | ⟨_, _, r, h3, h4⟩
  · exact absurd ⟨xOk_sp, xOk_nil⟩ h
  · have e : r = [spP] := (h3.same (m := [spP]) (fun p => by simp)).unique ordsP (Srt.own ordsP (by simp))
    subst e
    rcases h4 with ⟨h4, _⟩ | ⟨_, h5, h6⟩
    · simp at h4
    · exact ⟨by rw [h6]; rfl, h5⟩
theorem MgP.bytes {l m x : List Pl} {c : Nat} (h : MgP l m x c) (bl : ∀ p ∈ l, ∀ c ∈ idL p.1, c < 256) (bm : ∀ p ∈ m, ∀ c ∈ idL p.1, c < 256) : ∀ p ∈ x, ∀ c ∈ idL p.1, c < 256 := by
  rcases h with ⟨_, _, rfl⟩ | ⟨_, _, r, h3, ⟨_, _, rfl⟩ | ⟨_, _, rfl⟩⟩
  · simp
  · simp
  · intro p hp
    rcases List.mem_append.1 ((h3.mem p).1 hp).1 with h1 | h1
    · exact bl p h1
    · exact bm p h1
/-- a merge, its results told as a list and a code -/
theorem mergeP_any (a b : Option Addr) (ca cb : Nat) (l m : List Pl) (w : World) (hl : SAt 12 plC w a l) (hm : SAt 12 plC w b m) (nl : l.length ≤ 9223372036854775807) (nm : m.length ≤ 9223372036854775807) (bl : ∀ p ∈ l, ∀ c ∈ idL p.1, c < 256) (bm : ∀ p ∈ m, ∀ c ∈ idL p.1, c < 256) :
    Calls Try.prog 31 #[.slice a l.length ca, .slice b m.length cb] w fun e w' => Below w.heap.size w w' ∧ ∃ (x : List Pl) (y : Option Addr) (k c : Nat), e = .returned (.tuple #[.slice y x.length k, .int .i64 (c : Int)]) ∧ SAt 12 plC w' y x ∧ x.length ≤ 400 ∧ MgP l m x c := by
  refine (merge_any a b ca cb l m w hl hm nl nm bl bm).mono ?_
  rintro e w' ⟨hb, v, c, rfl, h⟩
  obtain ⟨x, y, k, rfl, h1, h2, h3⟩ := h.list
  exact ⟨hb, x, y, k, c, rfl, h1, h2, h3⟩
set_option maxRecDepth 100000 in
set_option maxHeartbeats 4000000 in
theorem indexLattice_any (a b c : Option Addr) (ca cb cc : Nat) (l m n : List Pl) (w : World) (hl : SAt 12 plC w a l) (hm : SAt 12 plC w b m) (hn : SAt 12 plC w c n) (nl : l.length ≤ 9223372036854775807) (nm : m.length ≤ 9223372036854775807) (nn : n.length ≤ 9223372036854775807)
    (bl : ∀ p ∈ l, ∀ c ∈ idL p.1, c < 256) (bm : ∀ p ∈ m, ∀ c ∈ idL p.1, c < 256) (bn : ∀ p ∈ n, ∀ c ∈ idL p.1, c < 256) :
    Calls Try.prog 6 #[.slice a l.length ca, .slice b m.length cb, .slice c n.length cc] w fun e w' => e = .returned (.bool true) ∧ Below w.heap.size w w' := by
  have HL := Lib.hid hl
  have HM := Lib.hid hm
  have HN := Lib.hid hn
  have HBL := Lib.hid bl
  have HBM := Lib.hid bm
  have HBN := Lib.hid bn
  have HSP := Lib.hid fun u => somePlace_lit u
  have HMG := Lib.hid fun x y cx cy (lx ly : List Pl) u h1 h2 h3 h4 h5 h6 => mergeP_any x y cx cy lx ly u h1 h2 h3 h4 h5 h6
  have HM1 := Lib.hid fun (u : World) => mergeP_any (some ⟨u.heap.size, 0, none⟩) none 1 0 [spP] [] _ (sat_sp u) SAt.nil (by decide) (by decide) (by decide) (by simp)
  simp only [List.length_cons, List.length_nil] at HM1
  have HEQ := Lib.hid fun x y cx cy (lx ly : List Pl) u h1 h2 h3 h4 => eqPls_any x y cx cy lx ly u h1 h2 h3 h4
  have HCK := Lib.hid fun x cx (lx : List Pl) u h1 h2 h3 => xcheck_any x cx lx u h1 h2 h3
  clear hl hm hn bl bm bn
  go_enter Try.func6, Try.ntmps6
  go_wp2_with fail
  refine (HSP.out _).mono ?_
  rintro e w1 ⟨rfl, hb1⟩
  have HB1 := Lib.hid hb1
  clear hb1
  go_wp2_with fail
  refine (HM1.out _).mono ?_
  rintro e w2 ⟨hb2, x0, y0, k0, c0, rfl, _, _, hp0⟩
  obtain ⟨e1, rfl⟩ := hp0.sp
  have f0 : ((x0.length : Int) != 1) = false := by rw [e1]; rfl
  have HB2 := Lib.hid (Below.next (HB1.out.alloc HB1.out.size _) hb2 (by have := HB1.out.size; simp; try omega))
  clear hb2 hp0 e1
  go_wp2_with fail
  refine (HMG.out _ _ _ _ _ _ _ (HL.out.below HB2.out) (HL.out.below HB2.out) nl nl HBL.out HBL.out).mono ?_
  rintro e w3 ⟨hb3, x1, y1, k1, c1, rfl, hs1, _, hp1⟩
  have HB3 := Lib.hid (Below.step HB2.out hb3)
  have HS1 := Lib.hid hs1
  have hself := hp1.self
  clear hb3 hs1 hp1
  rcases hself with ⟨rfl, rfl, hxl⟩ | ⟨hc1, rfl⟩
  · have HXL := Lib.hid hxl
    clear hxl
    go_wp2_with fail
    refine (HMG.out _ _ _ _ _ _ _ (HL.out.below HB3.out) (HM.out.below HB3.out) nl nm HBL.out HBM.out).mono ?_
    rintro e w4 ⟨hb4, x2, y2, k2, c2, rfl, hs2, n2, hp2⟩
    have HB4 := Lib.hid (Below.step HB3.out hb4)
    have HS1' := Lib.hid (HS1.out.below hb4)
    have HS2 := Lib.hid hs2
    have HP2 := Lib.hid hp2
    clear hb4 hs2 hp2 HS1
    go_wp2_with fail
    refine (HMG.out _ _ _ _ _ _ _ (HM.out.below HB4.out) (HL.out.below HB4.out) nm nl HBM.out HBL.out).mono ?_
    rintro e w5 ⟨hb5, x3, y3, k3, c3, rfl, hs3, n3, hp3⟩
    have HB5 := Lib.hid (Below.step HB4.out hb5)
    have HS1 := Lib.hid (HS1'.out.below hb5)
    have HS2' := Lib.hid (HS2.out.below hb5)
    have HS3 := Lib.hid hs3
    have HP3 := Lib.hid hp3
    clear hb5 hs3 hp3 HS1' HS2
    go_wp2_with fail
    refine (HEQ.out _ _ _ _ _ _ _ HS1.out (HL.out.below HB5.out) nl nl).mono ?_
    rintro e w6 ⟨⟨r, rfl, hr⟩, hb6⟩
    obtain rfl : r = true := hr.2 rfl
    have HB6 := Lib.hid (Below.step HB5.out hb6)
    have HS2 := Lib.hid (HS2'.out.below hb6)
    have HS3' := Lib.hid (HS3.out.below hb6)
    clear hr hb6 HS2' HS3 HS1
    go_wp2_with fail
    refine (HCK.out _ _ _ _ (HM.out.below HB6.out) nm HBM.out).mono ?_
    rintro e w7 ⟨c4, rfl, hc4, hb7⟩
    have HB7 := Lib.hid (Below.step HB6.out hb7)
    have HS2' := Lib.hid (HS2.out.below hb7)
    have HS3 := Lib.hid (HS3'.out.below hb7)
    clear hb7 HS2 HS3'
    have rest : True := trivial
    by_cases hc40 : c4 = 0
    · have HXM := Lib.hid (hc4.1 hc40)
      obtain ⟨rfl, rfl⟩ := HP2.out.swap HP3.out HXL.out HXM.out
      subst hc40
      have f1 : (((c2 : Nat) : Int) != (c2 : Int)) = false := by simp
      clear hc4
      go_wp2_with fail
      refine (HEQ.out _ _ _ _ _ _ _ HS2'.out HS3.out (by omega) (by omega)).mono ?_
      rintro e w8 ⟨⟨r, rfl, hr⟩, hb8⟩
      obtain rfl : r = true := hr.2 rfl
      have HB8 := Lib.hid (Below.step HB7.out hb8)
      have HS2 := Lib.hid (HS2'.out.below hb8)
      clear hr hb8 HS2' HS3 f1
      go_wp2_with fail
      refine (HMG.out _ _ _ _ _ _ _ (HM.out.below HB8.out) (HN.out.below HB8.out) nm nn HBM.out HBN.out).mono ?_
      rintro e w9 ⟨hb9, x4, y4, k4, c5, rfl, hs4, n4, hp4⟩
      have HB9 := Lib.hid (Below.step HB8.out hb9)
      have HS2' := Lib.hid (HS2.out.below hb9)
      have HS4 := Lib.hid hs4
      have HP4 := Lib.hid hp4
      clear hb9 hs4 hp4 HS2
      by_cases hc20 : c2 = 0
      · subst hc20
        by_cases hc50 : c5 = 0
        · subst hc50
          have HX2 := Lib.hid HP2.out.ok.2.2.2
          have HBX2 := Lib.hid (HP2.out.bytes HBL.out HBM.out)
          have HBX4 := Lib.hid (HP4.out.bytes HBM.out HBN.out)
          go_wp2_with fail
          refine (HMG.out _ _ _ _ _ _ _ HS2'.out (HN.out.below HB9.out) (by omega) nn HBX2.out HBN.out).mono ?_
          rintro e w10 ⟨hb10, x5, y5, k5, c6, rfl, hs5, n5, hp5⟩
          have HB10 := Lib.hid (Below.step HB9.out hb10)
          have HS2 := Lib.hid (HS2'.out.below hb10)
          have HS4' := Lib.hid (HS4.out.below hb10)
          have HS5 := Lib.hid hs5
          have HP5 := Lib.hid hp5
          clear hb10 hs5 hp5 HS2' HS4
          go_wp2_with fail
          refine (HMG.out _ _ _ _ _ _ _ (HL.out.below HB10.out) HS4'.out nl (by omega) HBL.out HBX4.out).mono ?_
          rintro e w11 ⟨hb11, x6, y6, k6, c7, rfl, hs6, n6, hp6⟩
          have HB11 := Lib.hid (Below.step HB10.out hb11)
          have HS2' := Lib.hid (HS2.out.below hb11)
          have HS5' := Lib.hid (HS5.out.below hb11)
          have HS6 := Lib.hid hs6
          obtain ⟨rfl, rfl⟩ := HP2.out.assoc HP4.out HP5.out hp6
          have f2 : (((c6 : Nat) : Int) == (c6 : Int)) = true := by simp
          clear hb11 hs6 hp6 HS2 HS5 HS4'
          go_wp2_with fail
          refine (HEQ.out _ _ _ _ _ _ _ HS5'.out HS6.out (by omega) (by omega)).mono ?_
          rintro e w12 ⟨⟨r, rfl, hr⟩, hb12⟩
          obtain rfl : r = true := hr.2 rfl
          have HB12 := Lib.hid (Below.step HB11.out hb12)
          have HS2 := Lib.hid (HS2'.out.below hb12)
          clear hr hb12 HS2' HS5' HS6
          go_wp2_with fail
          refine (HCK.out _ _ _ _ HS2.out (by omega) HBX2.out).mono ?_
          rintro e w13 ⟨c8, rfl, hc8, hb13⟩
          obtain rfl : c8 = 0 := hc8.2 HX2.out
          have HB13 := Lib.hid (Below.step HB12.out hb13)
          clear hc8 hb13 f2
          go_wp2_with fail
          go_ret
          exact ⟨rfl, HB13.out⟩
        · have f3 : (((c5 : Nat) : Int) != 0) = true := by simpa using hc50
          clear hc50
          go_wp2_with fail
          go_ret
          exact ⟨rfl, HB9.out⟩
      · have f3 : (((c2 : Nat) : Int) != 0) = true := by simpa using hc20
        clear hc20
        go_wp2_with fail
        go_ret
        exact ⟨rfl, HB9.out⟩
    · have HXM : Hid (¬ xOk m) := fun h => hc40 (hc4.2 h)
      have f1 : (((c4 : Nat) : Int) == 0) = false := by simpa using hc40
      have HS2 := HS2'
      have HB8 := HB7
      clear hc4 hc40 HS2' HS3 HB7
      have HC2 : Hid (c2 ≠ 0) := fun h => by
        have h2 := HP2.out
        rw [h] at h2
        exact HXM.out h2.ok.2.1
      go_wp2_with fail
      refine (HMG.out _ _ _ _ _ _ _ (HM.out.below HB8.out) (HN.out.below HB8.out) nm nn HBM.out HBN.out).mono ?_
      rintro e w9 ⟨hb9, x4, y4, k4, c5, rfl, hs4, n4, hp4⟩
      have HB9 := Lib.hid (Below.step HB8.out hb9)
      have f3 : (((c2 : Nat) : Int) != 0) = true := by simpa using HC2.out
      clear hb9 hs4 hp4
      go_wp2_with fail
      go_ret
      exact ⟨rfl, HB9.out⟩
  · have f1 : (((c1 : Nat) : Int) != 0) = true := by simpa using hc1
    clear hc1
    go_wp2_with fail
    go_ret
    exact ⟨rfl, HB3.out⟩
end Go.Proofs.Ytinjnclpiiohcaa
