/- Joined: WalkPathP, Rest, WalkPathW. -/
import Derived.Test.YtbfoonfbhebhfaaGreatDoorGoI
import Derived.Test.YtbfoonfbhebhfaaGreatDoorGnB
import Derived.Test.YtbfoonfbhebhfaaGreatDoorRows
import Derived.Test.YtbfoonfbhebhfaaGreatDoorGoJ
import Derived.Test.YtbfoonfbhebhfaaGreatDoorGoK
import Derived.Test.YtbfoonfbhebhfaaGreatDoorGnU
namespace Go.Proofs.YtbfoonfbhebhfaaGreatDoor
open Go.RowKit Plain Go.Maps
set_option linter.unusedVariables false
set_option linter.unusedSimpArgs false
def setB (x : It) (s : ByteArray) : It := (x.1, x.2.1, x.2.2.1, x.2.2.2.1, s)
theorem upd_set {w : List It} (hw : Tre w) (i : Nat) (hi : i < w.length) (s : ByteArray) : w.set i (setB w[i] s) = w.map (updW (nk w[i].1) s) := by
  apply List.ext_getElem (by simp)
  intro j h1 h2
  rw [List.getElem_set, List.getElem_map]
  have hj : j < w.length := by simpa using h1
  by_cases e : i = j
  · subst e
    rw [if_pos rfl]
    unfold updW
    rw [if_pos rfl]
    rfl
  · rw [if_neg e]
    unfold updW
    rw [if_neg]
    intro e2
    have hn : (w.map (ki nk (Prod.fst : It → ByteArray))).Nodup := hw.srt.nodup
    exact e (nodup_at hn (i := i) (j := j) (by simpa using hi) (by simpa using hj) (by rw [List.getElem_map, List.getElem_map]; exact e2.symm))
theorem tm_set {w : List It} (ht : TmOk w) (i : Nat) (hi : i < w.length) (s : ByteArray) : TmOk (w.set i (setB w[i] s)) := by
  intro x hx
  rcases List.mem_or_eq_of_mem_set hx with h | h
  · exact ht x h
  · rw [h]
    exact ht w[i] (List.getElem_mem hi)
theorem sz_set {w : List It} {n : Nat} (ht : ∀ x ∈ w, x.1.size ≤ n) (i : Nat) (hi : i < w.length) (s : ByteArray) : ∀ x ∈ w.set i (setB w[i] s), x.1.size ≤ n := by
  intro x hx
  rcases List.mem_or_eq_of_mem_set hx with h | h
  · exact ht x h
  · rw [h]
    exact ht w[i] (List.getElem_mem hi)
theorem flat_byte : ∀ (l : List It) (i : Nat) (h : i < l.length) (s : ByteArray), (l.flatMap iC).take (i * 5 + 4) ++ ([Value.string s] ++ (l.flatMap iC).drop (i * 5 + 4 + 1)) = (l.set i (setB l[i] s)).flatMap iC
  | x :: l, 0, _, s => by simp [iC, setB]
  | x :: l, i + 1, h, s => by
    have ih := flat_byte l i (by simpa using h) s
    have e1 : (i + 1) * 5 + 4 = (iC x).length + (i * 5 + 4) := by rw [iC_length]; omega
    have e2 : (i + 1) * 5 + 4 + 1 = (iC x).length + (i * 5 + 4 + 1) := by rw [iC_length]; omega
    rw [List.flatMap_cons, e2, e1, List.take_length_add_append, List.drop_length_add_append, List.set_cons_succ, List.flatMap_cons]
    simp only [List.getElem_cons_succ]
    rw [← ih, List.append_assoc]
theorem nwL_len (l m : List Bl) (t : Bool) : (nwL l m t).length ≤ m.length := List.length_filter_le _ _
theorem nwL_in {l m : List Bl} {b : Bl} (h : b ∈ l) (t : Bool) : (nwL l (m ++ [b]) t).length = (nwL l m t).length := by
  rw [nwL_snoc, if_neg (fun g => g.1 h), List.append_nil]
theorem nwL_yes {l m : List Bl} {b : Bl} (h : b ∉ l) {t : Bool} (ht : decide (b.1 = 2) = t) : (nwL l (m ++ [b]) t).length = (nwL l m t).length + 1 := by
  rw [nwL_snoc, if_pos ⟨h, ht⟩, List.length_append]; rfl
theorem nwL_no {l m : List Bl} {b : Bl} {t : Bool} (ht : decide (b.1 = 2) ≠ t) : (nwL l (m ++ [b]) t).length = (nwL l m t).length := by
  rw [nwL_snoc, if_neg (fun g => ht g.2), List.append_nil]
theorem path_law2 {y : Wy} {w : List It} {i : Nat} (hi : i < w.length) {s : ByteArray} {l m : List Bl} {id id' : List Nat} (h : Planted y w l id) (g : Planted y (w.set i (setB w[i] s)) m id') (hk : w[i].2.1 = 1) : (nwL l m true).length ≤ (nk w[i].1).length ∧ (nwL l m false).length ≤ s.size / 16 + 1 := by
  obtain ⟨hw, _⟩ := tre_of h.2.1
  rw [upd_set hw i hi s] at g
  obtain ⟨_, h2, _⟩ := icode_facts (hw.ok _ (List.getElem_mem hi))
  refine path_law h g h2 fun x hx e => ?_
  have hn : (w.map (ki nk (Prod.fst : It → ByteArray))).Nodup := hw.srt.nodup
  obtain ⟨j, hj, rfl⟩ := List.mem_iff_getElem.1 hx
  have := nodup_at hn (i := j) (j := i) (by simpa using hj) (by simpa using hi) (by rw [List.getElem_map, List.getElem_map]; exact e)
  subst this
  exact hk
end Go.Proofs.YtbfoonfbhebhfaaGreatDoor
namespace Go.Proofs.YtbfoonfbhebhfaaGreatDoor
open Go.RowKit
set_option maxRecDepth 100000 in
theorem rest_any (a n : Int) (w : World) (hn : 0 < n) (hn2 : n < 4611686018427387904) :
    Calls Tryz.prog 19 #[.int .i64 a, .int .i64 n] w fun e w' => (∃ r : Nat, (r : Int) < n ∧ e = .returned (.int .i64 (r : Int))) ∧ w' = w := by
  have h1 := Int.tmod_lt_of_pos a hn
  have h2 := Int.lt_tmod_of_pos a hn
  obtain ⟨t, ht⟩ : ∃ t, a.tmod n = t := ⟨_, rfl⟩
  rw [ht] at h1 h2
  have h3 := Int.tmod_lt_of_pos (t + n) hn
  have h4 : 0 ≤ (t + n).tmod n := Int.tmod_nonneg _ (by omega)
  obtain ⟨r, hr⟩ : ∃ r : Nat, (t + n).tmod n = (r : Int) := ⟨((t + n).tmod n).toNat, by omega⟩
  rw [hr] at h3 h4
  have hw : IntKind.i64.wrap (t + n) = t + n := wraps_i64 _ (by omega) (by omega)
  go_enter Tryz.func19, Tryz.ntmps19
  go_wp2
  go_ret
  exact ⟨⟨r, h3, rfl⟩, rfl⟩
end Go.Proofs.YtbfoonfbhebhfaaGreatDoor
namespace Go.Proofs.YtbfoonfbhebhfaaGreatDoor
open Go.RowKit Plain Go.Maps Go.ChangeMaps
set_option linter.unusedVariables false
set_option linter.unusedSimpArgs false
theorem flat_len5 : ∀ l : List It, (l.flatMap iC).length = l.length * 5
  | [] => rfl
  | x :: l => by rw [List.flatMap_cons, List.length_append, flat_len5 l, iC_length, List.length_cons]; omega
set_option maxRecDepth 100000 in
set_option maxHeartbeats 2000000 in
theorem walkPath_any (fx mn mx bt : Int) (aa : Option Addr) (ca : Nat) (la : List It) (k : Int) (s : ByteArray) (m : Int) (w : World) (ha : SAt 5 iC w aa la) (za : la.length ≤ 9223372036854775807) (sa : ∀ x ∈ la, x.1.size ≤ 1048576) (ta : TmOk la) (hm : MaxL m w) (hT : Tabs w) (hMC : MaxC w) (hs : s.size ≤ 1048576) :
    Calls Tryz.prog 6 #[.agg #[.int .i64 fx, .int .i64 mn, .int .i64 mx, .int .i64 bt], .slice aa la.length ca, .int .i64 k, .string s] w fun e w' => e = .returned (.bool true) ∧ Below w.heap.size w w' := by
  have hb0 := (Below.refl w.heap.size w).alloc (Nat.le_refl _) (.cells #[.int .i64 fx, .int .i64 mn, .int .i64 mx, .int .i64 bt] 25)
  have hr0 := heap_alloc_new w (.cells #[.int .i64 fx, .int .i64 mn, .int .i64 mx, .int .i64 bt] 25)
  have HB0 := Lib.hid hb0
  have HR0 := Lib.hid hr0
  have HA := Lib.hid ha
  have HSA := Lib.hid sa
  have HTA := Lib.hid ta
  have HM := Lib.hid hm
  have HT := Lib.hid hT
  have HMC := Lib.hid hMC
  have HSS := Lib.hid hs
  clear hb0 hr0 ha sa ta hm hT hMC hs
  go_enter Tryz.func6, Tryz.ntmps6
  go_wp2_with fail
  refine (walked_any m _ (HM.out.below HB0.out) (HT.out.below HB0.out) (HMC.out.below HB0.out)).mono ?_
  rintro e w1 ⟨rfl, hb1⟩
  have hr1 := (hb1.block _ (lt_of_block HR0.out)).trans HR0.out
  have HR1 := Lib.hid hr1
  have HB1 := Lib.hid (HB0.out.trans (hb1.mono HB0.out.size))
  have b0 := cell_of_row _ _ 0 _ _ _ hr1
  have b1 := cell_of_row _ _ 1 _ _ _ hr1
  have b2 := cell_of_row _ _ 2 _ _ _ hr1
  have b3 := cell_of_row _ _ 3 _ _ _ hr1
  simp only [List.getElem?_toArray, List.getElem?_cons_zero, List.getElem?_cons_succ] at b0 b1 b2 b3
  clear hb1 hr1 HR0 HB0
  go_wp2_with fail
  clear b0 b1 b2 b3
  refine (plantU fx mn mx bt aa ca la m w1 (HA.out.below HB1.out) za HSA.out HTA.out (HM.out.below HB1.out) (HT.out.below HB1.out) (HMC.out.below HB1.out)).mono ?_
  rintro e w2 ⟨hb2, l, i0, i1, i2, i3, i4, i5, i6, i7, oa, oc, c, rfl, hs2, hown2, hl2, hc⟩
  have HB2 := Lib.hid (HB1.out.trans (hb2.mono HB1.out.size))
  have hba := (Below.refl w2.heap.size w2).alloc (Nat.le_refl _) (.cells #[.int .u8 (i0 : Int), .int .u8 (i1 : Int), .int .u8 (i2 : Int), .int .u8 (i3 : Int), .int .u8 (i4 : Int), .int .u8 (i5 : Int), .int .u8 (i6 : Int), .int .u8 (i7 : Int)] 30)
  have HB3 := Lib.hid (HB2.out.trans (hba.mono HB2.out.size))
  have HS3 := Lib.hid (hs2.below hba)
  have hr2 := (hb2.block _ (lt_of_block HR1.out)).trans HR1.out
  have HR3 := Lib.hid ((hba.block _ (lt_of_block hr2)).trans hr2)
  have HC := Lib.hid hc
  have HL2 := Lib.hid hl2
  clear hb2 hba hs2 hown2 hc hl2 hr2 HR1
  by_cases hc0 : c = 0
  rotate_left
  · have c1 : (c != 0) = true := by simpa using hc0
    have c2 : (c == 0) = false := by simpa using hc0
    obtain ⟨_, h1, h3, _⟩ := HC.out.resolve_left (fun h => hc0 h.1)
    have l0 : (l.length : Int) = 0 := by rw [h1]; rfl
    clear hc0 h1 h3 HC
    go_wp2_with fail
    go_ret
    exact ⟨rfl, HB3.out⟩
  subst hc0
  have HPA := Lib.hid (HC.out.resolve_right (fun h => h.1 rfl)).2
  clear HC
  by_cases hla : la.length = 0
  · have l0 : (la.length : Int) = 0 := by omega
    clear hla
    go_wp2_with fail
    go_ret
    exact ⟨rfl, HB3.out⟩
  have hla100 : la.length ≤ 100 := HPA.out.len
  have l0 : ((la.length : Int) == 0) = false := by simpa using hla
  have HLA : Hid (0 < la.length) := Lib.hid (by omega)
  have HLH := Lib.hid hla100
  have HRS := Lib.hid fun u => rest_any k (la.length : Int) u (by omega) (by omega)
  clear hla hla100
  go_wp2_with fail
  generalize hw3 : w2.alloc (.cells #[.int .u8 (i0 : Int), .int .u8 (i1 : Int), .int .u8 (i2 : Int), .int .u8 (i3 : Int), .int .u8 (i4 : Int), .int .u8 (i5 : Int), .int .u8 (i6 : Int), .int .u8 (i7 : Int)] 30) = w3 at *
  clear hw3
  refine (HRS.out _).mono ?_
  rintro e wz ⟨⟨r, hr, rfl⟩, hwz⟩
  rw [hwz]
  clear hwz wz
  have hlt : r < la.length := by omega
  have r0 : (0 : Int) ≤ (r : Int) := Int.natCast_nonneg _
  have HLT := Lib.hid hlt
  obtain ⟨g, off, rfl, hg, hrx⟩ := (HA.out.below HB3.out) r hlt
  obtain ⟨x, hx⟩ : ∃ x : It, la[r]'HLT.out = x := ⟨_, rfl⟩
  replace hrx : w3.rangeAt g (off + r * 5) (iC x) := by rw [← hx]; exact hrx
  have HX := Lib.hid hx
  have q0 := hrx 0 _ rfl
  have q1 := hrx 1 _ rfl
  simp only [Nat.add_zero] at q0
  have HXS : Hid (x.1.size < 4294967281) := Lib.hid (by have := HSA.out x (hx ▸ List.getElem_mem hlt); omega)
  have HRX := Lib.hid hrx
  have HGL := Lib.hid hg
  clear hlt hx hrx HRS hg
  by_cases hk : x.2.1 = 1
  rotate_left
  · have k1 : (x.2.1 != 1) = true := by simpa using hk
    clear hk
    go_wp2_with fail
    go_ret
    exact ⟨rfl, HB3.out⟩
  have k1 : (x.2.1 != 1) = false := by simpa using hk
  have HK := Lib.hid hk
  clear hk
  go_wp2_with fail
  clear q0 q1
  refine (cloneIt_any _ ca la w3 (HA.out.below HB3.out) (by have := HLH.out; omega)).mono ?_
  rintro e w6 ⟨hb6, a6, c6, rfl, how6⟩
  obtain ⟨g6, rfl⟩ : ∃ g6, a6 = some ⟨g6, 0, none⟩ := by
    rcases how6.2 with ⟨_, h0⟩ | ⟨g6, c', cur, h0, _⟩
    · exact absurd h0 (by have := HLA.out; omega)
    · injection h0 with h1; exact ⟨g6, h1⟩
  obtain ⟨hbg, hgw, hnc, hc63, cur, hcur, hcs, htk⟩ := own_block how6
  have hs6 := own_satW iC_length how6
  obtain ⟨g', off', e', _, hrr⟩ := hs6 r HLT.out
  injection e' with e'
  injection e' with e1 e2 _
  subst e1 e2
  have q4 := hrr 4 _ rfl
  simp only [Nat.zero_add] at q4
  have z4 := frozen_of_row _ g6 (r * 5 + 4) _ _ hcur
  have hflen : (la.flatMap iC).length = la.length * 5 := flat_len5 la
  have hown7 := own_setCells how6 (r * 5 + 4) [.string s] (by rw [hflen]; have := HLT.out; simp only [List.length_cons, List.length_nil]; omega)
  have hown7' : (w6.setCell ⟨g6, r * 5 + 4, none⟩ (.string s)).ownsRow w3.heap.size 40 5 (.slice (some ⟨g6, 0, none⟩) la.length c6) la.length ((la.set r (setB (la[r]'HLT.out) s)).flatMap iC) := by
    rw [← flat_byte la r HLT.out s]
    exact hown7
  have hb7 : Below w3.heap.size w3 (w6.setCell ⟨g6, r * 5 + 4, none⟩ (.string s)) := below_setCells hbg [.string s] (r * 5 + 4) hb6
  have HB7 := Lib.hid hb7
  obtain ⟨lv, hlv⟩ : ∃ lv, la.set r (setB (la[r]'HLT.out) s) = lv := ⟨_, rfl⟩
  have hlen : lv.length = la.length := by rw [← hlv, List.length_set]
  rw [hlv] at hown7'
  have hs7 : SAt 5 iC (w6.setCell ⟨g6, r * 5 + 4, none⟩ (.string s)) (some ⟨g6, 0, none⟩) lv := own_satW (base := w3.heap.size) (T := 40) (cc := c6) iC_length (by rw [hlen]; exact hown7')
  have HS7 := Lib.hid hs7
  have HLV := Lib.hid hlv
  have HLEN := Lib.hid hlen
  have hr7 := (hb7.block _ (lt_of_block HR3.out)).trans HR3.out
  have HBW7 := Lib.hid (HB3.out.trans (hb7.mono HB3.out.size))
  have b0 := cell_of_row _ _ 0 _ _ _ hr7
  have b1 := cell_of_row _ _ 1 _ _ _ hr7
  have b2 := cell_of_row _ _ 2 _ _ _ hr7
  have b3 := cell_of_row _ _ 3 _ _ _ hr7
  simp only [List.getElem?_toArray, List.getElem?_cons_zero, List.getElem?_cons_succ] at b0 b1 b2 b3
  clear hb6 hbg hgw hnc hc63 hcur hcs htk hs6 hrr hown7 hown7' hb7 hs7 hlv hlen how6 hr7 hflen
  go_wp2_with fail
  generalize hw7 : w6.setCell ⟨g6, r * 5 + 4, none⟩ (.string s) = w7 at *
  clear hw7 q4 z4 b0 b1 b2 b3
  have hpl := plantU fx mn mx bt (some ⟨g6, 0, none⟩) c6 lv m w7 HS7.out (by rw [HLEN.out]; exact za) (by rw [← HLV.out]; exact sz_set HSA.out r HLT.out s) (by rw [← HLV.out]; exact tm_set HTA.out r HLT.out s) (HM.out.below HBW7.out) (HT.out.below HBW7.out) (HMC.out.below HBW7.out)
  rw [HLEN.out] at hpl
  refine hpl.mono ?_
  rintro e w8 ⟨hb8, q, j0, j1, j2, j3, j4, j5, j6, j7, oq, oqc, f, rfl, hs8, hown8, hl8, hf⟩
  have HB8 := Lib.hid (HBW7.out.trans (hb8.mono HBW7.out.size))
  have HX8 := Lib.hid (HB7.out.trans (hb8.mono HB7.out.size))
  have hba := (Below.refl w8.heap.size w8).alloc (Nat.le_refl _) (.cells #[.int .u8 (j0 : Int), .int .u8 (j1 : Int), .int .u8 (j2 : Int), .int .u8 (j3 : Int), .int .u8 (j4 : Int), .int .u8 (j5 : Int), .int .u8 (j6 : Int), .int .u8 (j7 : Int)] 30)
  have HB9 := Lib.hid (HB8.out.trans (hba.mono HB8.out.size))
  have HX9 := Lib.hid (HX8.out.trans (hba.mono HX8.out.size))
  have HQ9 := Lib.hid (hs8.below hba)
  have HF := Lib.hid hf
  have HLQ := Lib.hid hl8
  clear hb8 hba hs8 hown8 hf hl8 hpl
  by_cases hf0 : f = 0
  rotate_left
  · have c1 : (f != 0) = true := by simpa using hf0
    clear hf0
    go_wp2_with fail
    go_ret
    exact ⟨rfl, HB9.out⟩
  subst hf0
  have HPB := Lib.hid (HF.out.resolve_right (fun h => h.1 rfl)).2
  clear HF
  have hrx9 : (w8.alloc (.cells #[.int .u8 (j0 : Int), .int .u8 (j1 : Int), .int .u8 (j2 : Int), .int .u8 (j3 : Int), .int .u8 (j4 : Int), .int .u8 (j5 : Int), .int .u8 (j6 : Int), .int .u8 (j7 : Int)] 30)).cell? ⟨g, off + r * 5, none⟩ = some (.string x.1) := (HX9.out.cell (p := ⟨g, off + r * 5, none⟩) HGL.out).trans (HRX.out 0 _ rfl)
  go_wp2_with fail
  generalize hw9 : w8.alloc (.cells #[.int .u8 (j0 : Int), .int .u8 (j1 : Int), .int .u8 (j2 : Int), .int .u8 (j3 : Int), .int .u8 (j4 : Int), .int .u8 (j5 : Int), .int .u8 (j6 : Int), .int .u8 (j7 : Int)] 30) = w9 at *
  clear hw9 hrx9
  refine (split_u x.1 m w9 HXS.out (HM.out.below HB9.out) (HT.out.below HB9.out)).mono ?_
  rintro e wA ⟨sa, sc, L, rfl, hbA, _, htl, hL8⟩
  have HBA := Lib.hid (HB9.out.trans (hbA.mono HB9.out.size))
  have HQA := Lib.hid (HQ9.out.below hbA)
  have HSA3 := Lib.hid (HS3.out.below (HX9.out.trans (hbA.mono HX9.out.size)))
  have hlaw := path_law2 (y := (fx, mn, mx, bt)) HLT.out (s := s) HPA.out (by rw [HLV.out]; exact HPB.out) (by rw [HX.out]; exact HK.out)
  rw [HX.out] at hlaw
  have hll : L.length = (nk x.1).length := by rw [← htl]; simp [tl]
  have HLAW : Hid ((nwL l q true).length ≤ L.length ∧ (nwL l q false).length ≤ s.size / 16 + 1) := Lib.hid (by rw [hll]; exact hlaw)
  have hq4 : (q.length : Int) ≤ 40000 := by have := HLQ.out; omega
  clear hbA htl hlaw hll HPB HPA
  go_wp2_with fail
  go_loopw [18, 19, 82] (fun dv pv iv wr => ∃ i : Nat, i ≤ q.length ∧ iv = .int .i64 (i : Int) ∧ (∃ d p : Nat, dv = .int .i64 (d : Int) ∧ pv = .int .i64 (p : Int) ∧ d ≤ i ∧ p ≤ i ∧ Hid ((nwL l (q.take i) true).length = d ∧ (nwL l (q.take i) false).length = p)) ∧ Hid (Below wA.heap.size wA wr)) (fun _ _ iv _ => q.length - (intOf iv).toNat)
  case atStart => exact ⟨0, Nat.zero_le _, rfl, ⟨0, 0, rfl, rfl, Nat.le_refl _, Nat.le_refl _, Lib.hid ⟨rfl, rfl⟩⟩, Lib.hid (Below.refl _ _)⟩
  case round =>
    obtain ⟨i, hi, rfl, ⟨d, p, rfl, rfl, hd, hp, HN⟩, HBR⟩ := hrel
    by_cases hlt : i < q.length
    · have m1 : (i : Int) < (q.length : Int) := by omega
      obtain ⟨gq, offq, rfl, hgq, hrq⟩ := (HQA.out.below HBR.out) i hlt
      have htk : q.take (i + 1) = q.take i ++ [q[i]] := List.take_succ_eq_append_getElem hlt
      obtain ⟨⟨bk, bs⟩, hb⟩ : ∃ b : Bl, q[i] = b := ⟨_, rfl⟩
      rw [hb] at hrq htk
      have HTK := Lib.hid htk
      have y0 : wr.cell? ⟨gq, offq + i * 2, none⟩ = some (.int .i64 bk) := hrq 0 _ rfl
      have y1 : wr.cell? ⟨gq, offq + i * 2 + 1, none⟩ = some (.string bs) := hrq 1 _ rfl
      have HLI := Lib.hid hlt
      have hna := heap_alloc_new wr (.cells #[.int .i64 bk, .string bs] 37)
      have HNA := Lib.hid hna
      have hba := (Below.refl wr.heap.size wr).alloc (Nat.le_refl _) (.cells #[.int .i64 bk, .string bs] 37)
      have HBN := Lib.hid (HBR.out.trans (hba.mono HBR.out.size))
      have a0 := cell_of_row _ _ 0 _ _ _ hna
      have a1 := cell_of_row _ _ 1 _ _ _ hna
      simp only [List.getElem?_toArray, List.getElem?_cons_succ, List.getElem?_cons_zero] at a0 a1
      have HCT := Lib.hid (containsBl_any oa oc l (bk, bs) (wr.alloc (.cells #[.int .i64 bk, .string bs] 37)) (HSA3.out.below HBN.out) (by have := HL2.out; omega))
      clear hb htk hrq hgq hna hba hlt
      go_wp2_with fail
      refine HCT.out.mono ?_
      rintro e wB ⟨⟨t, rfl, ht⟩, hbB⟩
      have HBB := Lib.hid (HBN.out.trans (hbB.mono HBN.out.size))
      have hnb := (hbB.block _ (lt_of_block HNA.out)).trans HNA.out
      have b0 := cell_of_row _ _ 0 _ _ _ hnb
      have b1 := cell_of_row _ _ 1 _ _ _ hnb
      simp only [List.getElem?_toArray, List.getElem?_cons_succ, List.getElem?_cons_zero] at b0 b1
      clear hbB hnb HCT y0 y1 a0 a1
      cases t with
      | true =>
        have hin : (bk, bs) ∈ l := ht.1 rfl
        have HN2 : Hid ((nwL l (q.take (i + 1)) true).length = d ∧ (nwL l (q.take (i + 1)) false).length = p) := Lib.hid (by rw [HTK.out, nwL_in hin, nwL_in hin]; exact HN.out)
        clear ht hin
        go_wp2_with fail
        go_roundw
        case rel => exact ⟨i + 1, HLI.out, by go_num, ⟨d, p, rfl, rfl, by omega, by omega, HN2⟩, HBB⟩
        case measure => simp [intOf]; have := HLI.out; omega
      | false =>
        have hin : (bk, bs) ∉ l := fun h => by have := ht.2 h; cases this
        by_cases hk2 : bk = 2
        · have k2 : (bk == 2) = true := by simpa using hk2
          have HN2 : Hid ((nwL l (q.take (i + 1)) true).length = d + 1 ∧ (nwL l (q.take (i + 1)) false).length = p) := Lib.hid (by
            have hd : decide ((bk, bs).1 = 2) = true := decide_eq_true hk2
            rw [HTK.out, nwL_yes hin hd, nwL_no (by rw [hd]; decide)]
            exact ⟨by rw [HN.out.1], HN.out.2⟩)
          clear ht hin hk2
          go_wp2_with fail
          go_roundw
          case rel => exact ⟨i + 1, HLI.out, by go_num, ⟨d + 1, p, by go_num, rfl, by omega, by omega, HN2⟩, HBB⟩
          case measure => simp [intOf]; have := HLI.out; omega
        · have k2 : (bk == 2) = false := by simpa using hk2
          have HN2 : Hid ((nwL l (q.take (i + 1)) true).length = d ∧ (nwL l (q.take (i + 1)) false).length = p + 1) := Lib.hid (by
            have hd : decide ((bk, bs).1 = 2) = false := decide_eq_false hk2
            rw [HTK.out, nwL_yes hin hd, nwL_no (by rw [hd]; decide)]
            exact ⟨HN.out.1, by rw [HN.out.2]⟩)
          clear ht hin hk2
          go_wp2_with fail
          go_roundw
          case rel => exact ⟨i + 1, HLI.out, by go_num, ⟨d, p + 1, rfl, by go_num, by omega, by omega, HN2⟩, HBB⟩
          case measure => simp [intOf]; have := HLI.out; omega
    · have m1 : ¬ (i : Int) < (q.length : Int) := by omega
      obtain rfl : i = q.length := by omega
      have hta : q.take q.length = q := List.take_of_length_le (Nat.le_refl _)
      rw [hta] at HN
      have hl := HLAW.out
      rw [HN.out.1, HN.out.2] at hl
      have f1 : (d : Int) ≤ (L.length : Int) := by omega
      have f3 : (s.size : Int).tdiv 16 = ((s.size / 16 : Nat) : Int) := rfl
      have f2 : (p : Int) ≤ ((s.size / 16 : Nat) : Int) + 1 := by omega
      have f6 : (p : Int) ≤ (s.size : Int) / 16 + 1 := by omega
      have f4 : ((s.size / 16 : Nat) : Int) ≤ 65536 := by have := HSS.out; omega
      have f5 : (0 : Int) ≤ ((s.size / 16 : Nat) : Int) := Int.natCast_nonneg _
      have HFIN := Lib.hid (HBA.out.trans (HBR.out.mono HBA.out.size))
      clear hl
      go_wp2_with fail
      go_ret
      exact ⟨rfl, HFIN.out⟩
end Go.Proofs.YtbfoonfbhebhfaaGreatDoor
