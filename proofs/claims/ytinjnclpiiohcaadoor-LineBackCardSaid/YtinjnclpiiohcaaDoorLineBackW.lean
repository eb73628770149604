/- LineBack: its walk. -/
import Derived.Test.YtinjnclpiiohcaaDoorLineRead
import Derived.Test.YtinjnclpiiohcaaDoorRest
import Derived.Laws.StructEq
namespace Go.Proofs.YtinjnclpiiohcaaDoor
open Go.RowKit Plain
/-- records that differ in one byte have different digests -/
theorem idf_apart (l : List Nat) (j v : Nat) (hl : ∀ c ∈ l, c < 256) (hj : j < l.length) (hv : v < 256) (hne : l.getD j 0 ≠ v) (h4 : l.length ≤ 4200) : idf (l.set j v) ≠ idf l := by
  intro e
  have e1 := be8_inj (hsum_lt _) (hsum_lt _) e
  have e2 := hsum_apart (j / 8) (l.set j v) l (fun c hc => by
    rcases List.mem_or_eq_of_mem_set hc with h | rfl
    · exact hl c h
    · exact hv) hl (by rw [List.length_set]) (by rw [List.length_set, m64]; omega) (take_set_le _ _ _ _ (by omega)) (drop_set_lt _ _ _ _ (by omega)) e1
  apply hne
  rw [← e2, List.getD_eq_getElem?_getD, List.getElem?_set_self hj]
  rfl
theorem ack_size {s : List Nat} (h : Packs idf (2, 0, strN ⟨#[]⟩) s) : s.length = 12 := by
  obtain ⟨_, b, ⟨a, ha, hb⟩, rfl⟩ := h
  have h0 : Num 0 [0] := ⟨[], ⟨Dig.nil, by decide, rfl⟩, rfl⟩
  have e : a = [0] := ha.unique h0
  subst e
  subst hb
  rw [List.length_append, idf_length]
  rfl
theorem pack_read {p : Pk} {s : ByteArray} {e : Ending} {w0 w : World} (hp : Packs idf p (strN s)) (h : LrEnd w0 s e w) : ∃ (k q : Int) (t : ByteArray), p = (k, q, strN t) ∧ e = .returned (.tuple #[.agg #[.int .i64 k, .int .i64 q, .string t], .int .i64 0]) ∧ Below w0.heap.size w0 w := by
  obtain ⟨⟨k, q, t, h1, _, rfl⟩ | ⟨_, _, _, _, h2⟩, hb⟩ := h
  · exact ⟨k, q, t, hp.inj idf_length h1, rfl, hb⟩
  · exact absurd hp (h2 p)
/-- reading a packet of which one byte was set anew -/
theorem read_changed {p : Pk} {s X : ByteArray} (hp : Packs idf p (strN s)) (ht : ∀ c ∈ p.2.2, c < 256) {j v : Nat} (hj : j < s.size) (hv : v < 256) (hX : strN X = (strN s).set j v) {e : Ending} {w0 w : World} (h : LrEnd w0 X e w) :
    ∃ (a b : Int) (t : ByteArray) (c : Nat), e = .returned (.tuple #[.agg #[.int .i64 a, .int .i64 b, .string t], .int .i64 (c : Int)]) ∧ (c = 6 ↔ (strN s).getD j 0 ≠ v) ∧ Below w0.heap.size w0 w := by
  obtain ⟨h1, hb⟩ := h
  by_cases he : (strN s).getD j 0 = v
  · have hs : X = s := strN_inj (by
      rw [hX]
      exact Classical.byContradiction fun h => by
        have hjl : j < (strN s).length := by rw [strN_length]; exact hj
        apply h
        apply List.ext_getElem (by rw [List.length_set])
        intro i i1 i2
        rw [List.getElem_set]
        split
        · rename_i e; subst e
          rw [← he, List.getD_eq_getElem?_getD, List.getElem?_eq_getElem i2]; rfl
        · rfl)
    subst hs
    rcases h1 with ⟨k, q, t, _, _, rfl⟩ | ⟨_, _, _, _, h2⟩
    · exact ⟨k, q, t, 0, rfl, ⟨fun h => by omega, fun h => absurd he h⟩, hb⟩
    · exact absurd hp (h2 p)
  · have hsz : X.size = s.size := by rw [← strN_length, hX, List.length_set, strN_length]
    have hch : idf ((strN X).take (X.size - 8)) ≠ (strN X).drop (X.size - 8) := by
      obtain ⟨hok, b, hb', hs⟩ := hp
      have h3 := sum_changed (idf := idf) idf_length idf_apart (b := b) (hb'.lt hok ht) (by have := hb'.length hok; omega) (j := j) (v := v) (by rw [← hs, strN_length]; exact hj) hv (by rw [← hs]; exact he)
      rw [← hs, strN_length] at h3
      rw [hX, hsz]
      exact h3
    have h8 : 8 ≤ X.size := by
      have := (hp.split idf_length).1
      rw [strN_length] at this
      omega
    rcases h1 with ⟨k, q, t, h2, _, _⟩ | ⟨c, hc, rfl, h2, _⟩
    · have := (h2.split idf_length).2.2
      rw [strN_length] at this
      exact absurd this hch
    · exact ⟨0, 0, ⟨#[]⟩, c, rfl, ⟨fun _ => he, fun _ => h2.2 ⟨h8, hch⟩⟩, hb⟩
theorem ack_any (w : World) (hm : MaxC w) : Calls Tryd.prog 17 #[.agg #[.int .i64 2, .int .i64 0, .string ⟨#[]⟩]] w fun e w' => ∃ sa : ByteArray, sa.size = 12 ∧ e = .returned (.tuple #[.string sa, .int .i64 0]) ∧ Below w.heap.size w w' := by
  refine (pack_any 2 0 ⟨#[]⟩ (by decide) w hm).mono ?_
  rintro e w' ⟨⟨_, sa, hsa, _, rfl⟩ | ⟨hn, _⟩, hb⟩
  · exact ⟨sa, by have := ack_size hsa; rwa [strN_length] at this, rfl, hb⟩
  · exact absurd ⟨.inr rfl, by decide, by decide, fun _ => rfl, by decide⟩ hn
set_option maxRecDepth 100000 in
set_option maxHeartbeats 4000000 in
theorem lineBack_any (k q : Int) (t s : ByteArray) (ps : Int) (bi : Nat) (w : World) (ht : t.size ≤ 9223372036854775807) (hs : s.size ≤ 9223372036854775806) (hbi : bi < 256) (hm : MaxC w) :
    Calls Tryd.prog 5 #[.agg #[.int .i64 k, .int .i64 q, .string t], .string s, .int .i64 ps, .int .u8 (bi : Int)] w fun e w' => e = .returned (.bool true) ∧ Below w.heap.size w w' := by
  have HM := Lib.hid hm
  have HB0 := Lib.hid ((Below.refl w.heap.size w).alloc (Nat.le_refl _) (.cells #[.int .i64 k, .int .i64 q, .string t] 47))
  have HR0 : Hid ((w.alloc (.cells #[.int .i64 k, .int .i64 q, .string t] 47)).heap[w.heap.size]? = some (.cells #[.int .i64 k, .int .i64 q, .string t] 47 (0, 0))) := heap_alloc_new w _
  have HPK := Lib.hid fun u hu => ack_any u hu
  have HPA := Lib.hid fun u hu => pack_any k q t ht u hu
  have HRS := Lib.hid fun u hu => lread_any s hs u hu
  have HRD := Lib.hid fun x hx u hu => lread_any x hx u hu
  clear hm ht
  go_enter Tryd.func5, Tryd.ntmps5
  go_wp2_with fail
  refine (HPK.out _ (HM.out.below HB0.out)).mono ?_
  rintro e w1 ⟨sa, h12, rfl, hb1⟩
  have HB1 := Lib.hid (Below.step HB0.out hb1)
  have HR1 := Lib.hid ((hb1.block _ (by simp)).trans HR0.out)
  have y0 := cell_of_row _ _ 0 _ _ _ HR1.out
  have y1 := cell_of_row _ _ 1 _ _ _ HR1.out
  have y2 := cell_of_row _ _ 2 _ _ _ HR1.out
  simp only [List.getElem?_toArray, List.getElem?_cons_zero, List.getElem?_cons_succ] at y0 y1 y2
  have f12 : ((sa.size : Int) != 12) = false := by simp; omega
  clear hb1 h12 HR0
  go_wp2_with fail
  refine (HPA.out _ (HM.out.below HB1.out)).mono ?_
  rintro e w2 ⟨⟨hok, t1, ht1, hz1, rfl⟩ | ⟨hn, c, hc, rfl⟩, hb2⟩
  · have HP1 := Lib.hid ht1
    have HOK := Lib.hid hok
    have HB2 := Lib.hid (Below.step HB1.out hb2)
    have HR2 := Lib.hid ((hb2.block _ (lt_of_block HR1.out)).trans HR1.out)
    have hpos : 8 ≤ t1.size := by have := (ht1.split idf_length).1; rwa [strN_length] at this
    clear hok ht1 hb2 y0 y1 y2
    go_wp2_with fail
    refine (HRD.out t1 (by omega) _ (HM.out.below HB2.out)).mono ?_
    intro e w3 hend
    obtain ⟨k', q', t', he, rfl, hb3⟩ := pack_read HP1.out hend
    obtain rfl : k = k' := congrArg (·.1) he
    obtain rfl : q = q' := congrArg (·.2.1) he
    obtain rfl : t = t' := strN_inj (congrArg (·.2.2) he)
    have HB3 := Lib.hid (Below.step HB2.out hb3)
    have hr3 := (hb3.block _ (lt_of_block HR2.out)).trans HR2.out
    have HB4 := Lib.hid (HB3.out.alloc HB3.out.size (.cells #[.int .i64 k, .int .i64 q, .string t] 47))
    have hr4 : (w3.alloc (.cells #[.int .i64 k, .int .i64 q, .string t] 47)).heap[w.heap.size]? = some (.cells #[.int .i64 k, .int .i64 q, .string t] 47 (0, 0)) := (Below.heap_alloc w3 _ _ (lt_of_block hr3)).trans hr3
    have y0 := cell_of_row _ _ 0 _ _ _ hr4
    have y1 := cell_of_row _ _ 1 _ _ _ hr4
    have y2 := cell_of_row _ _ 2 _ _ _ hr4
    simp only [List.getElem?_toArray, List.getElem?_cons_zero, List.getElem?_cons_succ] at y0 y1 y2
    have htt : (t.toList == t.toList) = true := by simp
    have hne1 := isEmpty_false' (s := t1) (by omega)
    have hconv := fun (wx : World) => Lib.run_convert_string_bytes (P := Tryd.prog) wx 9 51 5 t1 Tryd.underlying9 Tryd.underlying51 Tryd.underlying5
    have B5 := Lib.hid (Below.step HB4.out (bytesWorld_below (w := w3.alloc (.cells #[.int .i64 k, .int .i64 q, .string t] 47)) 5 t1))
    have C5 := Lib.hid (crow_bytes (w3.alloc (.cells #[.int .i64 k, .int .i64 q, .string t] 47)) 5 t1)
    have HRest := Lib.hid fun u => rest_any ps (t1.size : Int) u (by omega) (by omega)
    clear hend he hb3 hr3 hr4 HR1 HR2
    go_wp2_with fail
    have C6 : Hid (CRow (Lib.bytesWorld (w3.alloc (.cells #[.int .i64 k, .int .i64 q, .string t] 47)) 5 t1) (w3.heap.size + 1) (strN t1)) := by
      have := C5.out
      rwa [World.size_alloc] at this
    have hn5 : w.heap.size ≤ w3.heap.size + 1 := by have := HB3.out.size; omega
    clear hconv C5 y0 y1 y2
    generalize grownCap (w3.alloc (.cells #[.int .i64 k, .int .i64 q, .string t] 47)) t1.size 0 5 = cp at *
    generalize Lib.bytesWorld (w3.alloc (.cells #[.int .i64 k, .int .i64 q, .string t] 47)) 5 t1 = w6 at *
    generalize w3.heap.size + 1 = n5 at *
    refine (HRest.out _).mono ?_
    rintro e w7 ⟨⟨pl, hpl, rfl⟩, rfl⟩
    have hplt : pl < t1.size := by omega
    have p0 : (0 : Int) ≤ (pl : Int) := Int.natCast_nonneg _
    have p1 : (pl : Int) < (t1.size : Int) := by omega
    have p2 : ¬ (pl : Int) < 0 := by omega
    have p3 : ¬ (t1.size : Int) ≤ (pl : Int) := by omega
    have p4 : decide ((pl : Int) < 0) = false := decide_eq_false p2
    have p5 : decide ((t1.size : Int) ≤ (pl : Int)) = false := decide_eq_false p3
    have hcell := C6.out.cell (k := pl) (by rw [strN_length]; exact hplt)
    have hfro := C6.out.frozen (k := pl) (by rw [strN_length]; exact hplt)
    have ho : (strN t1).getD pl 0 < 256 := by
      rw [List.getD_eq_getElem?_getD, List.getElem?_eq_getElem (by rw [strN_length]; exact hplt)]
      exact strN_lt t1 _ (List.getElem_mem _)
    obtain ⟨o, hog⟩ : ∃ o, (strN t1).getD pl 0 = o := ⟨_, rfl⟩
    rw [hog] at hcell ho
    have hv : o ^^^ bi < 256 := Nat.xor_lt_two_pow (n := 8) ho hbi
    have hxor : bits .xor .u8 (o : Int) (bi : Int) = ((o ^^^ bi : Nat) : Int) := u8_xor_nat o bi ho hbi
    have hne : o ≠ o ^^^ bi ↔ bi ≠ 0 := by
      constructor
      · rintro h rfl
        exact h (Nat.xor_zero o).symm
      · intro h h2
        have h3 : o ^^^ o = o ^^^ (o ^^^ bi) := congrArg (o ^^^ ·) h2
        rw [← Nat.xor_assoc, Nat.xor_self, Nat.zero_xor] at h3
        exact h h3.symm
    have HNE : Hid (∀ v, v = o ^^^ bi → (o ≠ v ↔ bi ≠ 0)) := by rintro v rfl; exact hne
    obtain ⟨v, hvx⟩ : ∃ v, v = o ^^^ bi := ⟨_, rfl⟩
    rw [← hvx] at hv hxor
    have HVB := Lib.hid (HNE.out v hvx)
    have hL256 : ∀ c ∈ (strN t1).set pl v, c < 256 := fun c hc => by
      rcases List.mem_or_eq_of_mem_set hc with h | rfl
      · exact strN_lt t1 c h
      · exact hv
    have hcv : (convert 51 9 (.slice (some ⟨n5, 0, none⟩) t1.size cp)).run Tryd.prog (w7.setCell ⟨n5, pl, none⟩ (.int .u8 (v : Int))) = .ok (.string (strOf ((strN t1).set pl v))) (w7.setCell ⟨n5, pl, none⟩ (.int .u8 (v : Int))) := by
      have h := Lib.run_convert_whole (P := Tryd.prog) (w7.setCell ⟨n5, pl, none⟩ (.int .u8 (v : Int))) 51 5 9 Tryd.underlying51 Tryd.underlying5 Tryd.underlying9 n5 0 (strOf ((strN t1).set pl v)) ((C6.out.set pl v).bytes _ (strN_strOf _ hL256)) cp
      rw [strOf_size, List.length_set, strN_length] at h
      exact h
    have HXS : Hid (strN (strOf ((strN t1).set pl v)) = (strN t1).set pl v) := strN_strOf _ hL256
    have hXz : (strOf ((strN t1).set pl v)).size = t1.size := by rw [strOf_size, List.length_set, strN_length]
    generalize strOf ((strN t1).set pl v) = X at *
    have BW := Lib.hid (B5.out.setCell (p := ⟨n5, pl, none⟩) hn5 (.int .u8 (v : Int)))
    have HOG := Lib.hid hog
    have HVL := Lib.hid hv
    have HPL := Lib.hid hplt
    have hXb : X.size ≤ 9223372036854775806 := by omega
    clear hpl hne HNE hvx hL256 hog hv hplt ho hXz B5 C6 HRest HB4 HB3
    go_wp2_with fail
    refine (HRD.out X hXb _ (HM.out.below BW.out)).mono ?_
    intro e w8 hend
    obtain ⟨a8, b8, t8, c8, rfl, hc8, hb8⟩ := read_changed HP1.out (fun c hc => strN_lt t c hc) HPL.out HVL.out HXS.out hend
    rw [HOG.out] at hc8
    have HB8 := Lib.hid (Below.step BW.out hb8)
    have HBX := Lib.hid (HB8.out.alloc HB8.out.size (.cells #[.int .i64 a8, .int .i64 b8, .string t8] 47))
    have hc9 := hc8.trans HVB.out
    clear hend hc8 hb8 hcv hcell hfro hxor
    by_cases hb0 : bi = 0
    · have f4 : ((bi : Int) != 0) = false := by simp; omega
      have f5 : ((c8 : Int) == 6) = false := by
        rw [beq_eq_false_iff_ne]
        intro h
        exact hc9.1 (by omega) hb0
      clear hb0 hc9
      go_wp2_with fail
      refine (HRS.out _ (HM.out.below HBX.out)).mono ?_
      rintro e w9 ⟨⟨k9, q9, t9, hp9, hz9, rfl⟩ | ⟨c9, hc9, rfl, _, _⟩, hb9⟩
      · have HB9 := Lib.hid (Below.step HBX.out hb9)
        have HP9 := Lib.hid hp9
        have HB9b := Lib.hid (HB9.out.alloc HB9.out.size (.cells #[.int .i64 k9, .int .i64 q9, .string t9] 47))
        have HPA9 := Lib.hid (pack_any k9 q9 t9 (by omega) (w9.alloc (.cells #[.int .i64 k9, .int .i64 q9, .string t9] 47)) (HM.out.below HB9b.out))
        clear hp9 hb9
        go_wp2_with fail
        refine HPA9.out.mono ?_
        rintro e w10 ⟨⟨_, s9, hs9, _, rfl⟩ | ⟨hn9, _⟩, hb10⟩
        · obtain rfl : s9 = s := strN_inj (hs9.unique HP9.out)
          have HB10 := Lib.hid (Below.step HB9b.out hb10)
          have hss9 : (s9.toList == s9.toList) = true := by simp
          clear hs9 hb10 HPA9
          go_wp2_with fail
          go_ret
          exact ⟨rfl, HB10.out⟩
        · exact absurd HP9.out.1 hn9
      · have HB9 := Lib.hid (Below.step HBX.out hb9)
        have f9 : (((c9 : Nat) : Int) != 0) = true := by simpa using hc9
        have f9' : (((c9 : Nat) : Int) == 0) = false := by simpa using hc9
        have HB9b := Lib.hid (HB9.out.alloc HB9.out.size (.cells #[.int .i64 0, .int .i64 0, .string ⟨#[]⟩] 47))
        have HPA9 := Lib.hid (pack_any 0 0 ⟨#[]⟩ (by decide) (w9.alloc (.cells #[.int .i64 0, .int .i64 0, .string ⟨#[]⟩] 47)) (HM.out.below HB9b.out))
        have HX9 : Hid ((w9.alloc (.cells #[.int .i64 0, .int .i64 0, .string ⟨#[]⟩] 47)).heap[w9.heap.size]? = some (.cells #[.int .i64 0, .int .i64 0, .string ⟨#[]⟩] 47 (0, 0))) := heap_alloc_new w9 _
        clear hc9 hb9
        go_wp2_with fail
        refine HPA9.out.mono ?_
        rintro e w10 ⟨⟨hn9, _⟩ | ⟨_, c10, hc10, rfl⟩, hb10⟩
        · have := hn9.1
          simp at this
        · have HB10 := Lib.hid (Below.step HB9b.out hb10)
          have hx10 := (hb10.block _ (by simp)).trans HX9.out
          have x0 := cell_of_row _ _ 0 _ _ _ hx10
          have x1 := cell_of_row _ _ 1 _ _ _ hx10
          have x2 := cell_of_row _ _ 2 _ _ _ hx10
          simp only [List.getElem?_toArray, List.getElem?_cons_zero, List.getElem?_cons_succ] at x0 x1 x2
          clear hc10 hb10 HPA9 hx10 HX9
          go_wp2_with fail
          go_ret
          exact ⟨rfl, HB10.out⟩
    · have f4 : ((bi : Int) != 0) = true := by simp; omega
      have f5 : ((c8 : Int) == 6) = true := by
        rw [beq_iff_eq]
        have := hc9.2 hb0
        omega
      clear hb0 hc9
      go_wp2_with fail
      refine (HRS.out _ (HM.out.below HBX.out)).mono ?_
      rintro e w9 ⟨⟨k9, q9, t9, hp9, hz9, rfl⟩ | ⟨c9, hc9, rfl, _, _⟩, hb9⟩
      · have HB9 := Lib.hid (Below.step HBX.out hb9)
        have HP9 := Lib.hid hp9
        have HB9b := Lib.hid (HB9.out.alloc HB9.out.size (.cells #[.int .i64 k9, .int .i64 q9, .string t9] 47))
        have HPA9 := Lib.hid (pack_any k9 q9 t9 (by omega) (w9.alloc (.cells #[.int .i64 k9, .int .i64 q9, .string t9] 47)) (HM.out.below HB9b.out))
        clear hp9 hb9
        go_wp2_with fail
        refine HPA9.out.mono ?_
        rintro e w10 ⟨⟨_, s9, hs9, _, rfl⟩ | ⟨hn9, _⟩, hb10⟩
        · obtain rfl : s9 = s := strN_inj (hs9.unique HP9.out)
          have HB10 := Lib.hid (Below.step HB9b.out hb10)
          have hss9 : (s9.toList == s9.toList) = true := by simp
          clear hs9 hb10 HPA9
          go_wp2_with fail
          go_ret
          exact ⟨rfl, HB10.out⟩
        · exact absurd HP9.out.1 hn9
      · have HB9 := Lib.hid (Below.step HBX.out hb9)
        have f9 : (((c9 : Nat) : Int) != 0) = true := by simpa using hc9
        have f9' : (((c9 : Nat) : Int) == 0) = false := by simpa using hc9
        have HB9b := Lib.hid (HB9.out.alloc HB9.out.size (.cells #[.int .i64 0, .int .i64 0, .string ⟨#[]⟩] 47))
        have HPA9 := Lib.hid (pack_any 0 0 ⟨#[]⟩ (by decide) (w9.alloc (.cells #[.int .i64 0, .int .i64 0, .string ⟨#[]⟩] 47)) (HM.out.below HB9b.out))
        have HX9 : Hid ((w9.alloc (.cells #[.int .i64 0, .int .i64 0, .string ⟨#[]⟩] 47)).heap[w9.heap.size]? = some (.cells #[.int .i64 0, .int .i64 0, .string ⟨#[]⟩] 47 (0, 0))) := heap_alloc_new w9 _
        clear hc9 hb9
        go_wp2_with fail
        refine HPA9.out.mono ?_
        rintro e w10 ⟨⟨hn9, _⟩ | ⟨_, c10, hc10, rfl⟩, hb10⟩
        · have := hn9.1
          simp at this
        · have HB10 := Lib.hid (Below.step HB9b.out hb10)
          have hx10 := (hb10.block _ (by simp)).trans HX9.out
          have x0 := cell_of_row _ _ 0 _ _ _ hx10
          have x1 := cell_of_row _ _ 1 _ _ _ hx10
          have x2 := cell_of_row _ _ 2 _ _ _ hx10
          simp only [List.getElem?_toArray, List.getElem?_cons_zero, List.getElem?_cons_succ] at x0 x1 x2
          clear hc10 hb10 HPA9 hx10 HX9
          go_wp2_with fail
          go_ret
          exact ⟨rfl, HB10.out⟩
  · have HBX := Lib.hid (Below.step HB1.out hb2)
    have f3 : (((c : Nat) : Int) == 0) = false := by simpa using hc
    clear hn hc hb2 y0 y1 y2
    go_wp2_with fail
    refine (HRS.out _ (HM.out.below HBX.out)).mono ?_
    rintro e w9 ⟨⟨k9, q9, t9, hp9, hz9, rfl⟩ | ⟨c9, hc9, rfl, _, _⟩, hb9⟩
    · have HB9 := Lib.hid (Below.step HBX.out hb9)
      have HP9 := Lib.hid hp9
      have HB9b := Lib.hid (HB9.out.alloc HB9.out.size (.cells #[.int .i64 k9, .int .i64 q9, .string t9] 47))
      have HPA9 := Lib.hid (pack_any k9 q9 t9 (by omega) (w9.alloc (.cells #[.int .i64 k9, .int .i64 q9, .string t9] 47)) (HM.out.below HB9b.out))
      clear hp9 hb9
      go_wp2_with fail
      refine HPA9.out.mono ?_
      rintro e w10 ⟨⟨_, s9, hs9, _, rfl⟩ | ⟨hn9, _⟩, hb10⟩
      · obtain rfl : s9 = s := strN_inj (hs9.unique HP9.out)
        have HB10 := Lib.hid (Below.step HB9b.out hb10)
        have hss9 : (s9.toList == s9.toList) = true := by simp
        clear hs9 hb10 HPA9
        go_wp2_with fail
        go_ret
        exact ⟨rfl, HB10.out⟩
      · exact absurd HP9.out.1 hn9
    · have HB9 := Lib.hid (Below.step HBX.out hb9)
      have f9 : (((c9 : Nat) : Int) != 0) = true := by simpa using hc9
      have f9' : (((c9 : Nat) : Int) == 0) = false := by simpa using hc9
      have HB9b := Lib.hid (HB9.out.alloc HB9.out.size (.cells #[.int .i64 0, .int .i64 0, .string ⟨#[]⟩] 47))
      have HPA9 := Lib.hid (pack_any 0 0 ⟨#[]⟩ (by decide) (w9.alloc (.cells #[.int .i64 0, .int .i64 0, .string ⟨#[]⟩] 47)) (HM.out.below HB9b.out))
      have HX9 : Hid ((w9.alloc (.cells #[.int .i64 0, .int .i64 0, .string ⟨#[]⟩] 47)).heap[w9.heap.size]? = some (.cells #[.int .i64 0, .int .i64 0, .string ⟨#[]⟩] 47 (0, 0))) := heap_alloc_new w9 _
      clear hc9 hb9
      go_wp2_with fail
      refine HPA9.out.mono ?_
      rintro e w10 ⟨⟨hn9, _⟩ | ⟨_, c10, hc10, rfl⟩, hb10⟩
      · have := hn9.1
        simp at this
      · have HB10 := Lib.hid (Below.step HB9b.out hb10)
        have hx10 := (hb10.block _ (by simp)).trans HX9.out
        have x0 := cell_of_row _ _ 0 _ _ _ hx10
        have x1 := cell_of_row _ _ 1 _ _ _ hx10
        have x2 := cell_of_row _ _ 2 _ _ _ hx10
        simp only [List.getElem?_toArray, List.getElem?_cons_zero, List.getElem?_cons_succ] at x0 x1 x2
        clear hc10 hb10 HPA9 hx10 HX9
        go_wp2_with fail
        go_ret
        exact ⟨rfl, HB10.out⟩
end Go.Proofs.YtinjnclpiiohcaaDoor
