/- The walks of index.Find and what it calls. -/
import Derived.Test.YtiokodjlijaddaaIdxCheck
import Derived.Deep.RegionHeld3
namespace Go.Proofs.Ytiokodjlijaddaa
open Go.RowKit Plain
set_option maxRecDepth 100000 in
theorem fcl_any (p : Pl) (t : ID8) (hp : ∀ c ∈ idL p.1, c < 256) (ht : ∀ c ∈ idL t, c < 256) (w : World) :
    Calls Try.prog 35 #[plV p, idV t] w fun e w' => e = .returned (.int .i64 (cmpN (idL p.1) (idL t))) ∧ Below w.heap.size w w' := by
  have HC := icompare_any p.1 t hp ht
  clear hp ht
  obtain ⟨⟨b0, b1, b2, b3, b4, b5, b6, b7⟩, k, q, n1, n2⟩ := p
  obtain ⟨t0, t1, t2, t3, t4, t5, t6, t7⟩ := t
  have HB := Lib.hid (((Below.refl w.heap.size w).alloc (Nat.le_refl _) (.cells (plC ((b0, b1, b2, b3, b4, b5, b6, b7), k, q, n1, n2)).toArray 33)).alloc (by simp) (.cells ((idL (t0, t1, t2, t3, t4, t5, t6, t7)).map bV).toArray 31))
  generalize hcc : cmpN (idL ((b0, b1, b2, b3, b4, b5, b6, b7), k, q, n1, n2).1) (idL (t0, t1, t2, t3, t4, t5, t6, t7)) = cc at *
  unfold plV idV
  simp only [plC, idL, idV, List.map_cons, List.map_nil, List.cons_append, List.nil_append, bV] at HB HC ⊢
  have HC' := Lib.hid HC
  clear HC hcc
  go_enter Try.func35, Try.ntmps35
  go_wp2_with fail
  refine (HC'.out _).mono ?_
  rintro e w1 ⟨rfl, hb1⟩
  have HB1 := Lib.hid (Below.step HB.out hb1)
  clear hb1
  go_wp2_with fail
  go_ret
  exact ⟨rfl, HB1.out⟩
/-- where the search has come to -/
def BS (l : List Pl) (t : ID8) (i j : Nat) : Prop := i ≤ j ∧ j ≤ l.length ∧ (∀ q (h : q < l.length), q < i → cmpN (idL l[q].1) (idL t) < 0) ∧ (∀ q (h : q < l.length), j ≤ q → 0 ≤ cmpN (idL l[q].1) (idL t))
def BsEnd (w0 : World) (l : List Pl) (t : ID8) (e : Ending) (w : World) : Prop := ∃ (i : Nat) (f : Bool), BS l t i i ∧ (f = true ↔ ∃ h : i < l.length, cmpN (idL l[i].1) (idL t) = 0) ∧ e = .returned (.tuple #[.int .i64 (i : Int), .bool f]) ∧ Below w0.heap.size w0 w
set_option maxRecDepth 100000 in
set_option maxHeartbeats 2000000 in
theorem bsearch_any (a : Option Addr) (cap : Nat) (l : List Pl) (t : ID8) (w : World) (h : SAt 12 plC w a l) (h400 : l.length ≤ 400) (hlt : ∀ p ∈ l, ∀ c ∈ idL p.1, c < 256) (ht : ∀ c ∈ idL t, c < 256) (hso : ∀ p q (hp : p < l.length) (hq : q < l.length), p < q → cmpN (idL l[p].1) (idL l[q].1) < 0) :
    Calls Try.prog 34 #[.slice a l.length cap, idV t, .func (Fn.func 35) #[] #[]] w (BsEnd w l t) := by
  have HS := Lib.hid h
  have HLT := Lib.hid hlt
  have HT := Lib.hid ht
  have HSO := Lib.hid hso
  have HC := Lib.hid fun p hp u => fcl_any p t hp ht u
  have HB0 := Lib.hid ((Below.refl w.heap.size w).alloc (Nat.le_refl _) (.cells ((idL t).map bV).toArray 31))
  have HNEW := Lib.hid (heap_alloc_new w (.cells ((idL t).map bV).toArray 31))
  clear h hlt ht hso
  obtain ⟨t0, t1, t2, t3, t4, t5, t6, t7⟩ := t
  unfold idV
  simp only [idL, List.map_cons, List.map_nil, bV] at HB0 HNEW ⊢
  go_enter Try.func34, Try.ntmps34
  go_wp2_with fail
  have HSZ : Hid ((w.alloc (.cells #[.int .u8 (t0 : Int), .int .u8 (t1 : Int), .int .u8 (t2 : Int), .int .u8 (t3 : Int), .int .u8 (t4 : Int), .int .u8 (t5 : Int), .int .u8 (t6 : Int), .int .u8 (t7 : Int)] 31)).heap.size = w.heap.size + 1) := by show _ = _; simp
  generalize w.alloc (.cells #[.int .u8 (t0 : Int), .int .u8 (t1 : Int), .int .u8 (t2 : Int), .int .u8 (t3 : Int), .int .u8 (t4 : Int), .int .u8 (t5 : Int), .int .u8 (t6 : Int), .int .u8 (t7 : Int)] 31 ) = wa at *
  go_loopw [9, 10] (fun iv jv wr => ∃ i j : Nat, iv = .int .i64 (i : Int) ∧ jv = .int .i64 (j : Int) ∧ Below wa.heap.size wa wr ∧ BS l (t0, t1, t2, t3, t4, t5, t6, t7) i j) (fun iv jv _ => (intOf jv).toNat - (intOf iv).toNat)
  case atStart => exact ⟨0, l.length, rfl, rfl, Below.refl _ _, by omega, by omega, fun q _ h => by omega, fun q h h' => by omega⟩
  case round =>
    obtain ⟨i, j, rfl, rfl, hbr, hij, hjl, hlo, hhi⟩ := hrel
    have HBR := Lib.hid hbr
    have HLO := Lib.hid hlo
    have HHI := Lib.hid hhi
    clear hbr hlo hhi
    by_cases hlt : i < j
    · have m1 : (i : Int) < (j : Int) := by omega
      obtain ⟨m, hm⟩ : ∃ m, m = (i + j) / 2 := ⟨_, rfl⟩
      have em : ((i : Int) + (j : Int)) / 2 = (m : Int) := by omega
      have m2 : (m : Int) < (l.length : Int) := by omega
      have HEM := Lib.hid em
      have hmi : i ≤ m := by omega
      have hmj0 : m < j := by omega
      clear em hm
      go_wp2_with fail
      rw [HEM.out]
      obtain ⟨p, hp⟩ : ∃ p, l[m] = p := ⟨_, rfl⟩
      obtain ⟨g, off, rfl, hg, k0, k1, k2, k3, k4, k5, k6, k7, k8, k9, k10, k11⟩ := ((HS.out.below HB0.out).below HBR.out).place m (by omega) p hp
      have HMEM : Hid (p ∈ l) := by show _ ∈ _; rw [← hp]; exact List.getElem_mem _
      have HPE := Lib.hid hp
      clear hp hg
      have HCC := HC.out p (HLT.out p HMEM.out)
      obtain ⟨⟨b0, b1, b2, b3, b4, b5, b6, b7⟩, k, q, n1, n2⟩ := p
      simp only [bV] at k0 k1 k2 k3 k4 k5 k6 k7 k8 k9 k10 k11
      have hrow := (HBR.out.block w.heap.size (by have := HSZ.out; omega)).trans HNEW.out
      have s0 := cell_of_row wr w.heap.size 0 _ _ _ hrow
      have s1 := cell_of_row wr w.heap.size 1 _ _ _ hrow
      have s2 := cell_of_row wr w.heap.size 2 _ _ _ hrow
      have s3 := cell_of_row wr w.heap.size 3 _ _ _ hrow
      have s4 := cell_of_row wr w.heap.size 4 _ _ _ hrow
      have s5 := cell_of_row wr w.heap.size 5 _ _ _ hrow
      have s6 := cell_of_row wr w.heap.size 6 _ _ _ hrow
      have s7 := cell_of_row wr w.heap.size 7 _ _ _ hrow
      simp only [List.getElem?_toArray, List.getElem?_cons_zero, List.getElem?_cons_succ] at s0 s1 s2 s3 s4 s5 s6 s7
      clear hrow
      have HBD := Lib.hid HBR.out.drew
      obtain ⟨w2, hw2⟩ : ∃ w2, w2 = wr.drew := ⟨_, rfl⟩
      have K : ∀ x v, wr.cell? x = some v → w2.cell? x = some v := fun x v h => by rw [hw2]; exact h
      replace k0 := K _ _ k0
      replace k1 := K _ _ k1
      replace k2 := K _ _ k2
      replace k3 := K _ _ k3
      replace k4 := K _ _ k4
      replace k5 := K _ _ k5
      replace k6 := K _ _ k6
      replace k7 := K _ _ k7
      replace k8 := K _ _ k8
      replace k9 := K _ _ k9
      replace k10 := K _ _ k10
      replace k11 := K _ _ k11
      replace s0 := K _ _ s0
      replace s1 := K _ _ s1
      replace s2 := K _ _ s2
      replace s3 := K _ _ s3
      replace s4 := K _ _ s4
      replace s5 := K _ _ s5
      replace s6 := K _ _ s6
      replace s7 := K _ _ s7
      clear K
      rw [← hw2] at HBD
      refine wp_region_still_tail 6 (by kernel_rfl) (by kernel_rfl) ?_
      have hw3 : ({ heap := wr.heap, tape := wr.tape, drawn := wr.drawn + 1, os := wr.os, output := wr.output } : World) = w2 := hw2.symm
      rw [hw3]
      clear hw2 hw3
      simp only [List.take_succ_cons, List.take_zero, List.drop_succ_cons, List.drop_zero]
      repeat still_step
      refine wpStill_nil ?_
      have HCW := HCC w2
      unfold plV idV at HCW
      simp only [plC, idL, List.map_cons, List.map_nil, List.cons_append, List.nil_append, bV] at HCW
      have HX : Hid (cmpN (idL (l[m]'(by omega)).1) (idL (t0, t1, t2, t3, t4, t5, t6, t7)) = cmpN [b0, b1, b2, b3, b4, b5, b6, b7] [t0, t1, t2, t3, t4, t5, t6, t7]) := by show _ = _; rw [HPE.out]; rfl
      generalize cmpN [b0, b1, b2, b3, b4, b5, b6, b7] [t0, t1, t2, t3, t4, t5, t6, t7] = cc at *
      clear HCC
      have HCH := Lib.hid HCW
      clear HCW
      by_cases hcc : cc < 0
      · have HN : Hid (BS l (t0, t1, t2, t3, t4, t5, t6, t7) (m + 1) j) := ⟨by omega, hjl, fun q hq hqm => by
          by_cases e : q = m
          · subst e; rw [HX.out]; exact hcc
          · have := HSO.out q m hq (by omega) (by omega)
            exact cmpN_trans _ _ _ this (by rw [HX.out]; exact hcc), HHI.out⟩
        have f5 : decide (cc < 0) = true := decide_eq_true hcc
        have hmj : m < j := by omega
        have him : i ≤ m := by omega
        clear hcc
        go_wp2_with fail
        refine HCH.out.mono ?_
        rintro e w3 ⟨rfl, hb3⟩
        have HB3 := Lib.hid (Below.step HBD.out hb3)
        clear hb3
        go_wp2_with fail
        go_roundw
        case rel => exact ⟨m + 1, j, by go_num, rfl, HB3.out, HN.out⟩
        case measure => simp [intOf]; omega
      · have HN : Hid (BS l (t0, t1, t2, t3, t4, t5, t6, t7) i m) := ⟨by omega, by omega, HLO.out, fun q hq hqm => by
          by_cases e : q = m
          · subst e; rw [HX.out]; omega
          · have h1 := HSO.out m q (by omega) hq (by omega)
            rcases Int.lt_or_le (cmpN (idL l[q].1) (idL (t0, t1, t2, t3, t4, t5, t6, t7))) 0 with h2 | h2
            · have := cmpN_trans _ _ _ h1 h2
              rw [HX.out] at this
              omega
            · exact h2⟩
        have f5 : decide (cc < 0) = false := decide_eq_false hcc
        have hmj : m < j := by omega
        have him : i ≤ m := by omega
        clear hcc
        go_wp2_with fail
        refine HCH.out.mono ?_
        rintro e w3 ⟨rfl, hb3⟩
        have HB3 := Lib.hid (Below.step HBD.out hb3)
        clear hb3
        go_wp2_with fail
        go_roundw
        case rel => exact ⟨i, m, rfl, by go_num, HB3.out, HN.out⟩
        case measure => simp [intOf]; omega
    · obtain rfl : i = j := by omega
      have m1 : ¬ (i : Int) < (i : Int) := by omega
      have HBS : Hid (BS l (t0, t1, t2, t3, t4, t5, t6, t7) i i) := ⟨hij, hjl, HLO.out, HHI.out⟩
      by_cases hil : i < l.length
      · have m2 : (i : Int) < (l.length : Int) := by omega
        go_wp2_with fail
        obtain ⟨p, hp⟩ : ∃ p, l[i] = p := ⟨_, rfl⟩
        obtain ⟨g, off, rfl, hg, k0, k1, k2, k3, k4, k5, k6, k7, k8, k9, k10, k11⟩ := ((HS.out.below HB0.out).below HBR.out).place i (by omega) p hp
        have HMEM : Hid (p ∈ l) := by show _ ∈ _; rw [← hp]; exact List.getElem_mem _
        have HPE := Lib.hid hp
        clear hp
        have HCC := HC.out p (HLT.out p HMEM.out)
        obtain ⟨⟨b0, b1, b2, b3, b4, b5, b6, b7⟩, k, q, n1, n2⟩ := p
        simp only [bV] at k0 k1 k2 k3 k4 k5 k6 k7 k8 k9 k10 k11
        have hrow := (HBR.out.block w.heap.size (by have := HSZ.out; omega)).trans HNEW.out
        have s0 := cell_of_row wr w.heap.size 0 _ _ _ hrow
        have s1 := cell_of_row wr w.heap.size 1 _ _ _ hrow
        have s2 := cell_of_row wr w.heap.size 2 _ _ _ hrow
        have s3 := cell_of_row wr w.heap.size 3 _ _ _ hrow
        have s4 := cell_of_row wr w.heap.size 4 _ _ _ hrow
        have s5 := cell_of_row wr w.heap.size 5 _ _ _ hrow
        have s6 := cell_of_row wr w.heap.size 6 _ _ _ hrow
        have s7 := cell_of_row wr w.heap.size 7 _ _ _ hrow
        simp only [List.getElem?_toArray, List.getElem?_cons_zero, List.getElem?_cons_succ] at s0 s1 s2 s3 s4 s5 s6 s7
        clear hrow
        have hx : w.heap.size < wr.heap.size := by have := HSZ.out; have := HBR.out.size; omega
        have HCU := fun u => HCC u
        unfold plV idV at HCU
        simp only [plC, idL, List.map_cons, List.map_nil, List.cons_append, List.nil_append, bV] at HCU
        have HX : Hid (cmpN (idL (l[i]'(by omega)).1) (idL (t0, t1, t2, t3, t4, t5, t6, t7)) = cmpN [b0, b1, b2, b3, b4, b5, b6, b7] [t0, t1, t2, t3, t4, t5, t6, t7]) := by show _ = _; rw [HPE.out]; rfl
        generalize cmpN [b0, b1, b2, b3, b4, b5, b6, b7] [t0, t1, t2, t3, t4, t5, t6, t7] = cc at *
        clear HCC
        have HCH := Lib.hid HCU
        have HF : Hid ((cc == 0) = true ↔ ∃ h : i < l.length, cmpN (idL l[i].1) (idL (t0, t1, t2, t3, t4, t5, t6, t7)) = 0) :=
          ⟨fun h => ⟨hil, by rw [HX.out]; simpa using h⟩, fun ⟨_, h⟩ => by rw [HX.out] at h; simpa using h⟩
        clear HCU
        have hS : wr.drew.cell? ⟨g, off + i * 12, none⟩ = some (.int .u8 (b0 : Int)) ∧ wr.drew.cell? ⟨g, off + i * 12 + 1, none⟩ = some (.int .u8 (b1 : Int)) ∧ wr.drew.cell? ⟨g, off + i * 12 + 2, none⟩ = some (.int .u8 (b2 : Int)) ∧ wr.drew.cell? ⟨g, off + i * 12 + 3, none⟩ = some (.int .u8 (b3 : Int)) ∧ wr.drew.cell? ⟨g, off + i * 12 + 4, none⟩ = some (.int .u8 (b4 : Int)) ∧ wr.drew.cell? ⟨g, off + i * 12 + 5, none⟩ = some (.int .u8 (b5 : Int)) ∧ wr.drew.cell? ⟨g, off + i * 12 + 6, none⟩ = some (.int .u8 (b6 : Int)) ∧ wr.drew.cell? ⟨g, off + i * 12 + 7, none⟩ = some (.int .u8 (b7 : Int)) ∧ wr.drew.cell? ⟨g, off + i * 12 + 8, none⟩ = some (.int .i64 k) ∧ wr.drew.cell? ⟨g, off + i * 12 + 9, none⟩ = some (.int .i64 q) ∧ wr.drew.cell? ⟨g, off + i * 12 + 10, none⟩ = some (.int .i64 n1) ∧ wr.drew.cell? ⟨g, off + i * 12 + 11, none⟩ = some (.int .i64 n2) ∧ wr.drew.cell? ⟨w.heap.size, 0, none⟩ = some (.int .u8 (t0 : Int)) ∧ wr.drew.cell? ⟨w.heap.size, 1, none⟩ = some (.int .u8 (t1 : Int)) ∧ wr.drew.cell? ⟨w.heap.size, 2, none⟩ = some (.int .u8 (t2 : Int)) ∧ wr.drew.cell? ⟨w.heap.size, 3, none⟩ = some (.int .u8 (t3 : Int)) ∧ wr.drew.cell? ⟨w.heap.size, 4, none⟩ = some (.int .u8 (t4 : Int)) ∧ wr.drew.cell? ⟨w.heap.size, 5, none⟩ = some (.int .u8 (t5 : Int)) ∧ wr.drew.cell? ⟨w.heap.size, 6, none⟩ = some (.int .u8 (t6 : Int)) ∧ wr.drew.cell? ⟨w.heap.size, 7, none⟩ = some (.int .u8 (t7 : Int)) ∧ Below wr.heap.size wr wr.drew := ⟨k0, k1, k2, k3, k4, k5, k6, k7, k8, k9, k10, k11, s0, s1, s2, s3, s4, s5, s6, s7, Below.drew (Below.refl _ _)⟩
        clear k0 k1 k2 k3 k4 k5 k6 k7 k8 k9 k10 k11 s0 s1 s2 s3 s4 s5 s6 s7
        go_region_held3 (fun w' => w'.cell? ⟨g, off + i * 12, none⟩ = some (.int .u8 (b0 : Int)) ∧ w'.cell? ⟨g, off + i * 12 + 1, none⟩ = some (.int .u8 (b1 : Int)) ∧ w'.cell? ⟨g, off + i * 12 + 2, none⟩ = some (.int .u8 (b2 : Int)) ∧ w'.cell? ⟨g, off + i * 12 + 3, none⟩ = some (.int .u8 (b3 : Int)) ∧ w'.cell? ⟨g, off + i * 12 + 4, none⟩ = some (.int .u8 (b4 : Int)) ∧ w'.cell? ⟨g, off + i * 12 + 5, none⟩ = some (.int .u8 (b5 : Int)) ∧ w'.cell? ⟨g, off + i * 12 + 6, none⟩ = some (.int .u8 (b6 : Int)) ∧ w'.cell? ⟨g, off + i * 12 + 7, none⟩ = some (.int .u8 (b7 : Int)) ∧ w'.cell? ⟨g, off + i * 12 + 8, none⟩ = some (.int .i64 k) ∧ w'.cell? ⟨g, off + i * 12 + 9, none⟩ = some (.int .i64 q) ∧ w'.cell? ⟨g, off + i * 12 + 10, none⟩ = some (.int .i64 n1) ∧ w'.cell? ⟨g, off + i * 12 + 11, none⟩ = some (.int .i64 n2) ∧ w'.cell? ⟨w.heap.size, 0, none⟩ = some (.int .u8 (t0 : Int)) ∧ w'.cell? ⟨w.heap.size, 1, none⟩ = some (.int .u8 (t1 : Int)) ∧ w'.cell? ⟨w.heap.size, 2, none⟩ = some (.int .u8 (t2 : Int)) ∧ w'.cell? ⟨w.heap.size, 3, none⟩ = some (.int .u8 (t3 : Int)) ∧ w'.cell? ⟨w.heap.size, 4, none⟩ = some (.int .u8 (t4 : Int)) ∧ w'.cell? ⟨w.heap.size, 5, none⟩ = some (.int .u8 (t5 : Int)) ∧ w'.cell? ⟨w.heap.size, 6, none⟩ = some (.int .u8 (t6 : Int)) ∧ w'.cell? ⟨w.heap.size, 7, none⟩ = some (.int .u8 (t7 : Int)) ∧ Below wr.heap.size wr w') (first | exact hS | go_keep | (go_split_ands; exact ⟨(hb.cell (p := ⟨g, off + i * 12, none⟩) (Nat.lt_of_lt_of_le hg (Below.size (by assumption)))).trans (by assumption), (hb.cell (p := ⟨g, off + i * 12 + 1, none⟩) (Nat.lt_of_lt_of_le hg (Below.size (by assumption)))).trans (by assumption), (hb.cell (p := ⟨g, off + i * 12 + 2, none⟩) (Nat.lt_of_lt_of_le hg (Below.size (by assumption)))).trans (by assumption), (hb.cell (p := ⟨g, off + i * 12 + 3, none⟩) (Nat.lt_of_lt_of_le hg (Below.size (by assumption)))).trans (by assumption), (hb.cell (p := ⟨g, off + i * 12 + 4, none⟩) (Nat.lt_of_lt_of_le hg (Below.size (by assumption)))).trans (by assumption), (hb.cell (p := ⟨g, off + i * 12 + 5, none⟩) (Nat.lt_of_lt_of_le hg (Below.size (by assumption)))).trans (by assumption), (hb.cell (p := ⟨g, off + i * 12 + 6, none⟩) (Nat.lt_of_lt_of_le hg (Below.size (by assumption)))).trans (by assumption), (hb.cell (p := ⟨g, off + i * 12 + 7, none⟩) (Nat.lt_of_lt_of_le hg (Below.size (by assumption)))).trans (by assumption), (hb.cell (p := ⟨g, off + i * 12 + 8, none⟩) (Nat.lt_of_lt_of_le hg (Below.size (by assumption)))).trans (by assumption), (hb.cell (p := ⟨g, off + i * 12 + 9, none⟩) (Nat.lt_of_lt_of_le hg (Below.size (by assumption)))).trans (by assumption), (hb.cell (p := ⟨g, off + i * 12 + 10, none⟩) (Nat.lt_of_lt_of_le hg (Below.size (by assumption)))).trans (by assumption), (hb.cell (p := ⟨g, off + i * 12 + 11, none⟩) (Nat.lt_of_lt_of_le hg (Below.size (by assumption)))).trans (by assumption), (hb.cell (p := ⟨w.heap.size, 0, none⟩) (Nat.lt_of_lt_of_le hx (Below.size (by assumption)))).trans (by assumption), (hb.cell (p := ⟨w.heap.size, 1, none⟩) (Nat.lt_of_lt_of_le hx (Below.size (by assumption)))).trans (by assumption), (hb.cell (p := ⟨w.heap.size, 2, none⟩) (Nat.lt_of_lt_of_le hx (Below.size (by assumption)))).trans (by assumption), (hb.cell (p := ⟨w.heap.size, 3, none⟩) (Nat.lt_of_lt_of_le hx (Below.size (by assumption)))).trans (by assumption), (hb.cell (p := ⟨w.heap.size, 4, none⟩) (Nat.lt_of_lt_of_le hx (Below.size (by assumption)))).trans (by assumption), (hb.cell (p := ⟨w.heap.size, 5, none⟩) (Nat.lt_of_lt_of_le hx (Below.size (by assumption)))).trans (by assumption), (hb.cell (p := ⟨w.heap.size, 6, none⟩) (Nat.lt_of_lt_of_le hx (Below.size (by assumption)))).trans (by assumption), (hb.cell (p := ⟨w.heap.size, 7, none⟩) (Nat.lt_of_lt_of_le hx (Below.size (by assumption)))).trans (by assumption), Below.step (by assumption) hb⟩)) (first | (go_at_call 35; refine (HCH.out _).mono ?_; rintro e w2 ⟨rfl, hb⟩))
        go_wp2_with fail
        go_ret2
        refine ⟨i, _, HBS.out, HF.out, rfl, ?_⟩
        go_split_ands
        exact HB0.out.trans ((Below.step HBR.out (by assumption)).mono HB0.out.size)

      · have m2 : ¬ (i : Int) < (l.length : Int) := by omega
        have f2 : decide ((i : Int) < (l.length : Int)) = false := decide_eq_false m2
        have HF : Hid (false = true ↔ ∃ h : i < l.length, cmpN (idL l[i].1) (idL (t0, t1, t2, t3, t4, t5, t6, t7)) = 0) := ⟨(fun h => by cases h), (fun ⟨h, _⟩ => absurd h hil)⟩
        have HB3 := Lib.hid (HB0.out.trans (HBR.out.drew.mono HB0.out.size))
        go_wp2_with fail
        go_region
        go_wp2_with fail
        go_ret2
        exact ⟨i, false, HBS.out, HF.out, rfl, HB3.out⟩
end Go.Proofs.Ytiokodjlijaddaa
