/- ChunkLocal: its walk. -/
import Derived.Test.YtbmklkjjkjgehaaChunkSome
import Derived.Test.YtbmklkjjkjgehaaRest
namespace Go.Proofs.Ytbmklkjjkjgehaa
open Go.RowKit Plain
theorem cuts_drop {R : Rule} {l : List Nat} {cs : List ByteArray} (h : R.Cuts l (cs.map strN)) (i : Nat) : R.Cuts ((cs.drop i).map strN).flatten ((cs.drop i).map strN) := by
  rw [List.map_drop]; exact h.drop i
theorem flat_drop_le {cs : List ByteArray} (i : Nat) : (((cs.drop i).map strN).flatten).length ≤ ((cs.map strN).flatten).length := by
  conv => rhs; rw [← List.take_append_drop i cs, List.map_append, List.flatten_append, List.length_append]
  omega
set_option maxRecDepth 100000 in
set_option maxHeartbeats 4000000 in
theorem chunkLocal_any (mn mx b k : Int) (s : ByteArray) (w : World) (hs : s.size ≤ 9223372036854775807) :
    Calls Try.prog 8 #[.agg #[.int .i64 mn, .int .i64 mx, .int .i64 b], .string s, .int .i64 k] w fun e w' => e = .returned (.bool true) ∧ Below w.heap.size w w' := by
  have HB0 := Lib.hid ((Below.refl w.heap.size w).alloc (Nat.le_refl _) (.cells #[.int .i64 mn, .int .i64 mx, .int .i64 b] 23))
  have HCUT := Lib.hid fun u => cut_any mn mx b s u hs
  have HS50 := Lib.hid some50_any
  have HREP : Hid (∀ u, Calls Try.prog 25 #[.string ⟨#[97]⟩, .int .i64 50] u fun e w' => e = .returned (.string (rA 50)) ∧ Below u.heap.size u w') := fun u => repeat_any 50 (by decide) u
  have HC0 : Hid (((w.alloc (.cells #[.int .i64 mn, .int .i64 mx, .int .i64 b] 23)).alloc (.cells #[.int .i64 16, .int .i64 20, .int .i64 12] 23)).heap[w.heap.size]? = some (.cells #[.int .i64 mn, .int .i64 mx, .int .i64 b] 23 (0, 0)) ∧ ((w.alloc (.cells #[.int .i64 mn, .int .i64 mx, .int .i64 b] 23)).alloc (.cells #[.int .i64 16, .int .i64 20, .int .i64 12] 23)).heap[w.heap.size + 1]? = some (.cells #[.int .i64 16, .int .i64 20, .int .i64 12] 23 (0, 0)) ∧ Below w.heap.size w ((w.alloc (.cells #[.int .i64 mn, .int .i64 mx, .int .i64 b] 23)).alloc (.cells #[.int .i64 16, .int .i64 20, .int .i64 12] 23))) := by
    refine ⟨(Below.heap_alloc _ _ _ (by simp)).trans (heap_alloc_new w _), ?_, HB0.out.alloc (by simp) _⟩
    have := heap_alloc_new (w.alloc (.cells #[.int .i64 mn, .int .i64 mx, .int .i64 b] 23)) (.cells #[.int .i64 16, .int .i64 20, .int .i64 12] 23)
    rw [World.size_alloc] at this
    exact this
  clear HB0
  go_enter Try.func8, Try.ntmps8
  go_wp2_with fail
  generalize (w.alloc (.cells #[.int .i64 mn, .int .i64 mx, .int .i64 b] 23)).alloc (.cells #[.int .i64 16, .int .i64 20, .int .i64 12] 23) = w0 at *
  obtain ⟨r0, r1, bl⟩ := HC0.out
  have hS : w0.drew.cell? ⟨w.heap.size + 1, 0, none⟩ = some (.int .i64 16) ∧ w0.drew.cell? ⟨w.heap.size + 1, 1, none⟩ = some (.int .i64 20) ∧ w0.drew.cell? ⟨w.heap.size + 1, 2, none⟩ = some (.int .i64 12) ∧ Below w0.heap.size w0 w0.drew :=
    ⟨cell_of_row w0 (w.heap.size + 1) 0 _ _ _ r1, cell_of_row w0 (w.heap.size + 1) 1 _ _ _ r1, cell_of_row w0 (w.heap.size + 1) 2 _ _ _ r1, (Below.refl _ _).drew⟩
  have hsz : w.heap.size + 1 < w0.heap.size := lt_of_block r1
  clear r0 r1 bl
  go_region_held3 (fun w' => w'.cell? ⟨w.heap.size + 1, 0, none⟩ = some (.int .i64 16) ∧ w'.cell? ⟨w.heap.size + 1, 1, none⟩ = some (.int .i64 20) ∧ w'.cell? ⟨w.heap.size + 1, 2, none⟩ = some (.int .i64 12) ∧ Below w0.heap.size w0 w') (first | exact hS | go_keep | (go_split_ands; exact keep3 hsz ⟨by assumption, by assumption, by assumption, by assumption⟩ hb)) (first | (go_at_call 25; (with_reducible refine (HREP.out _).mono ?_); rintro e w' ⟨rfl, hb⟩) | (go_at_call 11; (with_reducible refine (HS50.out _).mono ?_); rintro e w' ⟨a5, c5, rfl, _, hb⟩))
  go_split_ands
  have hbw : Below w0.heap.size w0 w' := by assumption
  obtain ⟨q0, q1, q2⟩ := HC0.out
  have B1 := Lib.hid (Below.step q2 hbw)
  have HC1 := (hbw.block _ (lt_of_block q0)).trans q0
  have c0 := cell_of_row w' w.heap.size 0 _ _ _ HC1
  have c1 := cell_of_row w' w.heap.size 1 _ _ _ HC1
  have c2 := cell_of_row w' w.heap.size 2 _ _ _ HC1
  simp only [List.getElem?_toArray, List.getElem?_cons_zero, List.getElem?_cons_succ] at c0 c1 c2
  have HR1 := Lib.hid HC1
  clear q0 q1 q2 HC0 hsz HC1 hbw HREP HS50
  go_wp2_with fail
  refine (HCUT.out _).mono ?_
  rintro e w2 (⟨cs, ca, cc, hok, h4, hcuts, hcl, rfl, hown, hb2⟩ | ⟨c, hc0, _, rfl, hb2⟩)
  · have B2 := Lib.hid (Below.step B1.out hb2)
    have HR2 := (hb2.block _ (lt_of_block HR1.out)).trans HR1.out
    have hw2 : w.heap.size < w2.heap.size := lt_of_block HR2
    obtain ⟨ca', cc', hv, hcap, hcap2, hsat⟩ := SAt.own hown sC_length
    cases hv
    have CS := Lib.hid hsat
    have HOK := Lib.hid hok
    have HCU := Lib.hid hcuts
    have c0 := cell_of_row w2 w.heap.size 0 _ _ _ HR2
    have c1 := cell_of_row w2 w.heap.size 1 _ _ _ HR2
    have c2 := cell_of_row w2 w.heap.size 2 _ _ _ HR2
    simp only [List.getElem?_toArray, List.getElem?_cons_zero, List.getElem?_cons_succ] at c0 c1 c2
    clear hown hsat hok hcuts hb2 HCUT B1 HR1 HR2
    by_cases hn : cs.length = 0
    · have f1 : ((cs.length : Int) == 0) = true := by simpa using hn
      clear hn
      go_wp2_with fail
      go_ret
      exact ⟨rfl, B2.out⟩
    · have f1 : ((cs.length : Int) == 0) = false := by simpa using hn
      have HRest := Lib.hid fun u => rest_any k (cs.length : Int) u (by omega) (by omega)
      clear hn
      go_wp2_with fail
      refine (HRest.out _).mono ?_
      rintro e w3 ⟨⟨r, hr, rfl⟩, rfl⟩
      have hr2 : r < cs.length := by omega
      obtain ⟨g, off, rfl, _, _⟩ := CS.out r hr2
      have CT := Lib.hid (CS.out.tail r)
      rw [Nat.mul_one] at CT
      have hJ : Hid (∀ u, Below w3.heap.size w3 u → Calls Try.prog 12 #[.slice (some ⟨g, off + r, none⟩) (cs.length - r) (cc - r), .string ⟨#[]⟩] u fun e w' => e = .returned (.string (strOf (((cs.drop r).map strN).flatten))) ∧ Below u.heap.size u w') := fun u hu => by
        have h := join_any (some ⟨g, off + r, none⟩) (cc - r) (cs.drop r) u (CT.out.below hu) (by rw [List.length_drop]; omega) (by rw [List.length_drop]; omega) (by
          have := flat_drop_le (cs := cs) r
          rw [HCU.out.join, strN_length] at this
          omega)
        rw [List.length_drop] at h
        exact h
      have hM : Hid (∀ u, Calls Try.prog 11 #[.agg #[.int .i64 mn, .int .i64 mx, .int .i64 b], .string (strOf (((cs.drop r).map strN).flatten))] u (CutIs u (cs.drop r))) := fun u => by
        have hl : ∀ c ∈ ((cs.drop r).map strN).flatten, c < 256 := fun c hc => by
          obtain ⟨l, hl, hcl⟩ := List.mem_flatten.1 hc
          obtain ⟨x, _, rfl⟩ := List.mem_map.1 hl
          exact strN_lt x c hcl
        have h4' : (strOf (((cs.drop r).map strN).flatten)).size ≤ 4096 := by
          have := flat_drop_le (cs := cs) r
          rw [HCU.out.join, strN_length] at this
          rw [strOf_size]; omega
        exact cut_is HOK.out h4' (by rw [strN_strOf _ hl]; exact cuts_drop HCU.out r) u
      generalize strOf (((cs.drop r).map strN).flatten) = J at hJ hM
      obtain ⟨DR, hDR⟩ : ∃ DR, DR = cs.drop r := ⟨_, rfl⟩
      have hDL : DR.length = cs.length - r := by rw [hDR, List.length_drop]
      rw [← hDR] at CT hM
      have HDL := Lib.hid hDL
      clear hDL hDR
      have k0 : (0 : Int) ≤ (r : Int) := Int.natCast_nonneg _
      have k1 : (r : Int) ≤ (cs.length : Int) := by omega
      have k2 : (r : Int) ≤ (cc : Int) := by omega
      have k3 : r ≠ cc := by omega
      have k4 : cc ≠ r := by omega
      go_wp2_with fail
      have hS : w3.drew.cell? ⟨w.heap.size, 0, none⟩ = some (.int .i64 mn) ∧ w3.drew.cell? ⟨w.heap.size, 1, none⟩ = some (.int .i64 mx) ∧ w3.drew.cell? ⟨w.heap.size, 2, none⟩ = some (.int .i64 b) ∧ Below w3.heap.size w3 w3.drew := ⟨c0, c1, c2, (Below.refl _ _).drew⟩
      go_region_held3 (fun w' => w'.cell? ⟨w.heap.size, 0, none⟩ = some (.int .i64 mn) ∧ w'.cell? ⟨w.heap.size, 1, none⟩ = some (.int .i64 mx) ∧ w'.cell? ⟨w.heap.size, 2, none⟩ = some (.int .i64 b) ∧ Below w3.heap.size w3 w') (first | exact hS | go_keep | (go_split_ands; exact keep3 hw2 ⟨by assumption, by assumption, by assumption, by assumption⟩ hb)) (first | (go_at_call 12; (with_reducible refine (hJ.out _ ?_).mono ?_); (go_split_ands; assumption); rintro e w' ⟨rfl, hb⟩) | (go_at_call 11; (with_reducible refine (hM.out _).mono ?_); rintro e w' ⟨am, cm, rfl, hom, hb⟩))
      go_split_ands
      have hbw3 : Below w3.heap.size w3 w' := by assumption
      obtain ⟨am', cm', hv2, hcap4, hcap5, hsat2⟩ := SAt.own hom sC_length
      cases hv2
      have B3 := Lib.hid (Below.step B2.out hbw3)
      have HEQ := Lib.hid (eqStr_any (some ⟨g, off + r, none⟩) am (cc - r) cm DR DR w' (CT.out.below hbw3) hsat2 (by have := HDL.out; omega) (by have := HDL.out; omega))
      rw [decide_eq_true rfl, HDL.out] at HEQ
      rw [HDL.out]
      clear hom hsat2 hbw3 B2 CT HCU HOK
      go_wp2_with fail
      refine HEQ.out.mono ?_
      rintro e w5 ⟨rfl, q, rfl⟩
      go_wp2_with fail
      go_ret
      exact ⟨rfl, below_dn B3.out q⟩
  · have B2 := Lib.hid (Below.step B1.out hb2)
    have f0 : ((c : Int) != 0) = true := by simpa using hc0
    clear hb2 c0 c1 c2 HR1 B1 HCUT
    go_wp2_with fail
    go_ret
    exact ⟨rfl, B2.out⟩
end Go.Proofs.Ytbmklkjjkjgehaa
