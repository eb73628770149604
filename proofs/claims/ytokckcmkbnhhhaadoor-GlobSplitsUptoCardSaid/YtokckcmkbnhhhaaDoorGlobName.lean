/- Elements against a name: the closures, glob.name. -/
import Derived.Test.YtokckcmkbnhhhaaDoorGlobSeqN
import Derived.StillTailTactics
namespace Go.Proofs.YtokckcmkbnhhhaaDoor
open Go.RowKit Plain
set_option linter.unusedVariables false
set_option linter.unusedSimpArgs false
theorem elG_map {E : List ME} {i : Nat} (h : i < E.length) : elG (E.map elOf) i = elOf E[i] := by
  unfold elG
  rw [List.getD_eq_getElem?_getD, List.getElem?_map, List.getElem?_eq_getElem h]
  rfl
set_option maxRecDepth 100000 in
set_option maxHeartbeats 2000000 in
theorem gname1_any (E : List ME) (i : Nat) (hi : i < E.length) (P : Nat) (a : Option Addr) (cp : Nat) (w : World) (hP : w.heap[P]? = some (.cells #[.slice a E.length cp] 129 (0, 0))) (h : EAt w a E) :
    Calls Tryd.prog 97 #[.int .i64 (i : Int), .pointer (some ⟨P, 0, none⟩)] w fun e w' => e = .returned (.bool (decide ((elG (E.map elOf) i).1 = 2))) ∧ Below w.heap.size w w' := by
  rw [elG_map hi]
  obtain ⟨g, off, rfl, hg, hr⟩ := h.1 i hi
  have c0 := cell_of_row _ _ 0 _ _ _ hP
  simp only [List.getElem?_toArray, List.getElem?_cons_zero] at c0
  have s0 := hr 0 _ rfl
  simp only [Nat.add_zero] at s0
  have m1 : (i : Int) < (E.length : Int) := by omega
  have m0 : (0 : Int) ≤ (i : Int) := by omega
  clear hr h hP
  generalize E[i] = m at *
  obtain ⟨k, sp, b⟩ := m
  have HE : Hid (((k : Int) == 2) = decide ((elOf (k, sp, b)).1 = 2)) := Lib.hid (by
    show _ = decide (k = 2)
    by_cases hk : k = 2
    · subst hk; rfl
    · rw [decide_eq_false hk, beq_eq_false_iff_ne]; omega)
  go_enter Tryd.func97, Tryd.ntmps97
  go_wp2_with fail
  go_ret
  exact ⟨by rw [← HE.out]; rfl, Below.refl _ _⟩
set_option maxRecDepth 100000 in
set_option maxHeartbeats 2000000 in
theorem gname2_any (E : List ME) (C : List Nat) (i k : Nat) (hi : i < E.length) (hk : k < C.length) (P Q : Nat) (a : Option Addr) (cp : Nat) (b : Option Addr) (cq : Nat) (w : World) (hP : w.heap[P]? = some (.cells #[.slice a E.length cp] 129 (0, 0))) (hQ : w.heap[Q]? = some (.cells #[.slice b C.length cq] 143 (0, 0))) (h : EAt w a E) (hC : SAt 1 rnC w b C) :
    Calls Tryd.prog 98 #[.int .i64 (i : Int), .int .i64 (k : Int), .pointer (some ⟨P, 0, none⟩), .pointer (some ⟨Q, 0, none⟩)] w fun e w' => e = .returned (.bool (elMatch (elG (E.map elOf) i) (C.getD k 0))) ∧ Below w.heap.size w w' := by
  rw [elG_map hi]
  have hmm := h.2 _ (List.getElem_mem hi)
  obtain ⟨g, off, rfl, hg, hr⟩ := h.1 i hi
  obtain ⟨g2, off2, rfl, hg2, hr2⟩ := hC k hk
  have c0 := cell_of_row _ _ 0 _ _ _ hP
  have d0 := cell_of_row _ _ 0 _ _ _ hQ
  simp only [List.getElem?_toArray, List.getElem?_cons_zero] at c0 d0
  have s0 := hr 0 _ rfl
  have s1 := hr 1 _ rfl
  have s2 := hr 2 _ rfl
  have r0 := hr2 0 _ rfl
  simp only [Nat.add_zero, Nat.mul_one] at s0 r0
  have m1 : (i : Int) < (E.length : Int) := by omega
  have m0 : (0 : Int) ≤ (i : Int) := by omega
  have n1 : (k : Int) < (C.length : Int) := by omega
  have n0 : (0 : Int) ≤ (k : Int) := by omega
  have HC : Hid (C.getD k 0 = C[k]) := Lib.hid (by simp [List.getD_eq_getElem?_getD, List.getElem?_eq_getElem hk])
  clear hr h hP hC hr2 hQ
  generalize E[i] = m at *
  generalize C[k] = c at *
  obtain ⟨kk, ⟨sa, sc, S⟩, bb⟩ := m
  have HM := Lib.hid fun (W : World) (hb : Below w.heap.size w W) => gmatches_any kk sa sc S bb c W (hmm.1.below hb) hmm.2
  clear hmm
  go_enter Tryd.func98, Tryd.ntmps98
  go_wp2_with fail
  go_still_tail 8, (by kernel_rfl)
  change wpList _ _ _ _ _ w.drew
  have HBW : Hid (Below w.heap.size w w.drew) := Lib.hid ((Below.refl _ _).drew)
  generalize w.drew = wd at *
  go_wp2_with fail
  refine (HM.out _ HBW.out).mono ?_
  rintro e u ⟨rfl, hb⟩
  have HBU := Lib.hid (Below.step HBW.out hb)
  clear hb
  go_wp2_with fail
  go_ret
  exact ⟨by rw [HC.out]; rfl, HBU.out⟩
set_option maxRecDepth 100000 in
set_option maxHeartbeats 2000000 in
theorem gname_any (E : List ME) (a : Option Addr) (cp : Nat) (s : ByteArray) (w : World) (h : EAt w a E) (hl : E.length ≤ 1099511627776) (hs : s.size ≤ 1099511627776) :
    Calls Tryd.prog 83 #[.slice a E.length cp, .string s] w fun e w' => e = .returned (.bool (nameP (E.map elOf) (runes s))) ∧ Below w.heap.size w w' := by
  have HB1 := Lib.hid ((Below.refl w.heap.size w).alloc (Nat.le_refl _) (.cells #[.slice a E.length cp] 129))
  have HP1 := Lib.hid (heap_alloc_new w (.cells #[.slice a E.length cp] 129))
  obtain ⟨w1, hw1⟩ : ∃ w1, w.alloc (.cells #[.slice a E.length cp] 129) = w1 := ⟨_, rfl⟩
  have hz1 : w1.heap.size = w.heap.size + 1 := by rw [← hw1]; simp
  have hconv := run_runes (P := Tryd.prog) w1 9 143 21 s Tryd.underlying9 Tryd.underlying143 Tryd.underlying21 (by omega)
  have HRB := Lib.hid (rnW_below w1 s 21)
  have HRS := Lib.hid (rnW_sat w1 s 21)
  obtain ⟨l0, hl0⟩ : ∃ l, runes s = l := ⟨_, rfl⟩
  have HRL := Lib.hid (runes_le s)
  have hz2 : (rnW w1 s 21).heap.size = w.heap.size + 2 := by simp [rnW, hz1]
  rw [hl0] at hconv HRS HRL
  rw [hw1] at HB1 HP1
  rw [hz1] at hconv HRS
  obtain ⟨cq, hcq⟩ : ∃ c, grownCap w1 l0.length 0 21 = c := ⟨_, rfl⟩
  rw [hcq] at hconv
  obtain ⟨w2, hw2⟩ : ∃ w2, rnW w1 s 21 = w2 := ⟨_, rfl⟩
  rw [hw2] at hconv HRB HRS hz2
  have HAL := Lib.hid ((Below.refl w2.heap.size w2).alloc (Nat.le_refl _) (.cells #[.slice (some ⟨w.heap.size + 1, 0, none⟩) l0.length cq] 143))
  have HB2 := Lib.hid (Below.step (Below.step HB1.out HRB.out) HAL.out)
  have HP2 := Lib.hid ((HAL.out.block w.heap.size (by omega)).trans ((HRB.out.block w.heap.size (by omega)).trans HP1.out))
  have HQ2 : Hid ((w2.alloc (.cells #[.slice (some ⟨w.heap.size + 1, 0, none⟩) l0.length cq] 143)).heap[w.heap.size + 2]? = some (.cells #[.slice (some ⟨w.heap.size + 1, 0, none⟩) l0.length cq] 143 (0, 0))) := Lib.hid (by rw [← hz2]; exact heap_alloc_new w2 _)
  have HE2 := Lib.hid (h.below HB2.out)
  have HS2 := Lib.hid (HRS.out.below HAL.out)
  have c0 := cell_of_row _ _ 0 _ _ _ HP2.out
  have d0 := cell_of_row _ _ 0 _ _ _ HQ2.out
  simp only [List.getElem?_toArray, List.getElem?_cons_zero] at c0 d0
  have HLE : Hid (E.length ≤ 1099511627776 ∧ l0.length ≤ 1099511627776) := Lib.hid ⟨hl, by have := HRL.out; omega⟩
  have HNP : Hid (seqD (fun i => decide ((elG (E.map elOf) i).1 = 2)) (fun i k => elMatch (elG (E.map elOf) i) (l0.getD k 0)) E.length l0.length = nameP (E.map elOf) (runes s)) := Lib.hid (by rw [hl0]; unfold nameP; rw [List.length_map])
  have HZ2 : Hid (w2.heap.size = w.heap.size + 2) := Lib.hid hz2
  clear HB1 HP1 hz1 HRB HRS hcq hw2 HAL h hl hl0 HRL
  go_enter Tryd.func83, Tryd.ntmps83
  go_wp2_with (rw [hw1])
  generalize (w2.alloc (.cells #[.slice (some ⟨w.heap.size + 1, 0, none⟩) l0.length cq] 143)) = w3 at *
  refine (gseq_name E.length l0.length (fun i => decide ((elG (E.map elOf) i).1 = 2)) (fun i k => elMatch (elG (E.map elOf) i) (l0.getD k 0)) ⟨w.heap.size, 0, none⟩ ⟨w.heap.size + 2, 0, none⟩ w3 (fun i W hi hb => gname1_any E i hi w.heap.size a cp W ((hb.block _ (lt_of_block HP2.out)).trans HP2.out) (HE2.out.below hb)) (fun i k W hi hk hb => gname2_any E l0 i k hi hk w.heap.size (w.heap.size + 2) a cp _ cq W ((hb.block _ (lt_of_block HP2.out)).trans HP2.out) ((hb.block _ (lt_of_block HQ2.out)).trans HQ2.out) (HE2.out.below hb) (HS2.out.below hb)) HLE.out.1 HLE.out.2).mono ?_
  rintro e u ⟨rfl, hb⟩
  have HBU := Lib.hid (Below.step HB2.out hb)
  clear hb
  go_wp2_with fail
  go_ret
  exact ⟨by rw [← HNP.out]; rfl, HBU.out⟩
end Go.Proofs.YtokckcmkbnhhhaaDoor
