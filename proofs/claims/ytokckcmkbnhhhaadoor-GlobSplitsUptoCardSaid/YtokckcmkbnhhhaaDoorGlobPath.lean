/- Parts against the names of a path: the closures, glob.path. -/
import Derived.Test.YtokckcmkbnhhhaaDoorGlobSeqP
import Derived.Test.YtokckcmkbnhhhaaDoorGlobName
import Derived.Test.YtokckcmkbnhhhaaDoorNamesW2
namespace Go.Proofs.YtokckcmkbnhhhaaDoor
open Go.RowKit Plain
set_option linter.unusedVariables false
set_option linter.unusedSimpArgs false
theorem ptG_map {L : List MP} {i : Nat} (h : i < L.length) : ptG (L.map ptOf) i = ptOf L[i] := by
  unfold ptG
  rw [List.getD_eq_getElem?_getD, List.getElem?_map, List.getElem?_eq_getElem h]
  rfl
set_option maxRecDepth 100000 in
set_option maxHeartbeats 2000000 in
theorem gpath1_any (L : List MP) (i : Nat) (hi : i < L.length) (P : Nat) (a : Option Addr) (cp : Nat) (w : World) (hP : w.heap[P]? = some (.cells #[.slice a L.length cp] 94 (0, 0))) (h : PtAt w a L) :
    Calls Tryd.prog 81 #[.int .i64 (i : Int), .pointer (some ⟨P, 0, none⟩)] w fun e w' => e = .returned (.bool (ptG (L.map ptOf) i).1) ∧ Below w.heap.size w w' := by
  rw [ptG_map hi]
  obtain ⟨g, off, rfl, hg, hr⟩ := h.1 i hi
  have c0 := cell_of_row _ _ 0 _ _ _ hP
  simp only [List.getElem?_toArray, List.getElem?_cons_zero] at c0
  have s0 := hr 0 _ rfl
  simp only [Nat.add_zero] at s0
  have m1 : (i : Int) < (L.length : Int) := by omega
  have m0 : (0 : Int) ≤ (i : Int) := by omega
  clear hr h hP
  generalize L[i] = m at *
  obtain ⟨k, sp, b⟩ := m
  go_enter Tryd.func81, Tryd.ntmps81
  go_wp2_with fail
  go_ret
  exact ⟨rfl, Below.refl _ _⟩
set_option maxRecDepth 100000 in
set_option maxHeartbeats 2000000 in
theorem gpath2_any (L : List MP) (S : List ByteArray) (i k : Nat) (hi : i < L.length) (hk : k < S.length) (P Q : Nat) (a : Option Addr) (cp : Nat) (b : Option Addr) (cq : Nat) (w : World) (hP : w.heap[P]? = some (.cells #[.slice a L.length cp] 94 (0, 0))) (hQ : w.heap[Q]? = some (.cells #[.slice b S.length cq] 36 (0, 0))) (h : PtAt w a L) (hC : SAt 1 sC w b S) (hle : ∀ m ∈ L, m.2.2.2.length ≤ 1099511627776) (hls : ∀ s ∈ S, s.size ≤ 1099511627776) :
    Calls Tryd.prog 82 #[.int .i64 (i : Int), .int .i64 (k : Int), .pointer (some ⟨P, 0, none⟩), .pointer (some ⟨Q, 0, none⟩)] w fun e w' => e = .returned (.bool (nameP (ptG (L.map ptOf) i).2 (runes (mkT ((tl S).getD k []))))) ∧ Below w.heap.size w w' := by
  rw [ptG_map hi]
  have hmm := h.2 _ (List.getElem_mem hi)
  have hmz := hle _ (List.getElem_mem hi)
  have hsz := hls _ (List.getElem_mem hk)
  obtain ⟨g, off, rfl, hg, hr⟩ := h.1 i hi
  obtain ⟨g2, off2, rfl, hr2⟩ := str_cell hC k hk
  have c0 := cell_of_row _ _ 0 _ _ _ hP
  have d0 := cell_of_row _ _ 0 _ _ _ hQ
  simp only [List.getElem?_toArray, List.getElem?_cons_zero] at c0 d0
  have s1 := hr 1 _ rfl
  have m1 : (i : Int) < (L.length : Int) := by omega
  have m0 : (0 : Int) ≤ (i : Int) := by omega
  have n1 : (k : Int) < (S.length : Int) := by omega
  have n0 : (0 : Int) ≤ (k : Int) := by omega
  have HC : Hid (mkT ((tl S).getD k []) = S[k]) := Lib.hid (by
    rw [List.getD_eq_getElem?_getD, tl, List.getElem?_map, List.getElem?_eq_getElem hk]
    exact mk_bT _)
  clear hr h hP hC hQ hle hls
  generalize L[i] = m at *
  generalize S[k] = c at *
  obtain ⟨kk, sa, sc, E⟩ := m
  have HM := Lib.hid fun (W : World) (hb : Below w.heap.size w W) => gname_any E sa sc c W (hmm.1.below hb) hmz hsz
  clear hmm hmz hsz
  go_enter Tryd.func82, Tryd.ntmps82
  go_wp2_with fail
  go_still_tail 9, (by kernel_rfl)
  change wpList _ _ _ _ _ w.drew
  have HBW : Hid (Below w.heap.size w w.drew) := Lib.hid ((Below.refl _ _).drew)
  generalize w.drew = wd at *
  go_wp2_with fail
  refine (HM.out _ HBW.out).mono ?_
  rintro e u ⟨rfl, hb⟩
  have HBU := Lib.hid (Below.step HBW.out hb)
  clear hb
  go_wp2_with fail
  go_ret
  exact ⟨by rw [HC.out]; rfl, HBU.out⟩
set_option maxRecDepth 100000 in
set_option maxHeartbeats 2000000 in
theorem gpath_any (L : List MP) (a : Option Addr) (cp : Nat) (S : List ByteArray) (b : Option Addr) (cq : Nat) (w : World) (h : PtAt w a L) (hC : SAt 1 sC w b S) (hl : L.length ≤ 1099511627776) (hls : S.length ≤ 1099511627776) (hle : ∀ m ∈ L, m.2.2.2.length ≤ 1099511627776) (hsz : ∀ s ∈ S, s.size ≤ 1099511627776) :
    Calls Tryd.prog 60 #[.slice a L.length cp, .slice b S.length cq] w fun e w' => e = .returned (.bool (pathP (L.map ptOf) (tl S))) ∧ Below w.heap.size w w' := by
  have HA2 := Lib.hid ((Below.refl w.heap.size w).alloc (Nat.le_refl _) (.cells #[.slice a L.length cp] 94))
  have HAL := Lib.hid ((Below.refl (w.alloc (.cells #[.slice a L.length cp] 94)).heap.size (w.alloc (.cells #[.slice a L.length cp] 94))).alloc (Nat.le_refl _) (.cells #[.slice b S.length cq] 36))
  have HB2 := Lib.hid (Below.step HA2.out HAL.out)
  have HP2 := Lib.hid ((HAL.out.block w.heap.size (by simp)).trans (heap_alloc_new w (.cells #[.slice a L.length cp] 94)))
  have HQ2 : Hid (((w.alloc (.cells #[.slice a L.length cp] 94)).alloc (.cells #[.slice b S.length cq] 36)).heap[w.heap.size + 1]? = some (.cells #[.slice b S.length cq] 36 (0, 0))) := Lib.hid (by have := heap_alloc_new (w.alloc (.cells #[.slice a L.length cp] 94)) (.cells #[.slice b S.length cq] 36); simpa using this)
  have HE2 := Lib.hid (h.below HB2.out)
  have HS2 := Lib.hid (hC.below HB2.out)
  have c0 := cell_of_row _ _ 0 _ _ _ HP2.out
  have d0 := cell_of_row _ _ 0 _ _ _ HQ2.out
  simp only [List.getElem?_toArray, List.getElem?_cons_zero] at c0 d0
  have HLE : Hid (L.length ≤ 1099511627776 ∧ S.length ≤ 1099511627776 ∧ (∀ m ∈ L, m.2.2.2.length ≤ 1099511627776) ∧ (∀ s ∈ S, s.size ≤ 1099511627776)) := Lib.hid ⟨hl, hls, hle, hsz⟩
  have HNP : Hid (seqD (fun i => (ptG (L.map ptOf) i).1) (fun i k => nameP (ptG (L.map ptOf) i).2 (runes (mkT ((tl S).getD k [])))) L.length S.length = pathP (L.map ptOf) (tl S)) := Lib.hid (by unfold pathP; rw [List.length_map, tl_length])
  clear HA2 HAL h hC hl hls hle hsz
  go_enter Tryd.func60, Tryd.ntmps60
  go_wp2_with fail
  generalize ((w.alloc (.cells #[.slice a L.length cp] 94)).alloc (.cells #[.slice b S.length cq] 36)) = w3 at *
  refine (gseq_path L.length S.length (fun i => (ptG (L.map ptOf) i).1) (fun i k => nameP (ptG (L.map ptOf) i).2 (runes (mkT ((tl S).getD k [])))) ⟨w.heap.size, 0, none⟩ ⟨w.heap.size + 1, 0, none⟩ w3 (fun i W hi hb => gpath1_any L i hi w.heap.size a cp W ((hb.block _ (lt_of_block HP2.out)).trans HP2.out) (HE2.out.below hb)) (fun i k W hi hk hb => gpath2_any L S i k hi hk w.heap.size (w.heap.size + 1) a cp _ cq W ((hb.block _ (lt_of_block HP2.out)).trans HP2.out) ((hb.block _ (lt_of_block HQ2.out)).trans HQ2.out) (HE2.out.below hb) (HS2.out.below hb) HLE.out.2.2.1 HLE.out.2.2.2) HLE.out.1 HLE.out.2.1).mono ?_
  rintro e u ⟨rfl, hb⟩
  have HBU := Lib.hid (Below.step HB2.out hb)
  clear hb
  go_wp2_with fail
  go_ret
  exact ⟨by rw [← HNP.out]; rfl, HBU.out⟩
end Go.Proofs.YtokckcmkbnhhhaaDoor
