/- waste.Total. -/
import Derived.Test.YtpfmfigommmjiaaWasteMap
import Derived.Carry
import Derived.Test.YtpfmfigommmjiaaTakeE
import Derived.Test.YtpfmfigommmjiaaTakeE
namespace Go.Proofs.Ytpfmfigommmjiaa
open Go.RowKit Plain Go.ChangeMaps
set_option linter.unusedVariables false
set_option linter.unusedSimpArgs false
theorem info_wsT : (Try.prog.info? 29).map (·.size) = some 2 := by kernel_rfl
/-- the map, the sums, the result's cell -/
structure TS (w0 w : World) (R M S : Nat) (ks : List Int) (s d : Int) : Prop where
  below : Below w0.heap.size w0 w
  hm : w.heap[M]? = some (mO ks)
  hs : w.heap[S]? = some (.cells #[.int .i64 s, .int .i64 d] 29 (0, 0))
  hr : w.heap[R]? = some (.cells #[.int .i64 0, .int .i64 0] 29 (0, 0))
  rm : w0.heap.size ≤ M
  rs : w0.heap.size ≤ S
  ne : R ≠ S
section
variable {w0 w w' : World} {R M S : Nat} {ks : List Int} {s d : Int}
theorem TS.nm (h : TS w0 w R M S ks s d) : S ≠ M ∧ R ≠ M := by
  constructor <;> rintro rfl
  · have := h.hm; rw [h.hs] at this; simp [mO] at this
  · have := h.hm; rw [h.hr] at this; simp [mO] at this
theorem TS.keep (h : TS w0 w R M S ks s d) (hb : Below w.heap.size w w') : TS w0 w' R M S ks s d :=
  ⟨Below.step h.below hb, (hb.block _ (Array.getElem?_eq_some_iff.1 h.hm).1).trans h.hm, (hb.block _ (lt_of_block h.hs)).trans h.hs, (hb.block _ (lt_of_block h.hr)).trans h.hr, h.rm, h.rs, h.ne⟩
theorem TS.drew (h : TS w0 w R M S ks s d) : TS w0 w.drew R M S ks s d := ⟨h.below.drew, h.hm, h.hs, h.hr, h.rm, h.rs, h.ne⟩
theorem TS.put (h : TS w0 w R M S ks s d) (k : Int) : TS w0 (setBlock w M (mO (ks ++ [k]))) R M S (ks ++ [k]) s d :=
  ⟨below_setBlock h.below h.rm _, setBlock_same h.hm _, (setBlock_other _ h.nm.1).trans h.hs, (setBlock_other _ h.nm.2).trans h.hr, h.rm, h.rs, h.ne⟩
theorem TS.size (h : TS w0 w R M S ks s d) (x : Int) : TS w0 (w.setCell ⟨S, 0, none⟩ (.int .i64 x)) R M S ks x d := by
  refine ⟨h.below.setCell h.rs _, (heap_setCell_other w _ _ _ h.nm.1.symm).trans h.hm, ?_, (heap_setCell_other w _ _ _ h.ne).trans h.hr, h.rm, h.rs, h.ne⟩
  have := heap_setCell_same w S 0 _ _ (.int .i64 x) h.hs
  simpa using this
theorem TS.dead (h : TS w0 w R M S ks s d) (x : Int) : TS w0 (w.setCell ⟨S, 1, none⟩ (.int .i64 x)) R M S ks s x := by
  refine ⟨h.below.setCell h.rs _, (heap_setCell_other w _ _ _ h.nm.1.symm).trans h.hm, ?_, (heap_setCell_other w _ _ _ h.ne).trans h.hr, h.rm, h.rs, h.ne⟩
  have := heap_setCell_same w S 1 _ _ (.int .i64 x) h.hs
  simpa using this
theorem TS.c0 (h : TS w0 w R M S ks s d) : w.cell? ⟨S, 0, none⟩ = some (.int .i64 s) := by rw [cell_of_row _ _ 0 _ _ _ h.hs]; rfl
theorem TS.c1 (h : TS w0 w R M S ks s d) : w.cell? ⟨S, 1, none⟩ = some (.int .i64 d) := by rw [cell_of_row _ _ 1 _ _ _ h.hs]; rfl
theorem TS.fz (h : TS w0 w R M S ks s d) (i : Nat) : w.frozen? ⟨S, i, none⟩ = false := frozen_of_row _ _ _ _ _ h.hs
end
set_option maxRecDepth 100000 in
set_option maxHeartbeats 4000000 in
theorem total_any (a b : Option Addr) (cap cb : Nat) (L : List Wst) (Z : List Nat) (w : World) (h : SAt 2 wsC w a L) (hz : SAt 1 iC w b (zI Z)) (hok : WsOk L) (hn : Z.Nodup) (hlt : ∀ i ∈ Z, i < L.length) (hlz : Z.length ≤ 100) :
    Calls Try.prog 11 #[.slice a L.length cap, .slice b (zI Z).length cb] w fun e w' => e = .returned (.tuple #[wsV (totS L Z, totD L Z), .int .i64 0]) ∧ Below w.heap.size w w' := by
  have HB0 : Hid (Below w.heap.size w (w.alloc (.cells #[.int .i64 0, .int .i64 0] 29))) := Lib.hid ((Below.refl _ _).alloc (Nat.le_refl _) _)
  have HR0 := Lib.hid (heap_alloc_new w (.cells #[.int .i64 0, .int .i64 0] 29))
  have HCK := Lib.hid (check_any a cap L (w.alloc (.cells #[.int .i64 0, .int .i64 0] 29)) (h.below HB0.out) (by have := hok.1; omega))
  have HOK := Lib.hid hok
  have HS := Lib.hid h
  have HZ := Lib.hid hz
  have HN := Lib.hid hn
  have HLT := Lib.hid hlt
  have HZN : Hid ((zI Z).length ≤ 100) := Lib.hid (by rw [zI_length]; exact hlz)
  clear h hz hn hlt hlz hok
  go_enter Try.func11, Try.ntmps11
  go_wp2_with fail
  refine HCK.out.mono ?_
  rintro e w1 ⟨he, hb1⟩
  rw [ckW_ok HOK.out] at he
  replace he : e = .returned (.int .i64 0) := he
  subst he
  have HTS : Hid (TS w ((w1.alloc (.map #[] 0)).alloc (.cells #[.int .i64 0, .int .i64 0] 29)) w.heap.size w1.heap.size (w1.heap.size + 1) [] 0 0) := Lib.hid (by
    have hr1 := (hb1.block _ (lt_of_block HR0.out)).trans HR0.out
    have hbb : Below w1.heap.size w1 ((w1.alloc (.map #[] 0)).alloc (.cells #[.int .i64 0, .int .i64 0] 29)) := ((Below.refl _ _).alloc (Nat.le_refl _) _).alloc (by simp) _
    have hb01 := Below.step HB0.out hb1
    have hsz := hb01.size
    have hsr := lt_of_block hr1
    refine ⟨Below.step hb01 hbb, ?_, ?_, (hbb.block _ hsr).trans hr1, by omega, by omega, by omega⟩
    · exact (Below.heap_alloc (w1.alloc (.map #[] 0)) _ w1.heap.size (by simp)).trans (heap_alloc_new w1 _)
    · have := heap_alloc_new (w1.alloc (.map #[] 0)) (.cells #[.int .i64 0, .int .i64 0] 29)
      rwa [show (w1.alloc (.map #[] 0)).heap.size = w1.heap.size + 1 by simp] at this)
  have hmm := @run_makeMap Try.prog
  have hsm : (w1.alloc (.map #[] 0)).heap.size = w1.heap.size + 1 := by simp
  clear hb1 HCK HB0 HR0
  go_wp2_with fail
  clear hmm
  go_loopw [20] (fun iv wr => ∃ i : Nat, i ≤ (zI Z).length ∧ iv = .int .i64 (i : Int) ∧ Hid (TS w wr w.heap.size w1.heap.size (w1.heap.size + 1) ((zI Z).take i) (totS L (Z.take i)) (totD L (Z.take i)))) (fun iv _ => (zI Z).length - (intOf iv).toNat)
  case atStart => exact ⟨0, Nat.zero_le _, rfl, HTS⟩
  case round =>
    obtain ⟨i, hi, rfl, HT⟩ := hrel
    by_cases hlt : i < (zI Z).length
    · have m2 : (i : Int) < ((zI Z).length : Int) := by omega
      obtain ⟨x, hx⟩ : ∃ x, Z[i]? = some x := ⟨_, List.getElem?_eq_getElem (by rw [zI_length] at hlt; exact hlt)⟩
      obtain ⟨y, hy⟩ : ∃ y, L[x]? = some y := ⟨_, List.getElem?_eq_getElem (HLT.out x (List.mem_of_getElem? hx))⟩
      obtain ⟨g, off, ea, _, _, _⟩ := (HS.out.below HT.out.below).ws hy
      obtain ⟨gz, oz, eb, _, cz⟩ := (HZ.out.below HT.out.below).int i hlt
      subst ea eb
      rw [(List.getElem?_eq_some_iff.1 (zI_get hx)).2] at cz
      have n1 : ¬ (x : Int) < 0 := by omega
      have n2 : ¬ (L.length : Int) ≤ (x : Int) := by have := HLT.out x (List.mem_of_getElem? hx); omega
      have n3 : (x : Int) < (L.length : Int) := by omega
      have n4 : (0 : Int) ≤ (x : Int) := by omega
      have hnk : (x : Int) ∉ (zI Z).take i := by
        intro hm
        obtain ⟨j, hj, ej⟩ := List.mem_take_iff_getElem.1 hm
        have hj2 : j < Z.length := by rw [zI_length] at hj; omega
        have e1 : Z[j]? = some x := by
          rw [List.getElem?_eq_getElem hj2]
          have : (zI Z)[j]'(by omega) = ((Z[j] : Nat) : Int) := by simp [zI]
          rw [this] at ej
          congr 1
          omega
        have := (List.getElem?_inj hj2 HN.out).1 (e1.trans hx.symm)
        omega
      have HNK := Lib.hid hnk
      have hlk : (Instr.lookup 46 (.map (some w1.heap.size)) (.int .i64 (x : Int)) false).run Try.prog wr = .ok (.bool false) wr := by
        have := look_seen HT.out.hm (x : Int)
        rwa [decide_eq_false hnk] at this
      have hput := put_seen HT.out.hm (x : Int) hnk
      have HT2 := Lib.hid (HT.out.put (x : Int))
      have HX := Lib.hid hx
      have HY := Lib.hid hy
      clear hnk hx hy
      have HTB := Lib.hid (tot_bound HOK.out (Z.take i))
      have HTC := Lib.hid (tot_snoc L (Z.take i) x y HY.out)
      have HTK : Hid (Z.take (i + 1) = Z.take i ++ [x]) := Lib.hid (by rw [List.take_add_one, HX.out]; rfl)
      have HTZ : Hid ((zI Z).take (i + 1) = (zI Z).take i ++ [(x : Int)]) := Lib.hid (by rw [List.take_add_one, zI_get HX.out]; rfl)
      have hiL : (Z.take i).length ≤ 100 := by have := HZN.out; rw [zI_length] at this; rw [List.length_take]; omega
      have HYW := Lib.hid (HOK.out.2 y (List.mem_of_getElem? HY.out))
      rw [← HTK.out] at HTC
      obtain ⟨tb1, tb2, tb3⟩ := HTB.out
      have tb4 : ((Z.take i).length : Int) * 1099511627776 ≤ 109951162777600 := by omega
      generalize totS L (Z.take i) = s at *
      generalize totD L (Z.take i) = d at *
      obtain ⟨yb1, yb2, yb3, yb4⟩ := HYW.out
      have ws : IntKind.i64.wrap (s + y.1) = s + y.1 := wraps_i64 _ (by omega) (by omega)
      have wd : IntKind.i64.wrap (d + y.2) = d + y.2 := wraps_i64 _ (by omega) (by omega)
      clear tb1 tb2 tb3 tb4 yb1 yb2 yb3 yb4 hiL HTB HYW
      go_wp2_with fail
      have HCF : Hid (∀ u : World, TS w u w.heap.size w1.heap.size (w1.heap.size + 1) ((zI Z).take i ++ [(x : Int)]) s d → u.cell? ⟨g, off + x * 2, none⟩ = some (.int .i64 y.1)) := Lib.hid fun u hu => by
        obtain ⟨g1, o1, e1, _, c0, c1⟩ := (HS.out.below hu.below).ws HY.out
        simp only [Option.some.injEq, Addr.mk.injEq, and_true] at e1
        obtain ⟨rfl, rfl⟩ := e1
        exact c0
      refine wp_region_noPanic ?_
      refine wp_region_E (S := fun u => TS w u w.heap.size w1.heap.size (w1.heap.size + 1) ((zI Z).take i ++ [(x : Int)]) s d) 9 (by kernel_rfl) HT2.out.drew (fun hS0 => ?_)
      have HS0 := Lib.hid hS0
      clear hS0
      refine takeE_val 0 (.pointer (some ⟨w1.heap.size + 1, 0, none⟩)) rfl (by kernel_rfl) (by kernel_rfl) (by kernel_rfl) (by kernel_rfl) rfl (fun _ _ _ _ h => h) (by rfl) rfl (fun wz hS => by go_simp) HS0.out ?_
      try simp only [List.set_cons_zero, List.set_cons_succ]
      refine takeE_val 1 (.int .i64 s) rfl (by kernel_rfl) (by kernel_rfl) (by kernel_rfl) (by kernel_rfl) rfl (fun _ _ _ _ h => h) (by rfl) rfl (fun wz hS => by have hzc := hS.c0; go_simp) HS0.out ?_
      try simp only [List.set_cons_zero, List.set_cons_succ]
      refine takeE_val 2 (.slice (some ⟨g, off, none⟩) L.length cap) rfl (by kernel_rfl) (by kernel_rfl) (by kernel_rfl) (by kernel_rfl) rfl (fun _ _ _ _ h => h) (by rfl) rfl (fun wz hS => by go_simp) HS0.out ?_
      try simp only [List.set_cons_zero, List.set_cons_succ]
      refine takeE_val 3 (.int .i64 (x : Int)) rfl (by kernel_rfl) (by kernel_rfl) (by kernel_rfl) (by kernel_rfl) rfl (fun _ _ _ _ h => h) (by rfl) rfl (fun wz hS => by go_simp) HS0.out ?_
      try simp only [List.set_cons_zero, List.set_cons_succ]
      refine takeE_val 4 (.pointer (some ⟨g, off + x * 2, none⟩)) rfl (by kernel_rfl) (by kernel_rfl) (by kernel_rfl) (by kernel_rfl) rfl (fun _ _ _ _ h => h) (by rfl) rfl (fun wz hS => by go_simp) HS0.out ?_
      try simp only [List.set_cons_zero, List.set_cons_succ]
      refine takeE_val 5 (.pointer (some ⟨g, off + x * 2, none⟩)) rfl (by kernel_rfl) (by kernel_rfl) (by kernel_rfl) (by kernel_rfl) rfl (fun _ _ _ _ h => h) (by rfl) rfl (fun wz hS => by go_simp) HS0.out ?_
      try simp only [List.set_cons_zero, List.set_cons_succ]
      refine takeE_val 6 (.int .i64 y.1) rfl (by kernel_rfl) (by kernel_rfl) (by kernel_rfl) (by kernel_rfl) rfl (fun _ _ _ _ h => h) (by rfl) rfl (fun wz hS => by have hzc := HCF.out _ hS; go_simp) HS0.out ?_
      try simp only [List.set_cons_zero, List.set_cons_succ]
      refine takeE_val 7 (.int .i64 (s + y.1)) rfl (by kernel_rfl) (by kernel_rfl) (by kernel_rfl) (by kernel_rfl) rfl (fun _ _ _ _ h => h) (by rfl) rfl (fun wz hS => by go_simp) HS0.out ?_
      try simp only [List.set_cons_zero, List.set_cons_succ]
      refine takeE_val 8 (.pointer (some ⟨w1.heap.size + 1, 0, none⟩)) rfl (by kernel_rfl) (by kernel_rfl) (by kernel_rfl) (by kernel_rfl) rfl (fun _ _ _ _ h => h) (by rfl) rfl (fun wz hS => by go_simp) HS0.out ?_
      try simp only [List.set_cons_zero, List.set_cons_succ]
      generalize (setBlock wr w1.heap.size (mO ((zI Z).take i ++ [(x : Int)]))).drew = v0 at *
      refine oneE_ready 9 (by kernel_rfl) rfl (by rfl) (fun KQ hK => ?_)
      refine wp_store_1 3 _ _ rfl (w1.heap.size + 1) 0 (.int .i64 (s + y.1)) rfl rfl rfl (by rw [HS0.out.c0]; rfl) (HS0.out.fz 0) (by kernel_rfl) rfl ?_
      refine hK.out _ _ (fun h => absurd rfl h) ?_
      clear hK KQ
      try simp only [Act.put, List.setIfInBounds_toArray, List.set_cons_zero, List.set_cons_succ]
      refine wpAnyE_done (by kernel_rfl) ?_ _
      refine NoPanic.normal ?_
      have HT3 := Lib.hid (HS0.out.size (s + y.1))
      clear HS0 HCF
      go_wp2_with fail
      have HCF : Hid (∀ u : World, TS w u w.heap.size w1.heap.size (w1.heap.size + 1) ((zI Z).take i ++ [(x : Int)]) (s + y.1) d → u.cell? ⟨g, off + x * 2 + 1, none⟩ = some (.int .i64 y.2)) := Lib.hid fun u hu => by
        obtain ⟨g1, o1, e1, _, c0, c1⟩ := (HS.out.below hu.below).ws HY.out
        simp only [Option.some.injEq, Addr.mk.injEq, and_true] at e1
        obtain ⟨rfl, rfl⟩ := e1
        exact c1
      refine wp_region_noPanic ?_
      refine wp_region_E (S := fun u => TS w u w.heap.size w1.heap.size (w1.heap.size + 1) ((zI Z).take i ++ [(x : Int)]) (s + y.1) d) 9 (by kernel_rfl) HT3.out.drew (fun hS0 => ?_)
      have HS0 := Lib.hid hS0
      clear hS0
      refine takeE_val 0 (.pointer (some ⟨w1.heap.size + 1, 1, none⟩)) rfl (by kernel_rfl) (by kernel_rfl) (by kernel_rfl) (by kernel_rfl) rfl (fun _ _ _ _ h => h) (by rfl) rfl (fun wz hS => by go_simp) HS0.out ?_
      try simp only [List.set_cons_zero, List.set_cons_succ]
      refine takeE_val 1 (.int .i64 d) rfl (by kernel_rfl) (by kernel_rfl) (by kernel_rfl) (by kernel_rfl) rfl (fun _ _ _ _ h => h) (by rfl) rfl (fun wz hS => by have hzc := hS.c1; go_simp) HS0.out ?_
      try simp only [List.set_cons_zero, List.set_cons_succ]
      refine takeE_val 2 (.slice (some ⟨g, off, none⟩) L.length cap) rfl (by kernel_rfl) (by kernel_rfl) (by kernel_rfl) (by kernel_rfl) rfl (fun _ _ _ _ h => h) (by rfl) rfl (fun wz hS => by go_simp) HS0.out ?_
      try simp only [List.set_cons_zero, List.set_cons_succ]
      refine takeE_val 3 (.int .i64 (x : Int)) rfl (by kernel_rfl) (by kernel_rfl) (by kernel_rfl) (by kernel_rfl) rfl (fun _ _ _ _ h => h) (by rfl) rfl (fun wz hS => by go_simp) HS0.out ?_
      try simp only [List.set_cons_zero, List.set_cons_succ]
      refine takeE_val 4 (.pointer (some ⟨g, off + x * 2, none⟩)) rfl (by kernel_rfl) (by kernel_rfl) (by kernel_rfl) (by kernel_rfl) rfl (fun _ _ _ _ h => h) (by rfl) rfl (fun wz hS => by go_simp) HS0.out ?_
      try simp only [List.set_cons_zero, List.set_cons_succ]
      refine takeE_val 5 (.pointer (some ⟨g, off + x * 2 + 1, none⟩)) rfl (by kernel_rfl) (by kernel_rfl) (by kernel_rfl) (by kernel_rfl) rfl (fun _ _ _ _ h => h) (by rfl) rfl (fun wz hS => by go_simp) HS0.out ?_
      try simp only [List.set_cons_zero, List.set_cons_succ]
      refine takeE_val 6 (.int .i64 y.2) rfl (by kernel_rfl) (by kernel_rfl) (by kernel_rfl) (by kernel_rfl) rfl (fun _ _ _ _ h => h) (by rfl) rfl (fun wz hS => by have hzc := HCF.out _ hS; go_simp) HS0.out ?_
      try simp only [List.set_cons_zero, List.set_cons_succ]
      refine takeE_val 7 (.int .i64 (d + y.2)) rfl (by kernel_rfl) (by kernel_rfl) (by kernel_rfl) (by kernel_rfl) rfl (fun _ _ _ _ h => h) (by rfl) rfl (fun wz hS => by go_simp) HS0.out ?_
      try simp only [List.set_cons_zero, List.set_cons_succ]
      refine takeE_val 8 (.pointer (some ⟨w1.heap.size + 1, 1, none⟩)) rfl (by kernel_rfl) (by kernel_rfl) (by kernel_rfl) (by kernel_rfl) rfl (fun _ _ _ _ h => h) (by rfl) rfl (fun wz hS => by go_simp) HS0.out ?_
      try simp only [List.set_cons_zero, List.set_cons_succ]
      generalize (v0.setCell ⟨w1.heap.size + 1, 0, none⟩ (.int .i64 (s + y.1))).drew = v1 at *
      refine oneE_ready 9 (by kernel_rfl) rfl (by rfl) (fun KQ hK => ?_)
      refine wp_store_1 3 _ _ rfl (w1.heap.size + 1) 1 (.int .i64 (d + y.2)) rfl rfl rfl (by rw [HS0.out.c1]; rfl) (HS0.out.fz 1) (by kernel_rfl) rfl ?_
      refine hK.out _ _ (fun h => absurd rfl h) ?_
      clear hK KQ
      try simp only [Act.put, List.setIfInBounds_toArray, List.set_cons_zero, List.set_cons_succ]
      refine wpAnyE_done (by kernel_rfl) ?_ _
      refine NoPanic.normal ?_
      have HT4 := Lib.hid (HS0.out.dead (d + y.2))
      clear HS0 HCF
      have w9 : IntKind.i64.wrap ((i : Int) + 1) = (i : Int) + 1 := wraps_i64 _ (by omega) (by have := HZN.out; omega)
      have HIL := Lib.hid hlt
      go_wp2_with fail
      go_roundw
      case rel => exact ⟨i + 1, HIL.out, by go_num, Lib.hid (by rw [HTZ.out, HTC.out.1, HTC.out.2]; exact HT4.out)⟩
      case measure => simp [intOf]; have := HIL.out; omega
    · have m2 : ¬ (i : Int) < ((zI Z).length : Int) := by omega
      obtain rfl : i = (zI Z).length := by omega
      rw [List.take_length, show (zI Z).length = Z.length from zI_length Z, List.take_length] at HT
      have c0 := HT.out.c0
      have c1 := HT.out.c1
      have r0 := cell_of_row _ _ 0 _ _ _ HT.out.hr
      have r1 := cell_of_row _ _ 1 _ _ _ HT.out.hr
      simp only [List.getElem?_toArray, List.getElem?_cons_zero, List.getElem?_cons_succ] at r0 r1
      have f0 := frozen_of_row _ _ 0 _ _ HT.out.hr
      have f1 := frozen_of_row _ _ 1 _ _ HT.out.hr
      have HRF : Hid (((wr.setCell ⟨w.heap.size, 0, none⟩ (.int .i64 (totS L Z))).setCell ⟨w.heap.size, 1, none⟩ (.int .i64 (totD L Z))).heap[w.heap.size]? = some (.cells #[.int .i64 (totS L Z), .int .i64 (totD L Z)] 29 (0, 0))) := Lib.hid (by
        have h1 := heap_setCell_same wr w.heap.size 0 _ _ (.int .i64 (totS L Z)) HT.out.hr
        have h2 := heap_setCell_same _ w.heap.size 1 _ _ (.int .i64 (totD L Z)) h1
        simpa using h2)
      have HBF : Hid (Below w.heap.size w ((wr.setCell ⟨w.heap.size, 0, none⟩ (.int .i64 (totS L Z))).setCell ⟨w.heap.size, 1, none⟩ (.int .i64 (totD L Z)))) := Lib.hid ((HT.out.below.setCell (Nat.le_refl _) _).setCell (Nat.le_refl _) _)
      go_wp2_with fail
      refine bodyPost_ret (results_row_tmp1 (p := 4) (q := 5) (ty := 29) rfl _ _ w.heap.size 29 _ (0, 0) _ rfl HRF.out Try.underlying29 rfl info_wsT) rfl ?_
      exact ⟨rfl, HBF.out⟩
end Go.Proofs.Ytpfmfigommmjiaa
