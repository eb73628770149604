/- The order of places: cmp.Or, index.Compare, the closure of index.sorted. -/
import Derived.Test.YtinjnclpiiohcaaIdxCheck
import Derived.Test.YtinjnclpiiohcaaCmpInt
import Derived.Test.YtinjnclpiiohcaaDet3
import Derived.Shelf.SlSortCmp.InsertionK
namespace Go.Proofs.Ytinjnclpiiohcaa
open Go.RowKit Plain Go.Sort
set_option linter.unusedVariables false
set_option linter.unusedSimpArgs false
/-- draws and blocks alone -/
def Gr (w w' : World) : Prop := ∃ q os, w' = grow (w.drewN q) os
theorem Gr.refl (w : World) : Gr w w := ⟨0, #[], by simp [grow]; rfl⟩
theorem Gr.trans {w w1 w2 : World} (h : Gr w w1) (g : Gr w1 w2) : Gr w w2 := by
  obtain ⟨q, os, rfl⟩ := h
  obtain ⟨m, us, rfl⟩ := g
  refine ⟨q + m, os ++ us, ?_⟩
  simp only [grow, World.drewN, Array.append_assoc, Nat.add_assoc]
theorem Gr.drewN (w : World) (n : Nat) : Gr w (w.drewN n) := ⟨n, #[], by simp [grow]; rfl⟩
theorem Gr.drew {w w1 : World} (h : Gr w w1) : Gr w w1.drew := h.trans (Gr.drewN w1 1)
theorem Gr.alloc {w w1 : World} (h : Gr w w1) (o : Obj) : Gr w (w1.alloc o) := h.trans ⟨0, #[o], by rw [Go.Sort.alloc_eq_grow]; rfl⟩
theorem Gr.below {w w' : World} (h : Gr w w') : Below w.heap.size w w' := by
  obtain ⟨q, os, rfl⟩ := h
  refine ⟨rfl, rfl, rfl, by simp [grow], fun k hk => ?_⟩
  show (w.heap ++ os)[k]? = _
  rw [Array.getElem?_append_left hk]
theorem rangeRow {w : World} {b : Nat} {t : TypeId} {v0 v1 v2 v3 v4 v5 v6 v7 v8 v9 v10 v11 : Value} (h : w.heap[b]? = some (.cells #[v0, v1, v2, v3, v4, v5, v6, v7, v8, v9, v10, v11] t (0, 0))) : w.rangeAt b 0 [v0, v1, v2, v3, v4, v5, v6, v7] := by
  intro j u hu
  rw [Nat.zero_add, cell_of_row _ _ _ _ _ _ h, List.getElem?_toArray, ← hu]
  match j with
  | 0 | 1 | 2 | 3 | 4 | 5 | 6 | 7 => rfl
  | n + 8 => simp at hu
namespace Plain
def orL : List Int → Int
  | [] => 0
  | x :: t => orI x (orL t)
def cfP (x y : Pl) : Int := orI (cmpN (idL x.1) (idL y.1)) (orI (cmpI x.2.2.1 y.2.2.1) (orI (cmpI x.2.2.2.1 y.2.2.2.1) (orI (cmpI x.2.2.2.2 y.2.2.2.2) (cmpI x.2.1 y.2.1))))
def icP (x y : Pl) : Int := cmpN (idL x.1) (idL y.1)
theorem orI_zero (a : Int) : orI a 0 = a := by
  unfold orI
  by_cases h : a = 0
  · rw [if_pos h, h]
  · rw [if_neg h]
theorem cfP_orL (x y : Pl) : orL [cmpN (idL x.1) (idL y.1), cmpI x.2.2.1 y.2.2.1, cmpI x.2.2.2.1 y.2.2.2.1, cmpI x.2.2.2.2 y.2.2.2.2, cmpI x.2.1 y.2.1] = cfP x y := by
  simp only [orL, orI_zero, cfP]
theorem icP_cmp : Cmp icP where
  neg x y := cmpN_neg _ _
  trans x y z := cmpN_trans _ _ _
  cong x y z h := by
    have := (cmpN_zero _ _).1 h
    unfold icP
    rw [this]
theorem ordsP : Ords icP cfP where
  idC := icP_cmp
  cfC := icP_cmp.orI ((cmp_key fun x : Pl => x.2.2.1).orI ((cmp_key fun x : Pl => x.2.2.2.1).orI ((cmp_key fun x : Pl => x.2.2.2.2).orI (cmp_key fun x : Pl => x.2.1))))
  sub x y h := by
    unfold cfP orI
    unfold icP at h
    rw [if_neg (by omega)]
    exact h
  tot x y h := by
    have key : ∀ a b : Int, orI a b = 0 → a = 0 ∧ b = 0 := fun a b h => by
      unfold orI at h
      by_cases e : a = 0
      · rw [if_pos e] at h; exact ⟨e, h⟩
      · rw [if_neg e] at h; exact absurd h e
    unfold cfP at h
    obtain ⟨h1, h⟩ := key _ _ h
    obtain ⟨h2, h⟩ := key _ _ h
    obtain ⟨h3, h⟩ := key _ _ h
    obtain ⟨h4, h5⟩ := key _ _ h
    have e1 := (cmpN_zero _ _).1 h1
    have e2 := (cmpI_zero _ _).1 h2
    have e3 := (cmpI_zero _ _).1 h3
    have e4 := (cmpI_zero _ _).1 h4
    have e5 := (cmpI_zero _ _).1 h5
    obtain ⟨⟨a0, a1, a2, a3, a4, a5, a6, a7⟩, b, c, d, e⟩ := x
    obtain ⟨⟨a0', a1', a2', a3', a4', a5', a6', a7'⟩, b', c', d', e'⟩ := y
    simp only [idL, List.cons.injEq, and_true] at e1
    simp only at e2 e3 e4 e5
    simp only [Prod.mk.injEq]
    exact ⟨⟨e1.1, e1.2.1, e1.2.2.1, e1.2.2.2.1, e1.2.2.2.2.1, e1.2.2.2.2.2.1, e1.2.2.2.2.2.2.1, e1.2.2.2.2.2.2.2⟩, e5, e2, e3, e4⟩
end Plain
set_option maxRecDepth 100000 in
theorem or_any (l : List Int) (g : Nat) (t : TypeId) (cap : Nat) (w : World) (hl : l.length ≤ 1000) (h : w.heap[g]? = some (.cells (l.map fun i => Value.int .i64 i).toArray t (0, 0))) :
    Calls Try.prog 73 #[.slice (some ⟨g, 0, none⟩) l.length cap] w fun e w' => e = .returned (.int .i64 (orL l)) ∧ w' = w := by
  have HR := Lib.hid h
  clear h
  go_enter Try.func73, Try.ntmps73
  go_wp2_with fail
  go_loopw [8] (fun iv wr => ∃ i : Nat, i ≤ l.length ∧ iv = .int .i64 (i : Int) ∧ wr = w ∧ orL l = orL (l.drop i)) (fun iv _ => l.length - (intOf iv).toNat)
  case atStart => exact ⟨0, by omega, rfl, by first | rfl | trivial, by first | rfl | trivial⟩
  case round =>
    obtain ⟨i, hi, rfl, rfl, hok⟩ := hrel
    have HOK := Lib.hid hok
    clear hok
    by_cases hil : i < l.length
    · have m1 : (i : Int) < (l.length : Int) := by omega
      have m0 : (0 : Int) ≤ (i : Int) := Int.natCast_nonneg _
      obtain ⟨x, hx⟩ : ∃ x, l[i] = x := ⟨_, rfl⟩
      have q0 : wr.cell? ⟨g, i, none⟩ = some (.int .i64 x) := by
        rw [cell_of_row _ _ _ _ _ _ HR.out]
        simp [hil, hx]
      have HD : Hid (orL l = orI x (orL (l.drop (i + 1)))) := by
        show _ = _
        rw [HOK.out, List.drop_eq_getElem_cons hil, hx]
        rfl
      clear hx HOK
      by_cases hz : x = 0
      · have f1 : (x != 0) = false := by simp [hz]
        have HN : Hid (orL l = orL (l.drop (i + 1))) := by
          show _ = _
          rw [HD.out, hz]
          rfl
        clear hz
        go_wp2_with fail
        go_roundw
        case rel => exact ⟨i + 1, by omega, by go_num, by first | rfl | trivial, HN.out⟩
        case measure => simp [intOf]; omega
      · have f1 : (x != 0) = true := by simpa using hz
        have HN : Hid (orL l = x) := by
          show _ = _
          rw [HD.out]
          exact if_neg hz
        clear hz
        go_wp2_with fail
        go_ret
        exact ⟨by rw [HN.out]; rfl, rfl⟩
    · have m1 : ¬ (i : Int) < (l.length : Int) := by omega
      have HN : Hid (orL l = 0) := by
        show _ = _
        rw [HOK.out, List.drop_of_length_le (by omega)]
        rfl
      clear HOK
      go_wp2_with fail
      go_ret
      exact ⟨by rw [HN.out]; rfl, rfl⟩
set_option maxRecDepth 100000 in
theorem icompareG_any (a b : Nat × Nat × Nat × Nat × Nat × Nat × Nat × Nat) (ha : ∀ c ∈ idL a, c < 256) (hb : ∀ c ∈ idL b, c < 256) (w : World) :
    Calls Try.prog 64 #[idV a, idV b] w fun e w' => e = .returned (.int .i64 (cmpN (idL a) (idL b))) ∧ Gr w w' := by
  have HBC := Lib.hid fun u g h l m hl hm h1 h2 => bcompare_any u g h 67 67 l m hl hm h1 h2 8 8
  have hx := heap_two' w (.cells (((idL a).map bV).toArray) 67) (.cells (((idL b).map bV).toArray) 67)
  obtain ⟨a0, a1, a2, a3, a4, a5, a6, a7⟩ := a
  obtain ⟨b0, b1, b2, b3, b4, b5, b6, b7⟩ := b
  unfold idV
  simp only [bV]
  go_enter Try.func64, Try.ntmps64
  go_wp2_with fail
  simp only [idL, List.map_cons, List.map_nil, bV] at hx
  have HB := Lib.hid (((Gr.refl w).alloc (.cells #[.int .u8 (a0 : Int), .int .u8 (a1 : Int), .int .u8 (a2 : Int), .int .u8 (a3 : Int), .int .u8 (a4 : Int), .int .u8 (a5 : Int), .int .u8 (a6 : Int), .int .u8 (a7 : Int)] 67)).alloc (.cells #[.int .u8 (b0 : Int), .int .u8 (b1 : Int), .int .u8 (b2 : Int), .int .u8 (b3 : Int), .int .u8 (b4 : Int), .int .u8 (b5 : Int), .int .u8 (b6 : Int), .int .u8 (b7 : Int)] 67))
  have HROWS := Lib.hid hx
  generalize (w.alloc (.cells #[.int .u8 (a0 : Int), .int .u8 (a1 : Int), .int .u8 (a2 : Int), .int .u8 (a3 : Int), .int .u8 (a4 : Int), .int .u8 (a5 : Int), .int .u8 (a6 : Int), .int .u8 (a7 : Int)] 67)).alloc (.cells #[.int .u8 (b0 : Int), .int .u8 (b1 : Int), .int .u8 (b2 : Int), .int .u8 (b3 : Int), .int .u8 (b4 : Int), .int .u8 (b5 : Int), .int .u8 (b6 : Int), .int .u8 (b7 : Int)] 67) = wx at *
  have HA := Lib.hid ha
  have HB8 := Lib.hid hb
  clear ha hb
  clear hx
  have HQ : Hid (∀ q, Calls Try.prog 78 #[.slice (some ⟨w.heap.size, 0, none⟩) 8 8, .slice (some ⟨w.heap.size + 1, 0, none⟩) 8 8] (wx.drewN q) fun e w' => e = .returned (.int .i64 (cmpN (idL (a0, a1, a2, a3, a4, a5, a6, a7)) (idL (b0, b1, b2, b3, b4, b5, b6, b7)))) ∧ w' = wx.drewN q) :=
    fun q => HBC.out (wx.drewN q) w.heap.size (w.heap.size + 1) (idL (a0, a1, a2, a3, a4, a5, a6, a7)) (idL (b0, b1, b2, b3, b4, b5, b6, b7)) HA.out HB8.out HROWS.out.1 HROWS.out.2
  go_quiet ((go_at_call 78; refine Calls.quiet_of_same (HQ.out _)))
  go_wp2_with fail
  go_ret
  exact ⟨rfl, HB.out.trans (Gr.drewN _ _)⟩
set_option maxRecDepth 100000 in
set_option maxHeartbeats 4000000 in
theorem cmpP_any (x y : Pl) (hx : ∀ c ∈ idL x.1, c < 256) (hy : ∀ c ∈ idL y.1, c < 256) (w : World) :
    Calls Try.prog 72 #[.agg (plC x).toArray, .agg (plC y).toArray] w fun e w' => e = .returned (.int .i64 (cfP x y)) ∧ Gr w w' := by
  have HI := Lib.hid fun u => icompareG_any x.1 y.1 hx hy u
  have HM := Lib.hid fun a b u => cmpI_any a b u
  have HO := Lib.hid fun l g t cap u hl h => or_any l g t cap u hl h
  have HE := Lib.hid (cfP_orL x y)
  have H1 := Lib.hid (heap_two' w (.cells (plC x).toArray 69) (.cells (plC y).toArray 69))
  have HG := Lib.hid (((Gr.refl w).alloc (.cells (plC x).toArray 69)).alloc (.cells (plC y).toArray 69))
  have hu := Try.underlying67
  have hic : (Try.prog.info? 67).map (·.size) = some 8 := by kernel_rfl
  clear hx hy
  obtain ⟨⟨a0, a1, a2, a3, a4, a5, a6, a7⟩, ak, ap, aa, an⟩ := x
  obtain ⟨⟨b0, b1, b2, b3, b4, b5, b6, b7⟩, bk, bp, ba, bn⟩ := y
  have HM2 := Lib.hid fun u => HM.out ap bp u
  have HM3 := Lib.hid fun u => HM.out aa ba u
  have HM4 := Lib.hid fun u => HM.out an bn u
  have HM5 := Lib.hid fun u => HM.out ak bk u
  clear HM
  unfold idV at HI
  simp only [bV] at HI
  simp only [plC, idL, List.map_cons, List.map_nil, List.cons_append, List.nil_append, bV] at H1 HG ⊢
  generalize cfP ((a0, a1, a2, a3, a4, a5, a6, a7), ak, ap, aa, an) ((b0, b1, b2, b3, b4, b5, b6, b7), bk, bp, ba, bn) = R at *
  have HI2 := Lib.hid HI.out
  simp only at HE
  generalize cmpN (idL (a0, a1, a2, a3, a4, a5, a6, a7)) (idL (b0, b1, b2, b3, b4, b5, b6, b7)) = r1 at *
  generalize cmpI ap bp = r2 at *
  generalize cmpI aa ba = r3 at *
  generalize cmpI an bn = r4 at *
  generalize cmpI ak bk = r5 at *
  go_enter Try.func72, Try.ntmps72
  go_wp2_with fail
  refine wp_region_noPanic ?_
  refine wp_region_held_drew (S := fun w' => (w'.heap[w.heap.size]? = some (.cells #[.int .u8 (a0 : Int), .int .u8 (a1 : Int), .int .u8 (a2 : Int), .int .u8 (a3 : Int), .int .u8 (a4 : Int), .int .u8 (a5 : Int), .int .u8 (a6 : Int), .int .u8 (a7 : Int), .int .i64 ak, .int .i64 ap, .int .i64 aa, .int .i64 an] 69 (0, 0)) ∧ w'.heap[w.heap.size + 1]? = some (.cells #[.int .u8 (b0 : Int), .int .u8 (b1 : Int), .int .u8 (b2 : Int), .int .u8 (b3 : Int), .int .u8 (b4 : Int), .int .u8 (b5 : Int), .int .u8 (b6 : Int), .int .u8 (b7 : Int), .int .i64 bk, .int .i64 bp, .int .i64 ba, .int .i64 bn] 69 (0, 0))) ∧ Gr w w') (by kernel_rfl) ⟨H1.out, HG.out.drew⟩ (fun hS0 => ?_)
  have HS0 := Lib.hid hS0
  clear hS0
  refine take_val 0 (.pointer (some ⟨w.heap.size, 0, none⟩)) rfl (by kernel_rfl) (by kernel_rfl) (by kernel_rfl) (fun _ _ _ _ h => h) (by rfl) rfl (fun wz hS => by go_simp) HS0.out ?_
  try simp only [List.set_cons_zero, List.set_cons_succ]
  refine take_row 1 (cs := [.int .u8 (a0 : Int), .int .u8 (a1 : Int), .int .u8 (a2 : Int), .int .u8 (a3 : Int), .int .u8 (a4 : Int), .int .u8 (a5 : Int), .int .u8 (a6 : Int), .int .u8 (a7 : Int)]) rfl (by kernel_rfl) (by kernel_rfl) (by kernel_rfl) (fun _ _ _ _ h => h) (by rfl) rfl rfl rfl (fun _ hS => rangeRow hS.1.1) hu rfl hic HS0.out ?_
  try simp only [List.set_cons_zero, List.set_cons_succ]
  refine take_val 2 (.pointer (some ⟨w.heap.size + 1, 0, none⟩)) rfl (by kernel_rfl) (by kernel_rfl) (by kernel_rfl) (fun _ _ _ _ h => h) (by rfl) rfl (fun wz hS => by go_simp) HS0.out ?_
  try simp only [List.set_cons_zero, List.set_cons_succ]
  refine take_row 3 (cs := [.int .u8 (b0 : Int), .int .u8 (b1 : Int), .int .u8 (b2 : Int), .int .u8 (b3 : Int), .int .u8 (b4 : Int), .int .u8 (b5 : Int), .int .u8 (b6 : Int), .int .u8 (b7 : Int)]) rfl (by kernel_rfl) (by kernel_rfl) (by kernel_rfl) (fun _ _ _ _ h => h) (by rfl) rfl rfl rfl (fun _ hS => rangeRow hS.1.2) hu rfl hic HS0.out ?_
  try simp only [List.set_cons_zero, List.set_cons_succ]
  refine take_val 5 (.pointer (some ⟨w.heap.size, 9, none⟩)) rfl (by kernel_rfl) (by kernel_rfl) (by kernel_rfl) (fun _ _ _ _ h => h) (by rfl) rfl (fun wz hS => by go_simp) HS0.out ?_
  try simp only [List.set_cons_zero, List.set_cons_succ]
  refine take_val 6 (.int .i64 ap) rfl (by kernel_rfl) (by kernel_rfl) (by kernel_rfl) (fun _ _ _ _ h => h) (by rfl) rfl (fun wz hS => by have hz := cell_of_row _ _ 9 _ _ _ hS.1.1; simp only [List.getElem?_toArray, List.getElem?_cons_zero, List.getElem?_cons_succ] at hz; go_simp) HS0.out ?_
  try simp only [List.set_cons_zero, List.set_cons_succ]
  refine take_val 7 (.pointer (some ⟨w.heap.size + 1, 9, none⟩)) rfl (by kernel_rfl) (by kernel_rfl) (by kernel_rfl) (fun _ _ _ _ h => h) (by rfl) rfl (fun wz hS => by go_simp) HS0.out ?_
  try simp only [List.set_cons_zero, List.set_cons_succ]
  refine take_val 8 (.int .i64 bp) rfl (by kernel_rfl) (by kernel_rfl) (by kernel_rfl) (fun _ _ _ _ h => h) (by rfl) rfl (fun wz hS => by have hz := cell_of_row _ _ 9 _ _ _ hS.1.2; simp only [List.getElem?_toArray, List.getElem?_cons_zero, List.getElem?_cons_succ] at hz; go_simp) HS0.out ?_
  try simp only [List.set_cons_zero, List.set_cons_succ]
  refine take_val 10 (.pointer (some ⟨w.heap.size, 10, none⟩)) rfl (by kernel_rfl) (by kernel_rfl) (by kernel_rfl) (fun _ _ _ _ h => h) (by rfl) rfl (fun wz hS => by go_simp) HS0.out ?_
  try simp only [List.set_cons_zero, List.set_cons_succ]
  refine take_val 11 (.int .i64 aa) rfl (by kernel_rfl) (by kernel_rfl) (by kernel_rfl) (fun _ _ _ _ h => h) (by rfl) rfl (fun wz hS => by have hz := cell_of_row _ _ 10 _ _ _ hS.1.1; simp only [List.getElem?_toArray, List.getElem?_cons_zero, List.getElem?_cons_succ] at hz; go_simp) HS0.out ?_
  try simp only [List.set_cons_zero, List.set_cons_succ]
  refine take_val 12 (.pointer (some ⟨w.heap.size + 1, 10, none⟩)) rfl (by kernel_rfl) (by kernel_rfl) (by kernel_rfl) (fun _ _ _ _ h => h) (by rfl) rfl (fun wz hS => by go_simp) HS0.out ?_
  try simp only [List.set_cons_zero, List.set_cons_succ]
  refine take_val 13 (.int .i64 ba) rfl (by kernel_rfl) (by kernel_rfl) (by kernel_rfl) (fun _ _ _ _ h => h) (by rfl) rfl (fun wz hS => by have hz := cell_of_row _ _ 10 _ _ _ hS.1.2; simp only [List.getElem?_toArray, List.getElem?_cons_zero, List.getElem?_cons_succ] at hz; go_simp) HS0.out ?_
  try simp only [List.set_cons_zero, List.set_cons_succ]
  refine take_val 15 (.pointer (some ⟨w.heap.size, 11, none⟩)) rfl (by kernel_rfl) (by kernel_rfl) (by kernel_rfl) (fun _ _ _ _ h => h) (by rfl) rfl (fun wz hS => by go_simp) HS0.out ?_
  try simp only [List.set_cons_zero, List.set_cons_succ]
  refine take_val 16 (.int .i64 an) rfl (by kernel_rfl) (by kernel_rfl) (by kernel_rfl) (fun _ _ _ _ h => h) (by rfl) rfl (fun wz hS => by have hz := cell_of_row _ _ 11 _ _ _ hS.1.1; simp only [List.getElem?_toArray, List.getElem?_cons_zero, List.getElem?_cons_succ] at hz; go_simp) HS0.out ?_
  try simp only [List.set_cons_zero, List.set_cons_succ]
  refine take_val 17 (.pointer (some ⟨w.heap.size + 1, 11, none⟩)) rfl (by kernel_rfl) (by kernel_rfl) (by kernel_rfl) (fun _ _ _ _ h => h) (by rfl) rfl (fun wz hS => by go_simp) HS0.out ?_
  try simp only [List.set_cons_zero, List.set_cons_succ]
  refine take_val 18 (.int .i64 bn) rfl (by kernel_rfl) (by kernel_rfl) (by kernel_rfl) (fun _ _ _ _ h => h) (by rfl) rfl (fun wz hS => by have hz := cell_of_row _ _ 11 _ _ _ hS.1.2; simp only [List.getElem?_toArray, List.getElem?_cons_zero, List.getElem?_cons_succ] at hz; go_simp) HS0.out ?_
  try simp only [List.set_cons_zero, List.set_cons_succ]
  refine take_val 20 (.pointer (some ⟨w.heap.size, 8, none⟩)) rfl (by kernel_rfl) (by kernel_rfl) (by kernel_rfl) (fun _ _ _ _ h => h) (by rfl) rfl (fun wz hS => by go_simp) HS0.out ?_
  try simp only [List.set_cons_zero, List.set_cons_succ]
  refine take_val 21 (.int .i64 ak) rfl (by kernel_rfl) (by kernel_rfl) (by kernel_rfl) (fun _ _ _ _ h => h) (by rfl) rfl (fun wz hS => by have hz := cell_of_row _ _ 8 _ _ _ hS.1.1; simp only [List.getElem?_toArray, List.getElem?_cons_zero, List.getElem?_cons_succ] at hz; go_simp) HS0.out ?_
  try simp only [List.set_cons_zero, List.set_cons_succ]
  refine take_val 22 (.pointer (some ⟨w.heap.size + 1, 8, none⟩)) rfl (by kernel_rfl) (by kernel_rfl) (by kernel_rfl) (fun _ _ _ _ h => h) (by rfl) rfl (fun wz hS => by go_simp) HS0.out ?_
  try simp only [List.set_cons_zero, List.set_cons_succ]
  refine take_val 23 (.int .i64 bk) rfl (by kernel_rfl) (by kernel_rfl) (by kernel_rfl) (fun _ _ _ _ h => h) (by rfl) rfl (fun wz hS => by have hz := cell_of_row _ _ 8 _ _ _ hS.1.2; simp only [List.getElem?_toArray, List.getElem?_cons_zero, List.getElem?_cons_succ] at hz; go_simp) HS0.out ?_
  try simp only [List.set_cons_zero, List.set_cons_succ]
  refine wpAnyH_obls (γ := Nat) [25] (fun kx g w' => (kx = 25 → w'.heap[g]? = some (.cells #[.int .i64 r1, .int .i64 r2, .int .i64 r3, .int .i64 r4, .int .i64 r5] 3 (0, 0)))) [9, 14, 19, 24, 29, 30, 31, 4] (fun g => [.int .i64 r1, .int .i64 r2, .int .i64 r3, .int .i64 r4, .int .i64 r5, .slice (some ⟨g, 0, none⟩) 5 5, .int .i64 R, .int .i64 R]) [4, 9, 14, 19, 24, 25, 26, 27] 0 (by kernel_rfl) (by kernel_rfl) (by kernel_rfl) (by kernel_rfl) (by kernel_rfl) (by kernel_rfl) (by decide +kernel) (fun _ _ _ _ h => h) HS0.out ?_ ?_
  · skip
    refine .call _ 9 (.int .i64 r1) _ _ rfl (by decide) rfl (fun g => by kernel_rfl) (fun g u hS => by simp only [setAll, List.zip_cons_cons, List.zip_nil_right, List.foldl_cons, List.foldl_nil, List.set_cons_zero, List.set_cons_succ]; go_simp) (fun g u hS => (HI2.out u).mono (fun e w' ⟨he, hg⟩ => have hb := hg.below; ⟨he, ⟨⟨(hb.block _ (lt_of_block hS.1.1)).trans hS.1.1, (hb.block _ (lt_of_block hS.1.2)).trans hS.1.2⟩, hS.2.trans hg⟩, fun k _ hk e => (hb.block _ (lt_of_block (hk e))).trans (hk e)⟩)) (fun g => by rfl) ?_
    refine .call _ 14 (.int .i64 r2) _ _ rfl (by decide) rfl (fun g => by kernel_rfl) (fun g u hS => by simp only [setAll, List.zip_cons_cons, List.zip_nil_right, List.foldl_cons, List.foldl_nil, List.set_cons_zero, List.set_cons_succ]; go_simp) (fun g u hS => (HM2.out u).mono (fun e w' ⟨he, hw⟩ => by subst hw; exact ⟨he, hS, fun k _ hk e => hk e⟩)) (fun g => by rfl) ?_
    refine .call _ 19 (.int .i64 r3) _ _ rfl (by decide) rfl (fun g => by kernel_rfl) (fun g u hS => by simp only [setAll, List.zip_cons_cons, List.zip_nil_right, List.foldl_cons, List.foldl_nil, List.set_cons_zero, List.set_cons_succ]; go_simp) (fun g u hS => (HM3.out u).mono (fun e w' ⟨he, hw⟩ => by subst hw; exact ⟨he, hS, fun k _ hk e => hk e⟩)) (fun g => by rfl) ?_
    refine .call _ 24 (.int .i64 r4) _ _ rfl (by decide) rfl (fun g => by kernel_rfl) (fun g u hS => by simp only [setAll, List.zip_cons_cons, List.zip_nil_right, List.foldl_cons, List.foldl_nil, List.set_cons_zero, List.set_cons_succ]; go_simp) (fun g u hS => (HM4.out u).mono (fun e w' ⟨he, hw⟩ => by subst hw; exact ⟨he, hS, fun k _ hk e => hk e⟩)) (fun g => by rfl) ?_
    refine .call _ 29 (.int .i64 r5) _ _ rfl (by decide) rfl (fun g => by kernel_rfl) (fun g u hS => by simp only [setAll, List.zip_cons_cons, List.zip_nil_right, List.foldl_cons, List.foldl_nil, List.set_cons_zero, List.set_cons_succ]; go_simp) (fun g u hS => (HM5.out u).mono (fun e w' ⟨he, hw⟩ => by subst hw; exact ⟨he, hS, fun k _ hk e => hk e⟩)) (fun g => by rfl) ?_
    refine .mk _ 30 [] (by kernel_rfl) rfl rfl (fun g => by kernel_rfl) (fun g u hS hB => ⟨u.heap.size, .slice (some ⟨u.heap.size, 0, none⟩) 5 5, u.alloc (.cells #[.int .i64 r1, .int .i64 r2, .int .i64 r3, .int .i64 r4, .int .i64 r5] 3), by simp only [setAll, List.zip_cons_cons, List.zip_nil_right, List.foldl_cons, List.foldl_nil, List.set_cons_zero, List.set_cons_succ]; go_simp, by rfl, ⟨⟨(Below.heap_alloc u _ _ (lt_of_block hS.1.1)).trans hS.1.1, (Below.heap_alloc u _ _ (lt_of_block hS.1.2)).trans hS.1.2⟩, hS.2.alloc _⟩, fun _ => heap_alloc_new u _, fun k hk hne _ => absurd (List.mem_singleton.1 hk) hne, fun t ht => (show Differ [30] _ _ by simp only [List.zip_cons_cons, List.zip_nil_right]; repeat (first | exact .nil | refine .same ?_ | refine .diff (by decide) ?_)).get _ _ rfl (fun _ _ => rfl) t ht⟩) ?_
    refine .callB _ 31 (fun g => .int .i64 R) _ (fun g => #[.slice (some ⟨g, 0, none⟩) 5 5]) rfl (by decide) rfl (fun g => by kernel_rfl) (fun g u hS => by simp only [setAll, List.zip_cons_cons, List.zip_nil_right, List.foldl_cons, List.foldl_nil, List.set_cons_zero, List.set_cons_succ]; go_simp) (fun g u hS hB => (HO.out [r1, r2, r3, r4, r5] g 3 5 u (by simp) (hB 25 (by decide) (by kernel_rfl) rfl)).mono (fun e w' ⟨he, hw⟩ => by subst hw; exact ⟨he.trans (by rw [HE.out]), hS, fun k _ hk e => hk e⟩)) (fun g => by rfl) ?_
    refine .val _ 4 (fun g => .int .i64 R) rfl (by decide) rfl (fun g => by kernel_rfl) (fun g u hS hB => by simp only [setAll, List.zip_cons_cons, List.zip_nil_right, List.foldl_cons, List.foldl_nil, List.set_cons_zero, List.set_cons_succ]; go_simp) (fun g => by rfl) ?_
    exact .nil
  intro g u hS hB
  refine NoPanic.normal ?_
  simp only [setAll, List.zip_cons_cons, List.zip_nil_right, List.foldl_cons, List.foldl_nil, List.set_cons_zero, List.set_cons_succ]
  have HF := Lib.hid hS.2
  clear hS hB HS0
  go_wp2_with fail
  go_ret
  exact ⟨rfl, HF.out⟩
end Go.Proofs.Ytinjnclpiiohcaa
