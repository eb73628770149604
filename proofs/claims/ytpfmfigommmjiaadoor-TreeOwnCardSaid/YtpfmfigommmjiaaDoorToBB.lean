/- Joined: StaysI9, TreeOwnM. -/
import Derived.Test.YtpfmfigommmjiaaDoorToBA
import Derived.Test.YtpfmfigommmjiaaDoorToAZ
import Derived.Test.YtpfmfigommmjiaaDoorToAV
import Derived.Test.YtpfmfigommmjiaaDoorToAW
import Derived.Test.YtpfmfigommmjiaaDoorToAA
import Derived.Test.YtpfmfigommmjiaaDoorToAB
namespace Go.Proofs.YtpfmfigommmjiaaDoor
open Go.RowKit Plain
set_option linter.unusedVariables false
set_option linter.unusedSimpArgs false
set_option maxRecDepth 100000 in
set_option maxHeartbeats 4000000 in
theorem staysI9_any (g : Nat) (b : Option Addr) (cb : Nat) (l : List ID8) (w : World) (h : Amp idC (idC ((0, 0, 0, 0, 0, 0, 0, 0) : ID8)) 43 w g l i9P) (hb : SAt 8 idC w b l) (hl : l.length ≤ 17592186043904) :
    Calls Tryd.prog 12 #[.slice (some ⟨g, 0, none⟩) l.length (l.length + 3), .slice b l.length cb, .agg #[.int .u8 9, .int .u8 0, .int .u8 0, .int .u8 0, .int .u8 0, .int .u8 0, .int .u8 0, .int .u8 0]] w fun e w' => e = .returned (.bool true) ∧ Below w.heap.size w w' := by
  have HE : Hid (∀ u, Below w.heap.size w u → Calls Tryd.prog 29 #[.slice (some ⟨g, 0, none⟩) l.length (l.length + 3), .slice b l.length cb] u fun e w' => e = .returned (.bool true) ∧ Below u.heap.size u w') := by
    intro u hu
    refine (eqIds_any (some ⟨g, 0, none⟩) b (l.length + 3) cb l l u ((h.below hu).sat idC_length) (hb.below hu) (by omega) (by omega)).mono ?_
    rintro e w' ⟨⟨r, rfl, hr⟩, hb⟩
    obtain rfl : r = true := hr.2 rfl
    exact ⟨rfl, hb⟩
  have HF0 : Hid (∀ u, Below w.heap.size w u → u.rangeAt g (l.length * 8) [.int .u8 9, .int .u8 0, .int .u8 0, .int .u8 0, .int .u8 0, .int .u8 0, .int .u8 0, .int .u8 0]) := fun u hu j v hv => by
    have hj : j < 8 := by
      rcases Nat.lt_or_ge j 8 with h | h
      · exact h
      · rw [List.getElem?_eq_none (by simpa using h)] at hv; cases hv
    exact ((h.below hu).fill idC_length 0 j (by decide) hj).trans hv
  have HF1 : Hid (∀ u, Below w.heap.size w u → u.rangeAt g ((l.length + 1) * 8) [.int .u8 9, .int .u8 0, .int .u8 0, .int .u8 0, .int .u8 0, .int .u8 0, .int .u8 0, .int .u8 0]) := fun u hu j v hv => by
    have hj : j < 8 := by
      rcases Nat.lt_or_ge j 8 with h | h
      · exact h
      · rw [List.getElem?_eq_none (by simpa using h)] at hv; cases hv
    exact ((h.below hu).fill idC_length 1 j (by decide) hj).trans hv
  have E2 : Hid (∀ wx, (binOp .eql 43 (.agg #[.int .u8 9, .int .u8 0, .int .u8 0, .int .u8 0, .int .u8 0, .int .u8 0, .int .u8 0, .int .u8 0]) (.agg #[.int .u8 9, .int .u8 0, .int .u8 0, .int .u8 0, .int .u8 0, .int .u8 0, .int .u8 0, .int .u8 0])).run Tryd.prog wx = .ok (.bool true) wx) := (eqId8 i9P i9P true (decide_eq_true_iff.2 rfl)).1
  have E3 : Hid (∀ (o : BinOp) (x y : Operand) (wx : World), (eqGuard o 43 x y (.agg #[.int .u8 9, .int .u8 0, .int .u8 0, .int .u8 0, .int .u8 0, .int .u8 0, .int .u8 0, .int .u8 0]) (.agg #[.int .u8 9, .int .u8 0, .int .u8 0, .int .u8 0, .int .u8 0, .int .u8 0, .int .u8 0, .int .u8 0])).run Tryd.prog wx = .ok () wx) := (eqId8 i9P i9P true (decide_eq_true_iff.2 rfl)).2.2
  have HUT := Lib.hid Tryd.underlying43
  have HICT : Hid ((Tryd.prog.info? 43).map (·.size) = some 8) := by show _ = _; kernel_rfl
  have HB0 := Lib.hid ((Below.refl w.heap.size w).alloc (Nat.le_refl _) (.cells #[.int .u8 9, .int .u8 0, .int .u8 0, .int .u8 0, .int .u8 0, .int .u8 0, .int .u8 0, .int .u8 0] 43))
  have HX0 := Lib.hid (heap_alloc_new w (.cells #[.int .u8 9, .int .u8 0, .int .u8 0, .int .u8 0, .int .u8 0, .int .u8 0, .int .u8 0, .int .u8 0] 43))
  have e2 : IntKind.i64.wrap ((l.length : Int) + 2) = (l.length : Int) + 2 := wraps_i64 _ (by omega) (by omega)
  have e1 : IntKind.i64.wrap ((l.length : Int) + 1) = (l.length : Int) + 1 := wraps_i64 _ (by omega) (by omega)
  have k1 : (0 : Int) ≤ (l.length : Int) + 2 := by omega
  have k2 : (l.length : Int) + 2 ≤ (l.length : Int) + 3 := by omega
  have k3 : (0 : Int) ≤ (l.length : Int) := Int.natCast_nonneg _
  have k4 : (l.length : Int) < (l.length : Int) + 2 := by omega
  have k5 : ¬ ((l.length : Int) + 1 < 0) := by omega
  have k6 : (l.length : Int) + 1 < (l.length : Int) + 2 := by omega
  have t2 : ((l.length : Int) + 2).toNat = l.length + 2 := by omega
  have t1 : ((l.length : Int) + 1).toNat = l.length + 1 := by omega
  clear h hb
  go_enter Tryd.func12, Tryd.ntmps12
  go_wp2_with fail
  refine wp_region_noPanic ?_
  refine wp_region_held_drew (S := fun u => u.heap[w.heap.size]? = some (.cells #[.int .u8 9, .int .u8 0, .int .u8 0, .int .u8 0, .int .u8 0, .int .u8 0, .int .u8 0, .int .u8 0] 43 (0, 0)) ∧ Below w.heap.size w u) (by kernel_rfl) ⟨HX0.out, HB0.out.drew⟩ (fun hS0 => ?_)
  have HS0 := Lib.hid hS0
  clear hS0
  refine take_val 0 (.slice (some ⟨g, 0, none⟩) l.length (l.length + 3)) rfl (by kernel_rfl) (by kernel_rfl) (by kernel_rfl) (fun _ _ _ _ h => h) (by rfl) rfl (fun wz hS => by go_simp) HS0.out ?_
  try simp only [List.set_cons_zero, List.set_cons_succ]
  refine take_val 1 (.slice b l.length cb) rfl (by kernel_rfl) (by kernel_rfl) (by kernel_rfl) (fun _ _ _ _ h => h) (by rfl) rfl (fun wz hS => by go_simp) HS0.out ?_
  try simp only [List.set_cons_zero, List.set_cons_succ]
  refine take_call 2 (.bool true) (by kernel_rfl) rfl (by rfl) rfl (by go_simp) ((HE.out _ HS0.out.2).mono (fun e w' ⟨he, hb⟩ => ⟨he, (hb.block _ (lt_of_block HS0.out.1)).trans HS0.out.1, Below.step HS0.out.2 hb⟩)) ?_
  clear HS0
  intro u2 hS2
  have HS0 := Lib.hid hS2
  clear hS2
  try simp only [List.set_cons_zero, List.set_cons_succ]
  refine take_val 3 (.bool true) rfl (by kernel_rfl) (by kernel_rfl) (by kernel_rfl) (fun _ _ _ _ h => h) (by rfl) rfl (fun wz hS => by go_simp) HS0.out ?_
  try simp only [List.set_cons_zero, List.set_cons_succ]
  refine take_val 4 (.slice (some ⟨g, 0, none⟩) (l.length + 2) (l.length + 3)) rfl (by kernel_rfl) (by kernel_rfl) (by kernel_rfl) (fun _ _ _ _ h => h) (by rfl) rfl (fun wz hS => by go_simp) HS0.out ?_
  try simp only [List.set_cons_zero, List.set_cons_succ]
  refine take_val 5 (.slice (some ⟨g, 0, none⟩) l.length (l.length + 3)) rfl (by kernel_rfl) (by kernel_rfl) (by kernel_rfl) (fun _ _ _ _ h => h) (by rfl) rfl (fun wz hS => by go_simp) HS0.out ?_
  try simp only [List.set_cons_zero, List.set_cons_succ]
  refine take_val 6 (.int .i64 (l.length : Int)) rfl (by kernel_rfl) (by kernel_rfl) (by kernel_rfl) (fun _ _ _ _ h => h) (by rfl) rfl (fun wz hS => by go_simp) HS0.out ?_
  try simp only [List.set_cons_zero, List.set_cons_succ]
  refine take_val 7 (.pointer (some ⟨g, l.length * 8, none⟩)) rfl (by kernel_rfl) (by kernel_rfl) (by kernel_rfl) (fun _ _ _ _ h => h) (by rfl) rfl (fun wz hS => by go_simp) HS0.out ?_
  try simp only [List.set_cons_zero, List.set_cons_succ]
  refine take_row 8 (cs := [.int .u8 9, .int .u8 0, .int .u8 0, .int .u8 0, .int .u8 0, .int .u8 0, .int .u8 0, .int .u8 0]) rfl (by kernel_rfl) (by kernel_rfl) (by kernel_rfl) (fun _ _ _ _ h => h) (by rfl) rfl rfl rfl (fun u hS => HF0.out u hS.2) HUT.out rfl HICT.out HS0.out ?_
  try simp only [List.set_cons_zero, List.set_cons_succ]
  refine take_row 9 (cs := [.int .u8 9, .int .u8 0, .int .u8 0, .int .u8 0, .int .u8 0, .int .u8 0, .int .u8 0, .int .u8 0]) rfl (by kernel_rfl) (by kernel_rfl) (by kernel_rfl) (fun _ _ _ _ h => h) (by rfl) rfl rfl rfl (fun u hS => row_rangeA hS.1) HUT.out rfl HICT.out HS0.out ?_
  try simp only [List.set_cons_zero, List.set_cons_succ]
  refine take_val 10 (.bool true) rfl (by kernel_rfl) (by kernel_rfl) (by kernel_rfl) (fun _ _ _ _ h => h) (by rfl) rfl (fun wz hS => by exact val_binI rfl rfl rfl (E2.out wz) (E3.out _ _ _ wz)) HS0.out ?_
  try simp only [List.set_cons_zero, List.set_cons_succ]
  refine take_val 11 (.bool true) rfl (by kernel_rfl) (by kernel_rfl) (by kernel_rfl) (fun _ _ _ _ h => h) (by rfl) rfl (fun wz hS => by go_simp) HS0.out ?_
  try simp only [List.set_cons_zero, List.set_cons_succ]
  refine take_val 12 (.bool true) rfl (by kernel_rfl) (by kernel_rfl) (by kernel_rfl) (fun _ _ _ _ h => h) (by rfl) rfl (fun wz hS => by go_simp) HS0.out ?_
  try simp only [List.set_cons_zero, List.set_cons_succ]
  refine take_val 13 (.slice (some ⟨g, 0, none⟩) (l.length + 2) (l.length + 3)) rfl (by kernel_rfl) (by kernel_rfl) (by kernel_rfl) (fun _ _ _ _ h => h) (by rfl) rfl (fun wz hS => by go_simp) HS0.out ?_
  try simp only [List.set_cons_zero, List.set_cons_succ]
  refine take_val 14 (.slice (some ⟨g, 0, none⟩) l.length (l.length + 3)) rfl (by kernel_rfl) (by kernel_rfl) (by kernel_rfl) (fun _ _ _ _ h => h) (by rfl) rfl (fun wz hS => by go_simp) HS0.out ?_
  try simp only [List.set_cons_zero, List.set_cons_succ]
  refine take_val 15 (.int .i64 (l.length : Int)) rfl (by kernel_rfl) (by kernel_rfl) (by kernel_rfl) (fun _ _ _ _ h => h) (by rfl) rfl (fun wz hS => by go_simp) HS0.out ?_
  try simp only [List.set_cons_zero, List.set_cons_succ]
  refine take_val 16 (.int .i64 ((l.length : Int) + 1)) rfl (by kernel_rfl) (by kernel_rfl) (by kernel_rfl) (fun _ _ _ _ h => h) (by rfl) rfl (fun wz hS => by go_simp) HS0.out ?_
  try simp only [List.set_cons_zero, List.set_cons_succ]
  refine take_val 17 (.pointer (some ⟨g, (l.length + 1) * 8, none⟩)) rfl (by kernel_rfl) (by kernel_rfl) (by kernel_rfl) (fun _ _ _ _ h => h) (by rfl) rfl (fun wz hS => by go_simp) HS0.out ?_
  try simp only [List.set_cons_zero, List.set_cons_succ]
  refine take_row 18 (cs := [.int .u8 9, .int .u8 0, .int .u8 0, .int .u8 0, .int .u8 0, .int .u8 0, .int .u8 0, .int .u8 0]) rfl (by kernel_rfl) (by kernel_rfl) (by kernel_rfl) (fun _ _ _ _ h => h) (by rfl) rfl rfl rfl (fun u hS => HF1.out u hS.2) HUT.out rfl HICT.out HS0.out ?_
  try simp only [List.set_cons_zero, List.set_cons_succ]
  refine take_row 19 (cs := [.int .u8 9, .int .u8 0, .int .u8 0, .int .u8 0, .int .u8 0, .int .u8 0, .int .u8 0, .int .u8 0]) rfl (by kernel_rfl) (by kernel_rfl) (by kernel_rfl) (fun _ _ _ _ h => h) (by rfl) rfl rfl rfl (fun u hS => row_rangeA hS.1) HUT.out rfl HICT.out HS0.out ?_
  try simp only [List.set_cons_zero, List.set_cons_succ]
  refine take_val 20 (.bool true) rfl (by kernel_rfl) (by kernel_rfl) (by kernel_rfl) (fun _ _ _ _ h => h) (by rfl) rfl (fun wz hS => by exact val_binI rfl rfl rfl (E2.out wz) (E3.out _ _ _ wz)) HS0.out ?_
  try simp only [List.set_cons_zero, List.set_cons_succ]
  refine take_val 21 (.bool true) rfl (by kernel_rfl) (by kernel_rfl) (by kernel_rfl) (fun _ _ _ _ h => h) (by rfl) rfl (fun wz hS => by go_simp) HS0.out ?_
  try simp only [List.set_cons_zero, List.set_cons_succ]
  refine take_val 22 (.bool true) rfl (by kernel_rfl) (by kernel_rfl) (by kernel_rfl) (fun _ _ _ _ h => h) (by rfl) rfl (fun wz hS => by go_simp) HS0.out ?_
  try simp only [List.set_cons_zero, List.set_cons_succ]
  refine wpAnyH_done (by kernel_rfl) ?_ _
  refine NoPanic.normal ?_
  have HF := Lib.hid HS0.out.2
  clear HS0
  go_wp2_with fail
  go_ret
  exact ⟨rfl, HF.out⟩
end Go.Proofs.YtpfmfigommmjiaaDoor
namespace Go.Proofs.YtpfmfigommmjiaaDoor
open Go.RowKit Plain
set_option linter.unusedVariables false
set_option linter.unusedSimpArgs false
theorem owns_emptyT (w : World) (base : Nat) (e : TypeId) (k : Nat) (h : base ≤ w.heap.size) : (w.alloc (.cells #[] e)).ownsRow base e k (.slice (some ⟨w.heap.size, 0, none⟩) 0 0) 0 [] :=
  ⟨by simp, .inr ⟨w.heap.size, 0, #[], rfl, h, heap_alloc_new w _, Nat.le_refl _, by unfold maxLen; omega, by simp, by simp⟩⟩
def ClnEndT {α : Type} (T : TypeId) (k : Nat) (c : α → List Value) (w0 : World) (l : List α) (e : Ending) (w : World) : Prop := Below w0.heap.size w0 w ∧ ∃ a oc, e = .returned (.slice a l.length oc) ∧ w.ownsRow w0.heap.size T k (.slice a l.length oc) l.length (l.flatMap c)
--CLONE
set_option maxRecDepth 100000 in
theorem cloneNd_any (a : Option Addr) (cap : Nat) (l : List MN) (w : World) (h : SAt 7 mnC w a l) (hl : l.length * 88 ≤ 140737488355328) :
    Calls Tryd.prog 10 #[.slice a l.length cap] w (ClnEndT 40 7 mnC w l) := by
  obtain ⟨i0, hi0, hz0, hz1, hz2⟩ := info_nd
  cases a with
  | none =>
    have hn : l = [] := by
      cases l with
      | nil => rfl
      | cons y l => obtain ⟨g, off, e, _⟩ := h 0 (by simp); cases e
    subst hn
    clear h hl
    have hq := fun u : World => run_eql_slice_nil (P := Tryd.prog) u 34 40 none 0 cap Tryd.underlying34
    go_enter Tryd.func10, Tryd.ntmps10
    go_wp2_with fail
    go_ret
    exact ⟨Below.refl _ _, none, 0, rfl, World.ownsRow_nil _ _ _ _⟩
  | some ad =>
    have HB1 := Lib.hid ((Below.refl w.heap.size w).alloc (Nat.le_refl _) (.cells #[] 40))
    have HS := Lib.hid (h.below HB1.out)
    have HOWN := Lib.hid (owns_emptyT w w.heap.size 40 7 (Nat.le_refl _))
    have D3 : Hid (0 + l.length ≤ maxLen) := by show _ ≤ _; unfold maxLen; omega
    have D4 : Hid ((0 + l.length) * 88 ≤ 140737488355328) := by show _ ≤ _; omega
    have D5 : Hid (w.heap.size ≤ (w.alloc (.cells #[] 40)).heap.size) := HB1.out.size
    clear h hl
    have hq := fun u : World => run_eql_slice_nil (P := Tryd.prog) u 34 40 (some ad) l.length cap Tryd.underlying34
    go_enter Tryd.func10, Tryd.ntmps10
    go_wp2_with (at_builtin; refine wpList_append_sat rfl _ _ 34 rfl w.heap.size 40 i0 (.agg (mnC zND).toArray) 7 88 Tryd.underlying34 hi0 hz0 hz1 hz2 rfl (by decide) (.slice (some ⟨w.heap.size, 0, none⟩) 0 0) 0 [] rfl HOWN.out (some ad) cap l rfl HS.out (fun _ => rfl) (fun p => mnC_one p) D3.out D4.out D5.out ?_)
    intro v' w2 hown' hgrow
    have BW := Lib.hid (below_own HB1.out hgrow HB1.out.size HOWN.out (Nat.le_refl _))
    obtain ⟨oa3, oc3, rfl⟩ := own_formK hown'
    have OW := Lib.hid hown'
    clear hown' hgrow
    go_wp2_with fail
    go_ret
    exact ⟨BW.out, oa3, oc3, rfl, OW.out⟩
--AFTER
abbrev mPs (m : MN) : List ID8 := m.2.2.2.2.2.1.2.2
/-- a node whose parts lie anew -/
def reP (m : MN) (gp : Nat) : MN := (m.1, m.2.1, m.2.2.1, m.2.2.2.1, m.2.2.2.2.1, (some ⟨gp, 0, none⟩, (mPs m).length + 3, mPs m), m.2.2.2.2.2.2)
theorem reP_nd (m : MN) (gp : Nat) : ndOf (reP m gp) = ndOf m := rfl
theorem reP_mz {m : MN} {gp : Nat} (h : MZ m) : MZ (reP m gp) := h
def reL : List MN → List Nat → List MN
  | m :: l, g :: gs => reP m g :: reL l gs
  | l, _ => l
theorem reL_nil (l : List MN) : reL l [] = l := by cases l <;> rfl
theorem reL_length : ∀ (l : List MN) (gs : List Nat), (reL l gs).length = l.length
  | [], [] => rfl
  | [], _ :: _ => rfl
  | _ :: _, [] => rfl
  | m :: l, g :: gs => by rw [reL, List.length_cons, List.length_cons, reL_length l gs]
theorem reL_nd : ∀ (l : List MN) (gs : List Nat), (reL l gs).map ndOf = l.map ndOf
  | [], [] => rfl
  | [], _ :: _ => rfl
  | _ :: _, [] => rfl
  | m :: l, g :: gs => by rw [reL, List.map_cons, List.map_cons, reL_nd l gs, reP_nd]
theorem reL_get : ∀ (l : List MN) (gs : List Nat) (i : Nat) (m : MN), l[i]? = some m → (reL l gs)[i]? = some (match gs[i]? with
    | some g => reP m g
    | none => m)
  | [], _, i, m, h => by simp at h
  | p :: l, [], i, m, h => by rw [reL_nil, h]; simp
  | p :: l, g :: gs, 0, m, h => by
    obtain rfl := Option.some.inj h
    rfl
  | p :: l, g :: gs, i + 1, m, h => by
    rw [reL, List.getElem?_cons_succ, List.getElem?_cons_succ]
    exact reL_get l gs i m (by simpa using h)
theorem reL_snoc : ∀ (l : List MN) (gs : List Nat) (m : MN) (gp : Nat), l[gs.length]? = some m → reL l (gs ++ [gp]) = (reL l gs).set gs.length (reP m gp)
  | [], gs, m, gp, h => by simp at h
  | p :: l, [], m, gp, h => by
    obtain rfl := Option.some.inj h
    rw [List.nil_append, reL, reL_nil, reL_nil]
    rfl
  | p :: l, g :: gs, m, gp, h => by
    rw [List.cons_append, reL, reL, List.length_cons, List.set_cons_succ, reL_snoc l gs m gp (by simpa using h)]
theorem flat_put5 : ∀ (l : List MN) (i : Nat) (m m' : MN), l[i]? = some m → m'.1 = m.1 → m'.2.1 = m.2.1 → m'.2.2.1 = m.2.2.1 → m'.2.2.2.1 = m.2.2.2.1 → m'.2.2.2.2.1 = m.2.2.2.2.1 → m'.2.2.2.2.2.2 = m.2.2.2.2.2.2 →
    (l.flatMap mnC).take (i * 7 + 5) ++ ([.slice m'.2.2.2.2.2.1.1 (mPs m').length m'.2.2.2.2.2.1.2.1] ++ (l.flatMap mnC).drop (i * 7 + 5 + 1)) = (l.set i m').flatMap mnC
  | [], i, m, m', h, _, _, _, _, _, _ => by simp at h
  | p :: l, 0, m, m', h, h1, h2, h3, h4, h5, h6 => by
    obtain rfl := Option.some.inj h
    obtain ⟨p1, p2, p3, p4, p5, p6, p7⟩ := p
    obtain ⟨q1, q2, q3, q4, q5, q6, q7⟩ := m'
    simp only at h1 h2 h3 h4 h5 h6
    subst h1 h2 h3 h4 h5 h6
    simp [mnC]
  | p :: l, i + 1, m, m', h, h1, h2, h3, h4, h5, h6 => by
    have ih := flat_put5 l i m m' (by simpa using h) h1 h2 h3 h4 h5 h6
    rw [List.flatMap_cons, List.set_cons_succ, List.flatMap_cons, ← ih, show (i + 1) * 7 + 5 = 7 + (i * 7 + 5) by omega, show 7 + (i * 7 + 5) + 1 = 7 + (i * 7 + 5 + 1) by omega]
    rw [List.take_append, List.drop_append, mnC_length, List.take_of_length_le (by rw [mnC_length]; omega), List.drop_of_length_le (by rw [mnC_length]; omega), Nat.add_sub_cancel_left, Nat.add_sub_cancel_left, List.append_assoc, List.nil_append]
abbrev zI8 : List Value := idC ((0, 0, 0, 0, 0, 0, 0, 0) : ID8)
/-- the clone, whose first nodes' parts lie anew, with room behind them -/
structure TI (w0 w : World) (oa : Option Addr) (oc : Nat) (l : List MN) (gs : List Nat) : Prop where
  below : Below w0.heap.size w0 w
  own : w.ownsRow w0.heap.size 40 7 (.slice oa l.length oc) l.length ((reL l gs).flatMap mnC)
  le : gs.length ≤ l.length
  amp : ∀ (j gp : Nat) (m : MN), gs[j]? = some gp → l[j]? = some m → Amp idC zI8 43 w gp (mPs m) i9P ∧ w0.heap.size ≤ gp
theorem TI.keep {w0 w u : World} {oa : Option Addr} {oc : Nat} {l : List MN} {gs : List Nat} (h : TI w0 w oa oc l gs) (hb : Below w.heap.size w u) : TI w0 u oa oc l gs :=
  ⟨Below.step h.below hb, own_belowK h.own hb, h.le, fun j gp m h1 h2 => ⟨(h.amp j gp m h1 h2).1.below hb, (h.amp j gp m h1 h2).2⟩⟩
theorem TI.block {w0 w : World} {g oc : Nat} {l : List MN} {gs : List Nat} (h : TI w0 w (some ⟨g, 0, none⟩) oc l gs) : ∃ cur, w.heap[g]? = some (.cells cur 40 (0, 0)) ∧ w0.heap.size ≤ g ∧ cur.toList.take (l.length * 7) = (reL l gs).flatMap mnC := by
  rcases h.own.2 with ⟨e0, _⟩ | ⟨g', cap', cur, e0, hb, hg, hn, hm, hs, ht⟩
  · cases e0
  · injection e0 with e1 _ e3
    injection e1 with e1
    injection e1 with e1
    subst e1
    exact ⟨cur, hg, hb, ht⟩
theorem TI.put {w0 w : World} {g oc : Nat} {l : List MN} {gs : List Nat} {m : MN} {gp : Nat} (h : TI w0 w (some ⟨g, 0, none⟩) oc l gs) (hm : l[gs.length]? = some m) (ha : Amp idC zI8 43 w gp (mPs m) i9P) (hg : w0.heap.size ≤ gp) :
    TI w0 (w.setCell ⟨g, gs.length * 7 + 5, none⟩ (.slice (some ⟨gp, 0, none⟩) (mPs m).length ((mPs m).length + 3))) (some ⟨g, 0, none⟩) oc l (gs ++ [gp]) := by
  obtain ⟨cur, hgb, hbg, _⟩ := h.block
  have hi : gs.length < l.length := (List.getElem?_eq_some_iff.1 hm).1
  have hne : ∀ q m', Amp idC zI8 43 w q m' i9P → q ≠ g := by
    rintro q m' hq rfl
    have hq : w.heap[q]? = _ := hq
    rw [hgb] at hq
    injection hq with hq
    injection hq with _ hq _
    exact absurd hq (by decide)
  refine ⟨h.below.setCell hbg _, ?_, ?_, ?_⟩
  · have hfl : ((reL l gs).flatMap mnC).length = l.length * 7 := by rw [flat_length mnC_length, reL_length]
    have hx := own_setCells h.own (gs.length * 7 + 5) [.slice (some ⟨gp, 0, none⟩) (mPs m).length ((mPs m).length + 3)] (by rw [hfl]; simp only [List.length_singleton]; omega)
    have hrm : (reL l gs)[gs.length]? = some m := by rw [reL_get l gs _ m hm]; simp
    rw [show ([Value.slice (some ⟨gp, 0, none⟩) (mPs m).length ((mPs m).length + 3)] : List Value).length = 1 from rfl] at hx
    have hf := flat_put5 (reL l gs) gs.length m (reP m gp) hrm rfl rfl rfl rfl rfl rfl
    rw [← reL_snoc l gs m gp hm] at hf
    rw [← hf]
    exact hx
  · rw [List.length_append, List.length_singleton]; omega
  · intro j q m' h1 h2
    rcases Nat.lt_or_ge j gs.length with hj | hj
    · rw [List.getElem?_append_left hj] at h1
      obtain ⟨a1, a2⟩ := h.amp j q m' h1 h2
      refine ⟨?_, a2⟩
      show (w.setCell _ _).heap[q]? = _
      rw [heap_setCell_other w _ q _ (hne q _ a1)]
      exact a1
    · rw [List.getElem?_append_right hj] at h1
      have hj0 : j - gs.length = 0 := by
        have := (List.getElem?_eq_some_iff.1 h1).1
        simp at this
        omega
      rw [hj0] at h1
      obtain rfl : gp = q := by simpa using h1
      obtain rfl : j = gs.length := by omega
      rw [hm] at h2
      obtain rfl := Option.some.inj h2
      refine ⟨?_, hg⟩
      show (w.setCell _ _).heap[gp]? = _
      rw [heap_setCell_other w _ gp _ (hne gp _ ha)]
      exact ha
end Go.Proofs.YtpfmfigommmjiaaDoor
