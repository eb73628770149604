/- The walks of slices.Contains over places and of somePlace. -/
import Derived.Test.YtiokodjlijaddaaPlEq
import Derived.Test.YtiokodjlijaddaaIdxFind2
import Derived.Test.YtiokodjlijaddaaDrawn
namespace Go.Proofs.Ytiokodjlijaddaa
open Go.RowKit Plain
theorem val_bin {P : Program} {o : Oper} {a : Act} {x y : Operand} {t t2 : TypeId} {bo : BinOp} {u v : Value} {b : Bool} {w : World} (ho : o.op = .binOp bo t x y t2) (hx : a.eval x = u) (hy : a.eval y = v) (hr : (binOp bo t u v).run P w = .ok (.bool b) w) (hg : (eqGuard bo t x y u v).run P w = .ok () w) : (execOp a.eval o).run P w = .ok (.value (.bool b)) w := by
  unfold execOp
  simp only [ho, hx, hy, Sem.run_bind, hr, hg, Sem.run_pure, Result.andThen_ok]
theorem box_pl (w : World) (p : Pl) : (w.alloc (.cells (plC p).toArray 33)).heap[w.heap.size]? = some (.cells (plC p).toArray 33 (0, 0)) := heap_alloc_new w _
theorem row_range {w : World} {b : Nat} {t : TypeId} {l : List Value} (h : w.heap[b]? = some (.cells l.toArray t (0, 0))) : w.rangeAt b 0 l := fun j v hj => by
  rw [Nat.zero_add, cell_of_row _ _ _ _ _ _ h]
  simpa using hj
set_option maxRecDepth 100000 in
set_option maxHeartbeats 2000000 in
theorem indexPl_any (a : Option Addr) (cap : Nat) (l : List Pl) (p : Pl) (w : World) (h : SAt 12 plC w a l) (hl : l.length ≤ 9223372036854775807) (hp : p ∈ l) :
    Calls Try.prog 37 #[.slice a l.length cap, plV p] w fun e w' => (∃ i : Nat, e = .returned (.int .i64 (i : Int))) ∧ Below w.heap.size w w' := by
  have HS := Lib.hid h
  have HP := Lib.hid hp
  have HB0 := Lib.hid ((Below.refl w.heap.size w).alloc (Nat.le_refl _) (.cells (plC p).toArray 33))
  have HR0 := Lib.hid (box_pl w p)
  have hu := Try.underlying33
  have ICZ : Hid ((Try.prog.info? 33).map (·.size) = some 12) := by show _ = _; kernel_rfl
  have HPL : Hid ((plC p).length = 12) := plC_length _
  have HPA : Hid (plV p = .agg (plC p).toArray) := rfl
  unfold plV
  generalize hpc : plC p = pc at *
  clear h hp
  go_enter Try.func37, Try.ntmps37
  go_wp2_with fail
  generalize w.alloc (.cells pc.toArray 33) = w1 at *
  go_loopw [8] (fun iv wr => ∃ k : Nat, k ≤ l.length ∧ iv = .int .i64 (k : Int) ∧ (∀ j (h : j < l.length), j < k → l[j] ≠ p) ∧ wr.heap[w.heap.size]? = some (.cells pc.toArray 33 (0, 0)) ∧ Below w.heap.size w wr) (fun iv _ => l.length - (intOf iv).toNat)
  case atStart => exact ⟨0, Nat.zero_le _, rfl, fun j h hj => absurd hj (Nat.not_lt_zero _), HR0.out, HB0.out⟩
  case round =>
    obtain ⟨k, hk, rfl, hno, hrow, hbx⟩ := hrel
    have HNO := Lib.hid hno
    have HROW := Lib.hid hrow
    have HBX := Lib.hid hbx
    clear hno hrow hbx HB0 HR0
    by_cases hlt : k < l.length
    · have kk : (k : Int) < (l.length : Int) := by omega
      have k0 : (0 : Int) ≤ (k : Int) := Int.natCast_nonneg _
      obtain ⟨g, off, rfl, hg, hrng⟩ := (HS.out.below HBX.out) k hlt
      have HRG := Lib.hid hrng
      have HSTEP : Hid (l[k] ≠ p → ∀ j (h : j < l.length), j < k + 1 → l[j] ≠ p) := fun hne j h hj => by
        rcases Nat.lt_or_ge j k with h1 | h1
        · exact HNO.out j h h1
        · obtain rfl : j = k := by omega
          exact hne
      generalize hq : l[k] = q at *
      obtain ⟨b, hb⟩ : ∃ b, plE p q = b := ⟨_, rfl⟩
      obtain ⟨E1, _, E3⟩ := eqPl p q b hb
      rw [HPA.out] at E1 E3
      rw [show plV q = .agg (plC q).toArray from rfl] at E1 E3
      have HQL : Hid ((plC q).length = 12) := plC_length _
      have HBB : Hid (b = true ↔ p = q) := by rw [← hb]; exact plE_true
      generalize hqc : plC q = qc at *
      have HE1 := Lib.hid E1
      have HE3 := Lib.hid E3
      have ic1 : (Try.prog.info? 33).map (·.size) = some pc.length := by rw [HPL.out]; exact ICZ.out
      have ic2 : (Try.prog.info? 33).map (·.size) = some qc.length := by rw [HQL.out]; exact ICZ.out
      clear hrng hq hb E1 E3 hqc
      go_wp2_with fail
      refine wp_region_noPanic ?_
      refine wp_region_held_drew (S := fun w' => w'.rangeAt w.heap.size 0 pc ∧ w'.rangeAt g (off + k * 12) qc) (by kernel_rfl) ⟨row_range (show wr.drew.heap[w.heap.size]? = _ from HROW.out), HRG.out⟩ (fun hS0 => ?_)
      have HS0 := Lib.hid hS0
      have HR1 : Hid (wr.drew.heap[w.heap.size]? = some (.cells pc.toArray 33 (0, 0))) := HROW.out
      have HB1 : Hid (Below w.heap.size w wr.drew) := HBX.out.drew
      clear hS0 HROW HBX
      generalize wr.drew = v0 at *
      refine take_row 0 rfl (by kernel_rfl) (by kernel_rfl) (by kernel_rfl) (fun _ _ _ _ h => h) (by rfl) rfl rfl rfl (fun _ hS => hS.1) hu rfl ic1 HS0.out ?_
      try simp only [List.set_cons_zero, List.set_cons_succ]
      refine take_val 1 (.slice (some ⟨g, off, none⟩) l.length cap) rfl (by kernel_rfl) (by kernel_rfl) (by kernel_rfl) (fun _ _ _ _ h => h) (by rfl) rfl (fun w _ => by go_simp) HS0.out ?_
      try simp only [List.set_cons_zero, List.set_cons_succ]
      refine take_val 2 (.int .i64 (k : Int)) rfl (by kernel_rfl) (by kernel_rfl) (by kernel_rfl) (fun _ _ _ _ h => h) (by rfl) rfl (fun w _ => by go_simp) HS0.out ?_
      try simp only [List.set_cons_zero, List.set_cons_succ]
      refine take_val 3 (.pointer (some ⟨g, off + k * 12, none⟩)) rfl (by kernel_rfl) (by kernel_rfl) (by kernel_rfl) (fun _ _ _ _ h => h) (by rfl) rfl (fun w _ => by go_simp) HS0.out ?_
      try simp only [List.set_cons_zero, List.set_cons_succ]
      refine take_row 4 rfl (by kernel_rfl) (by kernel_rfl) (by kernel_rfl) (fun _ _ _ _ h => h) (by rfl) rfl rfl rfl (fun _ hS => hS.2) hu rfl ic2 HS0.out ?_
      try simp only [List.set_cons_zero, List.set_cons_succ]
      refine take_val 5 (.bool b) rfl (by kernel_rfl) (by kernel_rfl) (by kernel_rfl) (fun _ _ _ _ h => h) (by rfl) rfl (fun w _ => val_bin rfl rfl rfl (HE1.out w) (HE3.out _ _ _ w)) HS0.out ?_
      try simp only [List.set_cons_zero, List.set_cons_succ]
      refine wpAnyH_done (by kernel_rfl) ?_ _
      refine NoPanic.normal ?_
      cases b with
      | true =>
        clear HBB
        go_wp2_with fail
        go_ret
        exact ⟨⟨k, rfl⟩, HB1.out⟩
      | false =>
        have HN := Lib.hid (HSTEP.out (fun h => by have := HBB.out.2 h.symm; cases this))
        clear HBB HSTEP
        go_wp2_with fail
        go_roundw
        case rel => exact ⟨k + 1, by omega, by go_num, HN.out, HR1.out, HB1.out⟩
        case measure => simp [intOf]; omega
    · obtain rfl : k = l.length := by omega
      exfalso
      obtain ⟨j, hj, e⟩ := List.mem_iff_getElem.1 HP.out
      exact HNO.out j hj hj e
set_option maxRecDepth 100000 in
theorem containsPl_any (a : Option Addr) (cap : Nat) (l : List Pl) (p : Pl) (w : World) (h : SAt 12 plC w a l) (hl : l.length ≤ 9223372036854775807) (hp : p ∈ l) :
    Calls Try.prog 15 #[.slice a l.length cap, plV p] w fun e w' => e = .returned (.bool true) ∧ Below w.heap.size w w' := by
  have HB0 := Lib.hid ((Below.refl w.heap.size w).alloc (Nat.le_refl _) (.cells (plC p).toArray 33))
  have HI := Lib.hid (indexPl_any a cap l p (w.alloc (.cells (plC p).toArray 33)) (h.below HB0.out) hl hp)
  have HR0 := Lib.hid (box_pl w p)
  have HPL : Hid ((plC p).length = 12) := plC_length _
  unfold plV at HI ⊢
  generalize plC p = pc at *
  have ic1 : Hid ((Try.prog.info? 33).map (·.size) = some pc.toArray.size) := by
    have e : pc.toArray.size = 12 := HPL.out
    show _ = _
    rw [e]; kernel_rfl
  clear h hl hp
  go_enter Try.func15, Try.ntmps15
  go_wp2_with (with_reducible refine wpList_load_row rfl 33 (.tmp 3) rfl w.heap.size rfl 33 pc.toArray (0, 0) _ HR0.out Try.underlying33 rfl ?_ ?_; exact ic1.out)
  refine HI.out.mono ?_
  rintro e w2 ⟨⟨i, rfl⟩, hb⟩
  have i0 : (0 : Int) ≤ (i : Int) := Int.natCast_nonneg _
  have B := Lib.hid (Below.step HB0.out hb)
  clear hb
  go_wp2_with fail
  go_ret
  exact ⟨rfl, B.out⟩
set_option maxRecDepth 100000 in
theorem somePlace_any (w : World) : Calls Try.prog 14 #[] w fun e w' => e = .returned (plV ((1, 0, 0, 0, 0, 0, 0, 0), 1, 0, 0, 0)) ∧ Below w.heap.size w w' := by
  go_enter Try.func14, Try.ntmps14
  go_wp2_with fail
  exact bodyPost_ret (results_cell_row (p := 0) (ty := 33) rfl _ _ w.heap.size 33 _ (0, 0) _ rfl (heap_alloc_new w _) Try.underlying33 rfl (by kernel_rfl)) rfl ⟨rfl, (Below.refl _ _).alloc (Nat.le_refl _) _⟩
end Go.Proofs.Ytiokodjlijaddaa
